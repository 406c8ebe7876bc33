/- The abstract machine: AmCore, AmRel, AmSt, AmW, AmW2, AmW3. -/
import Derived.Calls
import Derived.Below
import Derived.Laws.Append
import Derived.Laws.AppendOwn
import Derived.Laws.CopyRow
import Derived.Laws.Rows
/- The abstract machine: values, store, operations, an executable interpreter. Nothing of a program in it. -/
namespace Go.AM
set_option linter.all false

inductive Own where
  | none
  | exact
  | fam (l e : Nat)
  deriving Inhabited

inductive AV where
  | undef
  | int (k : IntKind) (n : Int)
  | bool (b : Bool)
  | str (s : List Nat)
  | nilp
  | ptr (l off : Nat)
  | eptr (cs : List AV)
  | nils
  | sl (k : Nat) (own : Own) (len : Nat) (cs : List AV)
  | ms (k l off len : Nat)
  | nilm
  | mp (l : Nat)
  | nilf
  | fn (f : FuncId) (first cap : List AV)
  | agg (cs : List AV)
  | tup (vs : List AV)
  deriving Inhabited

/-- The cells that a value takes in memory. -/
def AV.cellsO : AV → Option (List AV)
  | .agg cs => some cs
  | .undef | .tup _ => .none
  | v => some [v]

inductive Trie (α : Type) where
  | leaf
  | node (l : Trie α) (v : Option α) (r : Trie α)

namespace Trie
set_option linter.all false
variable {α : Type}
def get : Trie α → Nat → Option α
  | .leaf, _ => .none
  | .node l v r, n => match n with
    | 0 => v
    | m + 1 => bif (m % 2).beq 0 then l.get (m / 2) else r.get (m / 2)
def left : Trie α → Trie α | .leaf => .leaf | .node l _ _ => l
def right : Trie α → Trie α | .leaf => .leaf | .node _ _ r => r
def val : Trie α → Option α | .leaf => .none | .node _ v _ => v
def setF : Nat → Trie α → Nat → Option α → Trie α
  | 0, t, _, _ => t
  | f + 1, t, n, x => match n with
    | 0 => .node t.left x t.right
    | m + 1 => bif (m % 2).beq 0 then .node (setF f t.left (m / 2) x) t.val t.right else .node t.left t.val (setF f t.right (m / 2) x)
def set (t : Trie α) (n : Nat) (x : Option α) : Trie α := setF (n + 1) t n x
end Trie

inductive AObj where
  | cells (cs : List AV)
  | map (kvs : List (AV × AV)) (bs : List Nat) (ck : Nat)
  | iter (m : Option Nat) (since : Nat) (seen : List Nat) (last : Nat)
  | fam (e : Nat)

structure St where
  next : Nat
  objs : Trie AObj

def St.get (σ : St) (l : Nat) : Option AObj := σ.objs.get l
def St.put (σ : St) (l : Nat) (o : AObj) : St := { σ with objs := σ.objs.set l (some o) }
def St.kill (σ : St) (l : Nat) : St := { σ with objs := σ.objs.set l .none }
def St.new (σ : St) (o : AObj) : St := { next := σ.next + 1, objs := σ.objs.set σ.next (some o) }

abbrev Fr := Trie AV
def Fr.at (fr : Fr) (t : Nat) : AV := match Trie.get fr t with | some v => v | .none => .undef
def Fr.put (fr : Fr) (t : Nat) (v : AV) : Fr := Trie.set fr t (some v)

inductive AX where
  | t (n : Nat)
  | c (v : AV)

/-- What the slots hold. -/
abbrev Env := Nat → AV

def AX.ev (fr : Env) : AX → AV
  | .t n => fr n
  | .c v => v

inductive AConv where
  | int (k : IntKind)
  | same
  | toBytes
  | toStr
  deriving DecidableEq

/-- What the operands of '==' are. -/
inductive EK where
  | num | str | bool | ptr | slice | map | func
  | agg (ks : List EK)

inductive AO where
  | mv (x : AX)
  | pick (c a b : AX)
  | alloc (z : List AV)
  | box (x : AX)
  | build (z : List AV) (ps : List (Nat × Nat × AX))
  | bsl (mt : Bool) (k len : Nat) (z : List AV) (ps : List (Nat × Nat × AX))
  | load1 (x : AX)
  | loadn (n : Nat) (x : AX)
  | store (n : Nat) (a v : AX)
  | nilck (x : AX)
  | bin (op : BinOp) (ek : EK) (x y : AX)
  | un (op : UnOp) (x : AX)
  | conv (c : AConv) (x : AX)
  | faddr (off : Nat) (x : AX)
  | iaddr (k : Nat) (x i : AX)
  | iarr (k n : Nat) (x i : AX)
  | sidx (x i : AX)
  | field (off : Nat) (n : Option Nat) (x : AX)
  | slc (k : Nat) (x : AX) (lo hi mx : Option AX)
  | sslc (x : AX) (lo hi : Option AX)
  | look (ek : EK) (z : AV) (ok : Bool) (m key : AX)
  | mapup (ek : EK) (m key v : AX)
  | mapdel (ek : EK) (m key : AX)
  | len (ek : EK) (x : AX)
  | app (mt : Bool) (k bytes : Nat) (s x : AX)
  | mx (xs : List AX)
  | mn (xs : List AX)
  | ext (x : AX) (i : Nat)
  | mkfn (f : FuncId) (first cap : List AX)
  | mkmap
  | range (x : AX)
  | next (x : AX)
  | entry (x : AX)
  | mksl (k bytes : Nat) (z : List AV) (len cap : AX)
  | call (f : FuncId) (args : List AX)
  | callv (g : AX) (args : List AX)
  | clr (k : Nat) (z : List AV) (x : AX)
  | slcx (k : Nat) (x lo hi : AX)
  | bad

structure AOp where
  dst : Option Nat
  guard : Option (Nat × Bool)
  op : AO

/- the operations -/

def listEq : List Nat → List Nat → Bool
  | [], [] => true
  | a :: x, b :: y => a.beq b && listEq x y
  | _, _ => false

def listLt : List Nat → List Nat → Bool
  | _, [] => false
  | [], _ :: _ => true
  | a :: x, b :: y => Nat.blt a b || (a.beq b && listLt x y)

def ownEq : Own → Own → Bool
  | .none, .none => true
  | .exact, .exact => true
  | .fam l e, .fam l' e' => l.beq l' && e.beq e'
  | _, _ => false

def kindEq : IntKind → IntKind → Bool
  | .i8, .i8 | .i16, .i16 | .i32, .i32 | .i64, .i64 | .u8, .u8 | .u16, .u16 | .u32, .u32 | .u64, .u64 => true
  | _, _ => false

def leafEq : EK → AV → AV → Option Bool
  | .num, .int k a, .int k' b => if kindEq k k' then some (a == b) else .none
  | .str, .str a, .str b => some (listEq a b)
  | .bool, .bool a, .bool b => some (a == b)
  | _, _, _ => .none

def leavesEq : List EK → List AV → List AV → Option Bool
  | [], [], [] => some true
  | k :: ks, a :: x, b :: y => match leafEq k a b, leavesEq ks x y with
    | some p, some q => some (p && q)
    | _, _ => .none
  | _, _, _ => .none

def aEq : EK → AV → AV → Option Bool
  | .ptr, .nilp, .nilp => some true
  | .ptr, .nilp, .ptr _ _ => some false
  | .ptr, .ptr _ _, .nilp => some false
  | .ptr, .nilp, .eptr _ => some false
  | .ptr, .eptr _, .nilp => some false
  | .slice, .nils, .nils => some true
  | .slice, .nils, .sl .. => some false
  | .slice, .sl .., .nils => some false
  | .slice, .nils, .ms .. => some false
  | .slice, .ms .., .nils => some false
  | .map, .nilm, .nilm => some true
  | .map, .nilm, .mp _ => some false
  | .map, .mp _, .nilm => some false
  | .func, .nilf, .nilf => some true
  | .func, .nilf, .fn .. => some false
  | .func, .fn .., .nilf => some false
  | .agg ks, .agg x, .agg y => leavesEq ks x y
  | .bool, .bool a, .bool b => some (a == b)
  | _, _, _ => .none

def eqOp : BinOp → Option Bool → Option AV
  | .eql, some b => some (.bool b)
  | .neq, some b => some (.bool !b)
  | _, _ => .none

def aBin (op : BinOp) (ek : EK) (x y : AV) : Option AV :=
  match x, y with
  | .int k a, .int k' b =>
    match op with
    | .shl => if b < 0 then .none else some (.int k (k.wrap (a * 2 ^ (min b.toNat k.bits))))
    | .shr => if b < 0 then .none else some (.int k (a.fdiv (2 ^ (min b.toNat k.bits))))
    | _ => if kindEq k k' then
      match op with
      | .add => some (.int k (k.wrap (a + b)))
      | .sub => some (.int k (k.wrap (a - b)))
      | .mul => some (.int k (k.wrap (a * b)))
      | .quo => if b = 0 then .none else some (.int k (k.wrap (a.tdiv b)))
      | .rem => if b = 0 then .none else some (.int k (a.tmod b))
      | .and => some (.int k (k.wrap ((BitVec.ofInt k.bits a &&& BitVec.ofInt k.bits b).toNat)))
      | .or => some (.int k (k.wrap ((BitVec.ofInt k.bits a ||| BitVec.ofInt k.bits b).toNat)))
      | .xor => some (.int k (k.wrap ((BitVec.ofInt k.bits a ^^^ BitVec.ofInt k.bits b).toNat)))
      | .eql => some (.bool (a == b))
      | .neq => some (.bool (a != b))
      | .lss => some (.bool (decide (a < b)))
      | .leq => some (.bool (decide (a ≤ b)))
      | .gtr => some (.bool (decide (a > b)))
      | .geq => some (.bool (decide (a ≥ b)))
      | _ => .none
      else .none
  | .str a, .str b =>
    match op with
    | .add => if a.length + b.length ≤ 1099511627776 then some (.str (a ++ b)) else .none
    | .eql => some (.bool (listEq a b))
    | .neq => some (.bool !(listEq a b))
    | .lss => some (.bool (listLt a b))
    | .leq => some (.bool (listLt a b || listEq a b))
    | .gtr => some (.bool !(listLt a b || listEq a b))
    | .geq => some (.bool !(listLt a b))
    | _ => .none
  | x, y => eqOp op (aEq ek x y)

def aUn (op : UnOp) (x : AV) : Option AV :=
  match op, x with
  | .neg, .int k n => some (.int k (k.wrap (0 - n)))
  | .xor, .int k n => some (.int k (k.wrap ((BitVec.ofInt k.bits (if k.signed then -1 else k.max) ^^^ BitVec.ofInt k.bits n).toNat)))
  | .not, .bool b => some (.bool !b)
  | _, _ => .none

def bytesOf : List AV → Option (List Nat)
  | [] => some []
  | .int .u8 n :: r => if 0 ≤ n ∧ n < 256 then match bytesOf r with | some l => some (n.toNat :: l) | .none => .none else .none
  | _ :: _ => .none

def byteCells (s : List Nat) : List AV := s.map fun n => .int .u8 (Int.ofNat n)

/-- A slice's length and its cells. -/
def view (k : Nat) (σ : St) : AV → Option (Nat × List AV)
  | .nils => some (0, [])
  | .sl k' _ len cs => if k.beq k' then some (len, cs) else .none
  | .ms k' l off len => if k.beq k' then match σ.get l with
    | some (.cells cs) => if off + len * k ≤ cs.length then some (len, (cs.drop off).take (len * k)) else .none
    | _ => .none
    else .none
  | .str s => if k.beq 1 then some (s.length, byteCells s) else .none
  | _ => .none

def aConv (c : AConv) (σ : St) (x : AV) : Option AV :=
  match c, x with
  | .int k, .int _ n => some (.int k (k.wrap n))
  | .same, .str s => some (.str s)
  | .toBytes, .str s => some (.sl 1 .none s.length (byteCells s))
  | .toStr, .str _ => .none
  | .toStr, x => match view 1 σ x with
    | some (_, cs) => match bytesOf cs with | some l => some (.str l) | .none => .none
    | .none => .none
  | _, _ => .none

def fillAt (cs : List AV) (off : Nat) (vs : List AV) : List AV := cs.take off ++ vs ++ cs.drop (off + vs.length)

def fillAll (fr : Env) : List AV → List (Nat × Nat × AX) → Option (List AV)
  | z, [] => some z
  | z, (off, size, x) :: r =>
    match (x.ev fr).cellsO with
    | some vs => if vs.length = size ∧ off + size ≤ z.length then fillAll fr (fillAt z off vs) r else .none
    | .none => .none

def rep (z : List AV) : Nat → List AV
  | 0 => []
  | n + 1 => z ++ rep z n

def asNat : AV → Option Nat
  | .int _ n => if 0 ≤ n then some n.toNat else .none
  | _ => .none

def optNat (fr : Env) (d : Nat) : Option AX → Option Nat
  | .none => some d
  | some x => asNat (x.ev fr)

def cutOwn (own : Own) (lo len : Nat) : Own :=
  match own with
  | .exact => .exact
  | .fam l e => if lo < len then .fam l e else .none
  | .none => .none

def aSlc (k : Nat) (fr : Env) (x : AV) (lo hi mx : Option AX) : Option AV :=
  match x with
  | .nils => match optNat fr 0 lo, optNat fr 0 hi, optNat fr 0 mx with
    | some 0, some 0, some 0 => some .nils
    | _, _, _ => .none
  | .sl k' own len cs => match optNat fr 0 lo, optNat fr len hi, optNat fr len mx with
    | some l, some h, some m =>
      if k = k' ∧ l ≤ h ∧ h ≤ m ∧ m ≤ len then
        let own' := match mx with
          | .none => if h = len then cutOwn own l len else .none
          | some _ => if h = m then .exact else .none
        some (.sl k own' (h - l) ((cs.drop (l * k)).take ((h - l) * k)))
      else .none
    | _, _, _ => .none
  | .ms k' b off len => if k.beq k' then match mx, optNat fr 0 lo, optNat fr len hi with
    | .none, some l, some h => if l < h ∧ h ≤ len ∨ l = 0 ∧ h = 0 then some (.ms k b (off + l * k) (h - l)) else if l = h ∧ h ≤ len then some (.sl k .none 0 []) else .none
    | some m, some l, some h => match asNat (m.ev fr) with
      | some m => if l ≤ h ∧ h ≤ m ∧ m ≤ len then (if m = 0 then some (.sl k .exact 0 []) else some .undef) else .none
      | .none => .none
    | _, _, _ => .none
    else .none
  | _ => .none

def aSslc (fr : Env) (x : AV) (lo hi : Option AX) : Option AV :=
  match x with
  | .str s => match optNat fr 0 lo, optNat fr s.length hi with
    | some l, some h => if l ≤ h ∧ h ≤ s.length then some (.str ((s.drop l).take (h - l))) else .none
    | _, _ => .none
  | _ => .none

def keyEq : EK → AV → AV → Option Bool
  | .agg ks, .agg a, .agg b => leavesEq ks a b
  | ek, x, y => leafEq ek x y

def keyOk : EK → AV → Bool
  | .agg ks, .agg cs => cs.length.beq ks.length
  | .agg _, _ => false
  | _, _ => true

def findK (ek : EK) (k : AV) : List (AV × AV) → Option (Option AV)
  | [] => some .none
  | (k', v) :: r => match keyEq ek k k' with
    | some true => some (some v)
    | some false => findK ek k r
    | .none => .none

def updK (ek : EK) (k v : AV) : List (AV × AV) → Option (List (AV × AV))
  | [] => some [(k, v)]
  | (k', v') :: r => match keyEq ek k k' with
    | some true => some ((k, v) :: r)
    | some false => match updK ek k v r with | some l => some ((k', v') :: l) | .none => .none
    | .none => .none

def delK (ek : EK) (k : AV) : List (AV × AV) → Option (List (AV × AV))
  | [] => some []
  | (k', v') :: r => match keyEq ek k k' with
    | some true => some r
    | some false => match delK ek k r with | some l => some ((k', v') :: l) | .none => .none
    | .none => .none

def idxK (ek : EK) (k : AV) : List (AV × AV) → Option (Option Nat)
  | [] => some .none
  | (k', _) :: r => match keyEq ek k k' with
    | some true => some (some 0)
    | some false => (idxK ek k r).map (·.map (· + 1))
    | .none => .none

def foldInts (f : Int → Int → Int) (k : IntKind) : Int → List AV → Option AV
  | a, [] => some (.int k a)
  | a, .int k' b :: r => if kindEq k k' then foldInts f k (f a b) r else .none
  | _, _ => .none

def maxInts : List AV → Option AV
  | .int k a :: r => foldInts (fun x y => if y > x then y else x) k a r
  | _ => .none

def minInts : List AV → Option AV
  | .int k a :: r => foldInts (fun x y => if y < x then y else x) k a r
  | _ => .none

def room : Nat := 1099511627776

def aApp (mt : Bool) (k bytes : Nat) (σ : St) (s x : AV) : Option (AV × St) :=
  match view k σ x with
  | .none => .none
  | some (n, xs) =>
    if n = 0 then match s with
      | .nils => some (.nils, σ)
      | .sl k' own len cs => if k.beq k' then some (.sl k' own len cs, σ) else .none
      | .ms k' l off len => some (.ms k' l off len, σ)
      | _ => .none
    else match s with
    | .nils => if n * bytes ≤ room then
        if mt then some (.ms k σ.next 0 n, σ.new (.cells xs)) else some (.sl k (.fam σ.next n) n xs, σ.new (.fam n))
      else .none
    | .sl k' own len cs => if k = k' ∧ (len + n) * bytes ≤ room then match own with
        | .exact => if mt then some (.ms k σ.next 0 (len + n), σ.new (.cells (cs ++ xs))) else some (.sl k (.fam σ.next (len + n)) (len + n) (cs ++ xs), σ.new (.fam (len + n)))
        | .fam l e => if mt then .none else match σ.get l with
          | some (.fam e') => if e.beq e' then some (.sl k (.fam l (e + n)) (len + n) (cs ++ xs), σ.put l (.fam (e + n))) else .none
          | _ => .none
        | .none => .none
      else .none
    | .ms k' l off len => if k.beq k' && decide ((len + n) * bytes ≤ room) then match σ.get l with
        | some (.cells cs) => if Nat.blt 0 k && Nat.ble (off + (len + n) * k) cs.length then some (.ms k l off (len + n), σ.put l (.cells (fillAt cs (off + len * k) xs)))
          else if (off + len * k).beq cs.length then some (.ms k σ.next 0 (len + n), (σ.kill l).new (.cells (cs.drop off ++ xs))) else .none
        | _ => .none
      else .none
    | _ => .none

def aLoad (σ : St) (n : Nat) : AV → Option (List AV)
  | .ptr l off => match σ.get l with
    | some (.cells cs) => if off + n ≤ cs.length then some ((cs.drop off).take n) else .none
    | _ => .none
  | .eptr cs => if n ≤ cs.length then some (cs.take n) else .none
  | _ => .none

def aLen : EK → St → AV → Option Nat
  | .str, _, .str s => some s.length
  | .slice, _, .nils => some 0
  | .slice, _, .sl _ _ len _ => some len
  | .slice, _, .ms _ _ _ len => some len
  | .map, _, .nilm => some 0
  | .map, σ, .mp l => match σ.get l with | some (.map kvs _ _) => some kvs.length | _ => .none
  | _, _, _ => .none

def evs (fr : Env) (xs : List AX) : List AV := xs.map (AX.ev fr)

abbrev Calls' := FuncId → List AV → St → Option (AV × St)

def pickV (c x y : AV) : Option AV := match c with | .bool true => some x | .bool false => some y | _ => .none

def nilckV (x : AV) : Option AV := match x with | .ptr l off => some (.ptr l off) | .eptr cs => some (.eptr cs) | _ => .none

def faddrV (off : Nat) (x : AV) : Option AV := match x with | .ptr l o => some (.ptr l (o + off)) | .eptr cs => some (.eptr (cs.drop off)) | _ => .none

def iaddrV (k : Nat) (x j : AV) : Option AV := match x, j with
  | .sl k' _ len cs, .int _ n => if k = k' ∧ 0 ≤ n ∧ n < len then some (.eptr (cs.drop (n.toNat * k))) else .none
  | .ms k' l off len, .int _ n => if k = k' ∧ 0 ≤ n ∧ n < len then some (.ptr l (off + n.toNat * k)) else .none
  | _, _ => .none

def iarrV (k len : Nat) (x j : AV) : Option AV := match x, j with
  | .ptr l off, .int _ n => if 0 ≤ n ∧ n < len then some (.ptr l (off + n.toNat * k)) else .none
  | _, _ => .none

def sidxV (x j : AV) : Option AV := match x, j with
  | .str s, .int _ n => if 0 ≤ n then match s[n.toNat]? with | some b => some (.int .u8 (Int.ofNat b)) | .none => .none else .none
  | _, _ => .none

def fieldV (off : Nat) (n : Option Nat) (x : AV) : Option AV := match x with
  | .agg cs => match n with
    | .none => cs[off]?
    | some n => if off + n ≤ cs.length then some (.agg ((cs.drop off).take n)) else .none
  | _ => .none

def extV (x : AV) (i : Nat) : Option AV := match x with | .tup vs => vs[i]? | _ => .none

def load1V (σ : St) (x : AV) : Option AV := match aLoad σ 1 x with | some [v] => some v | _ => .none

def loadnV (σ : St) (n : Nat) (x : AV) : Option AV := match aLoad σ n x with | some cs => some (.agg cs) | .none => .none

def lookV (ek : EK) (z : AV) (ok : Bool) (σ : St) (m key : AV) : Option AV :=
  if keyOk ek key then match (match m with
      | .nilm => some .none
      | .mp l => match σ.get l with | some (.map kvs _ _) => findK ek key kvs | _ => .none
      | _ => .none : Option (Option AV)) with
    | some (some v) => some (if ok then .tup [v, .bool true] else v)
    | some .none => some (if ok then .tup [z, .bool false] else z)
    | .none => .none
  else .none

def lenV (ek : EK) (σ : St) (x : AV) : Option AV := match aLen ek σ x with | some n => some (.int .i64 n) | .none => .none

def storeS (n : Nat) (σ : St) (x y : AV) : Option St := match x with
  | .ptr l off => match σ.get l with
    | some (.cells cs) => match y.cellsO with
      | some vs => if vs.length = n ∧ off + n ≤ cs.length then some (σ.put l (.cells (fillAt cs off vs))) else .none
      | .none => .none
    | _ => .none
  | _ => .none

def mapupS (ek : EK) (σ : St) (m key v : AV) : Option St := match m with
  | .mp l => match σ.get l with
    | some (.map kvs bs ck) => if keyOk ek key then match idxK ek key kvs with
      | some (some j) => some (σ.put l (.map (kvs.set j (key, v)) bs ck))
      | some .none => some (σ.put l (.map (kvs ++ [(key, v)]) (bs ++ [ck]) (ck + 1)))
      | .none => .none
      else .none
    | _ => .none
  | _ => .none

def mapdelS (ek : EK) (σ : St) (m key : AV) : Option St := match m with
  | .mp l => match σ.get l with
    | some (.map kvs bs ck) => if keyOk ek key then match idxK ek key kvs with
      | some (some j) => some (σ.put l (.map (kvs.eraseIdx j) (bs.eraseIdx j) ck))
      | some .none => some (σ.put l (.map kvs bs ck))
      | .none => .none
      else .none
    | _ => .none
  | _ => .none

def memN (n : Nat) : List Nat → Bool
  | [] => false
  | m :: r => m.beq n || memN n r

def allGe (n : Nat) : List Nat → Bool
  | [] => true
  | m :: r => Nat.ble n m && allGe n r

/-- The entries that have not been seen. -/
def unseen (seen : List Nat) : List (AV × AV) → List Nat → List (AV × AV × Nat)
  | (k, v) :: r, b :: bs => if memN b seen then unseen seen r bs else (k, v, b) :: unseen seen r bs
  | _, _ => []

def atStamp (s : Nat) : List (AV × AV) → List Nat → Option (AV × AV)
  | (k, v) :: r, b :: bs => if b.beq s then some (k, v) else atStamp s r bs
  | _, _ => .none

def rangeS (σ : St) (x : AV) : Option (AV × St) := match x with
  | .nilm => some (.ptr σ.next 0, σ.new (.iter .none 0 [] 0))
  | .mp l => match σ.get l with
    | some (.map _ _ ck) => some (.ptr σ.next 0, σ.new (.iter (some l) ck [] ck))
    | _ => .none
  | _ => .none

def nextS (σ : St) (x : AV) : Option (AV × St) := match x with
  | .ptr l 0 => match σ.get l with
    | some (.iter .none _ _ _) => some (.tup [.bool false], σ)
    | some (.iter (some lm) since seen last) => match σ.get lm with
      | some (.map kvs bs ck) => if !seen.isEmpty && (!bs.isEmpty && allGe last bs) then .none else match unseen seen kvs bs with
        | [] => some (.tup [.bool false], σ)
        | [(k, v, b)] => if Nat.blt b since then some (.tup [.bool true, k, v], σ.put l (.iter (some lm) since (seen ++ [b]) ck)) else .none
        | _ => .none
      | _ => .none
    | _ => .none
  | _ => .none

def entryV (σ : St) (x : AV) : Option AV := match x with
  | .ptr l 0 => match σ.get l with
    | some (.iter (some lm) _ seen last) => match σ.get lm, seen.getLast? with
      | some (.map kvs bs ck), some s => if ck.beq last then match atStamp s kvs bs with
        | some (k, v) => some (.tup [k, v])
        | .none => .none
        else .none
      | _, _ => .none
    | _ => .none
  | _ => .none

def mkslS (k bytes : Nat) (z : List AV) (σ : St) (x y : AV) : Option (AV × St) := match asNat x, asNat y with
  | some n, some c => if n ≤ c ∧ c * bytes ≤ room then
      if n = 0 then some (.sl k (.fam σ.next 0) 0 [], σ.new (.fam 0)) else some (.ms k σ.next 0 n, σ.new (.cells (rep z n)))
    else .none
  | _, _ => .none

def bslS (mt : Bool) (k len : Nat) (z : List AV) (fr : Env) (σ : St) (qs : List (Nat × Nat × AX)) : Option (AV × St) := match fillAll fr (rep z len) qs with
  | some cs => if mt then some (.ms k σ.next 0 len, σ.new (.cells cs)) else some (.sl k .exact len cs, σ)
  | .none => .none

/-- A slice up to where an object's cells are known. -/
def slcxV (k : Nat) (σ : St) (x lo hi : AV) : Option AV := match x with
  | .ms k' l off _ => if k.beq k' && Nat.blt 0 k then match σ.get l, asNat lo, asNat hi with
    | some (.cells cs), some n, some m => if n ≤ m ∧ off + m * k ≤ cs.length then (if n < m then some (.ms k l (off + n * k) (m - n)) else some (.sl k .none 0 [])) else .none
    | _, _, _ => .none
    else .none
  | _ => .none

/-- Cells that are laid to nought. -/
def clrS (k : Nat) (z : List AV) (σ : St) (x : AV) : Option St := match x with
  | .nils => some σ
  | .sl _ _ 0 _ => some σ
  | .ms k' l off len => if k.beq k' then match σ.get l with
    | some (.cells cs) => if len = 0 then some σ else if off + len * k ≤ cs.length then some (σ.put l (.cells (fillAt cs off (rep z len)))) else .none
    | _ => .none
    else .none
  | _ => .none

def wrapV (σ : St) : Option AV → Option (AV × St) | some v => some (v, σ) | .none => .none
def wrapS (v : AV) : Option St → Option (AV × St) | some σ => some (v, σ) | .none => .none

def aOp (calls : Calls') (fr : Env) (σ : St) : AO → Option (AV × St)
  | .mv x => some (x.ev fr, σ)
  | .pick c a b => wrapV σ (pickV (c.ev fr) (a.ev fr) (b.ev fr))
  | .alloc z => some (.ptr σ.next 0, σ.new (.cells z))
  | .box x => match (x.ev fr).cellsO with | some cs => some (.ptr σ.next 0, σ.new (.cells cs)) | .none => .none
  | .build z ps => match fillAll fr z ps with | some cs => some (.agg cs, σ) | .none => .none
  | .bsl mt k len z ps => bslS mt k len z fr σ ps
  | .load1 x => wrapV σ (load1V σ (x.ev fr))
  | .loadn n x => wrapV σ (loadnV σ n (x.ev fr))
  | .store n a v => wrapS .undef (storeS n σ (a.ev fr) (v.ev fr))
  | .nilck x => wrapV σ (nilckV (x.ev fr))
  | .bin op ek x y => wrapV σ (aBin op ek (x.ev fr) (y.ev fr))
  | .un op x => wrapV σ (aUn op (x.ev fr))
  | .conv c x => wrapV σ (aConv c σ (x.ev fr))
  | .faddr off x => wrapV σ (faddrV off (x.ev fr))
  | .iaddr k x i => wrapV σ (iaddrV k (x.ev fr) (i.ev fr))
  | .iarr k len x i => wrapV σ (iarrV k len (x.ev fr) (i.ev fr))
  | .sidx x i => wrapV σ (sidxV (x.ev fr) (i.ev fr))
  | .field off n x => wrapV σ (fieldV off n (x.ev fr))
  | .slc k x lo hi mx => wrapV σ (aSlc k fr (x.ev fr) lo hi mx)
  | .sslc x lo hi => wrapV σ (aSslc fr (x.ev fr) lo hi)
  | .look ek z ok m key => wrapV σ (lookV ek z ok σ (m.ev fr) (key.ev fr))
  | .mapup ek m key v => wrapS .undef (mapupS ek σ (m.ev fr) (key.ev fr) (v.ev fr))
  | .mapdel ek m key => wrapS (.tup []) (mapdelS ek σ (m.ev fr) (key.ev fr))
  | .len ek x => wrapV σ (lenV ek σ (x.ev fr))
  | .app mt k bytes s x => aApp mt k bytes σ (s.ev fr) (x.ev fr)
  | .mx xs => wrapV σ (maxInts (evs fr xs))
  | .mn xs => wrapV σ (minInts (evs fr xs))
  | .ext x i => wrapV σ (extV (x.ev fr) i)
  | .mkfn f first cap => some (.fn f (evs fr first) (evs fr cap), σ)
  | .mkmap => some (.mp σ.next, σ.new (.map [] [] 0))
  | .range x => rangeS σ (x.ev fr)
  | .next x => nextS σ (x.ev fr)
  | .entry x => wrapV σ (entryV σ (x.ev fr))
  | .mksl k bytes z len cap => mkslS k bytes z σ (len.ev fr) (cap.ev fr)
  | .call f args => calls f (evs fr args) σ
  | .callv g args => match g.ev fr with
    | .fn f first cap => calls f (first ++ evs fr args ++ cap) σ
    | _ => .none
  | .clr k z x => wrapS (.tup []) (clrS k z σ (x.ev fr))
  | .slcx k x lo hi => wrapV σ (slcxV k σ (x.ev fr) (lo.ev fr) (hi.ev fr))
  | .bad => .none

/-- Is a guarded operation wanted? none: it can't be told. -/
def wanted (fr : Env) : Option (Nat × Bool) → Option Bool
  | .none => some true
  | some (t, b) => match fr t with
    | .bool c => some (c == b)
    | .tup [] => some false
    | _ => .none

def putDst (fr : Fr) (d : Option Nat) (v : AV) : Fr := match d with | some t => fr.put t v | .none => fr

def aStep (calls : Calls') (fr : Env) (σ : St) (o : AOp) : Option (AV × St) :=
  match wanted fr o.guard with
  | some true => aOp calls fr σ o.op
  | some false => some (.tup [], σ)
  | .none => .none

def aOps (calls : Calls') : List AOp → Fr → St → Option (Fr × St)
  | [], fr, σ => some (fr, σ)
  | o :: r, fr, σ => match aStep calls fr.at σ o with
    | some (v, σ') => aOps calls r (putDst fr o.dst v) σ'
    | .none => .none

/- regions that draw their order -/

mutual
def AV.beq : AV → AV → Bool
  | .undef, .undef => true
  | .int k n, .int k' m => kindEq k k' && n == m
  | .bool a, .bool b => a == b
  | .str a, .str b => listEq a b
  | .nilp, .nilp => true
  | .ptr l o, .ptr l' o' => l.beq l' && o.beq o'
  | .eptr a, .eptr b => beqL a b
  | .nils, .nils => true
  | .sl k w n a, .sl k' w' n' b => k.beq k' && ownEq w w' && n.beq n' && beqL a b
  | .ms k l o n, .ms k' l' o' n' => k.beq k' && l.beq l' && o.beq o' && n.beq n'
  | .nilm, .nilm => true
  | .mp l, .mp l' => l.beq l'
  | .nilf, .nilf => true
  | .fn f a c, .fn g b d => f.beq g && beqL a b && beqL c d
  | .agg a, .agg b => beqL a b
  | .tup a, .tup b => beqL a b
  | _, _ => false
def beqL : List AV → List AV → Bool
  | [], [] => true
  | a :: x, b :: y => a.beq b && beqL x y
  | _, _ => false
end

/-- An operation that changes the store, makes an object, or calls. -/
def AO.loud : AO → Bool
  | .alloc _ | .box _ | .store .. | .mapup .. | .mapdel .. | .app .. | .mkmap | .range _ | .next _ | .mksl .. | .call .. | .callv .. | .clr .. => true
  | .bsl mt .. => mt
  | _ => false

/-- An operation that looks into the store. -/
def AO.reads : AO → Bool
  | .load1 _ | .loadn .. | .look .. | .entry _ => true
  | .len .map _ => true
  | .conv .toStr _ => true
  | _ => false

/-- A region that draws: its operations, their ancestors (a bit each), an order in which they are carried out here, what is looked at again (operation i behind k loud ones), and an allocation that is carried out here later than it may be. -/
structure DR where
  ops : List AOp
  anc : List Nat
  ord : List Nat
  chks : List (Nat × Nat)
  late : Option Nat

/-- Along the order: the frame, the states (the last first). -/
def dRun (calls : Calls') (ops : List AOp) : List Nat → Fr → List St → Option (Fr × List St)
  | [], fr, sts => some (fr, sts)
  | i :: r, fr, sts => match ops[i]?, sts with
    | some o, σ :: rest => match aStep calls fr.at σ o with
      | some (v, σ') => dRun calls ops r (putDst fr o.dst v) (if o.op.loud then σ' :: σ :: rest else σ :: rest)
      | .none => .none
    | _, _ => .none

def writer : Nat → List AOp → Nat → Option Nat
  | _, [], _ => .none
  | i, o :: r, t => match o.dst with
    | some d => if d.beq t then some i else writer (i + 1) r t
    | .none => writer (i + 1) r t

/-- What operation i finds in a slot. -/
def opd (d : DR) (fr0 fr1 : Env) (i : Nat) : Env := fun t =>
  match writer 0 d.ops t with
  | some j => if (d.anc.getD i 0).testBit j then fr1 t else fr0 t
  | .none => fr0 t

def dChk (calls : Calls') (d : DR) (fr0 fr1 : Env) (sts : List St) : List (Nat × Nat) → Bool
  | [] => true
  | (i, k) :: r => (match d.ops[i]?, sts[k]? with
    | some o, some σ => match aStep calls (opd d fr0 fr1 i) σ o with
      | some (v, _) => (match o.dst with | some t => v.beq (fr1 t) | .none => true)
      | .none => false
    | _, _ => false) && dChk calls d fr0 fr1 sts r

def dExec (calls : Calls') (d : DR) (fr : Fr) (σ : St) : Option (Fr × St) :=
  match dRun calls d.ops d.ord fr [σ] with
  | some (fr', σ' :: rest) => if dChk calls d fr.at fr'.at (σ' :: rest).reverse d.chks then some (fr', σ') else .none
  | _ => .none

inductive AC where
  | skip
  | reg (ops : List AOp)
  | dreg (d : DR)
  | seq (a b : AC)
  | cond (c : AX) (a b : AC)
  | block (id : Nat) (c : AC)
  | loop (c : AC)
  | scope (c : AC)
  | keep (d : Nat) (ts : List Nat) (c : AC)
  | exit (id : Nat)
  | ret

inductive AExit where
  | normal
  | exit (id : Nat)
  | ret

/-- A frame of which nothing is known. -/
def fullT : Nat → Fr
  | 0 => .leaf
  | d + 1 => .node (fullT d) (some .undef) (fullT d)

def putAll : List (Nat × AV) → Fr → Fr
  | [], fr => fr
  | (t, v) :: r, fr => putAll r (fr.put t v)

def frL (d : Nat) (l : List (Nat × AV)) : Fr := putAll l (fullT d)

/-- Of a frame some slots. -/
def keepFr (d : Nat) (ts : List Nat) (fr : Fr) : Fr := frL d (ts.map fun t => (t, fr.at t))

abbrev Run := Fr → St → Option (AExit × Fr × St)

def aLoop (body : Run) : Nat → Run
  | 0, _, _ => .none
  | k + 1, fr, σ => match body fr σ with
    | some (.normal, fr', σ') => aLoop body k fr' σ'
    | some (.exit id, fr', σ') => some (.exit id, fr', σ')
    | some (.ret, fr', σ') => some (.ret, fr', σ')
    | .none => .none

def aExec (calls : Calls') (k : Nat) : AC → Run
  | .skip, fr, σ => some (.normal, fr, σ)
  | .reg ops, fr, σ => match aOps calls ops fr σ with | some (fr', σ') => some (.normal, fr', σ') | .none => .none
  | .dreg d, fr, σ => match dExec calls d fr σ with | some (fr', σ') => some (.normal, fr', σ') | .none => .none
  | .scope c, fr, σ => aExec calls k c fr σ
  | .keep d ts c, fr, σ => aExec calls k c (keepFr d ts fr) σ
  | .seq a b, fr, σ => match aExec calls k a fr σ with
    | some (.normal, fr', σ') => aExec calls k b fr' σ'
    | some (.exit id, fr', σ') => some (.exit id, fr', σ')
    | some (.ret, fr', σ') => some (.ret, fr', σ')
    | .none => .none
  | .cond c a b, fr, σ => match c.ev fr.at with
    | .bool true => aExec calls k a fr σ
    | .bool false => aExec calls k b fr σ
    | _ => .none
  | .block id c, fr, σ => match aExec calls k c fr σ with
    | some (.exit id', fr', σ') => if id'.beq id then some (.normal, fr', σ') else some (.exit id', fr', σ')
    | some (.normal, fr', σ') => some (.normal, fr', σ')
    | some (.ret, fr', σ') => some (.ret, fr', σ')
    | .none => .none
  | .loop c, fr, σ => aLoop (aExec calls k c) k fr σ
  | .exit id, fr, σ => some (.exit id, fr, σ)
  | .ret, fr, σ => some (.ret, fr, σ)

/-- A result: a slot, or the cells that a slot points to (n: a struct of n cells). -/
inductive ARes where
  | tmp (t : Nat)
  | cell1 (t : Nat)
  | celln (t n : Nat)

def aRes1 (fr : Fr) (σ : St) : ARes → Option AV
  | .tmp t => some (fr.at t)
  | .cell1 t => match aLoad σ 1 (fr.at t) with | some [v] => some v | _ => .none
  | .celln t n => match aLoad σ n (fr.at t) with | some cs => some (.agg cs) | .none => .none

def aResL (fr : Fr) (σ : St) : List ARes → Option (List AV)
  | [] => some []
  | r :: rs => match aRes1 fr σ r, aResL fr σ rs with
    | some v, some vs => some (v :: vs)
    | _, _ => .none

structure AF where
  ntmps : Nat
  res : List ARes
  body : AC

def initFr : Nat → List AV → Fr → Fr
  | _, [], fr => fr
  | i, v :: r, fr => initFr (i + 1) r (fr.put i v)

def aResult (fr : Fr) (σ : St) (rs : List ARes) : Option AV :=
  match aResL fr σ rs with
  | some [v] => some v
  | some vs => some (.tup vs)
  | .none => .none

def AF.run (f : AF) (calls : Calls') (k : Nat) (args : List AV) (σ : St) : Option (AV × St) :=
  match aExec calls k f.body (initFr 0 args .leaf) σ with
  | some (.normal, fr, σ') => match aResult fr σ' f.res with | some v => some (v, σ') | .none => .none
  | some (.ret, fr, σ') => match aResult fr σ' f.res with | some v => some (v, σ') | .none => .none
  | _ => .none

end Go.AM

/- The abstract machine's relation to the model's worlds. -/
namespace Go.AM
set_option linter.all false
open Go.RowKit

structure Gh where
  ρ : Nat → Option (Nat × Nat × Nat)
  Γ : Nat → Option (List Value × Nat)
  Φ : Nat → Option (Nat × Nat)

def Gh.ownOk (G : Gh) (b off k len cap plen : Nat) : Own → Prop
  | .none => True
  | .exact => cap = len
  | .fam l e => ∃ e' b', G.Φ l = some (e', b') ∧ e ≤ e' ∧ (e = e' → b' = b ∧ plen = off + len * k)

mutual
inductive RelV (G : Gh) : AV → Value → Prop where
  | undef (v) : RelV G .undef v
  | int (k n) : RelV G (.int k n) (.int k n)
  | bool (b) : RelV G (.bool b) (.bool b)
  | str (s b) : b.data.toList.map UInt8.toNat = s → RelV G (.str s) (.string b)
  | nilp : RelV G .nilp (.pointer none)
  | ptr (l off b base tot) : G.ρ l = some (b, base, tot) → RelV G (.ptr l off) (.pointer (some ⟨b, base + off, none⟩))
  | eptr (cs b off pre tot) : G.Γ b = some (pre, tot) → RelL G true cs ((pre.drop off).take cs.length) → RelV G (.eptr cs) (.pointer (some ⟨b, off, none⟩))
  | nils : RelV G .nils (.slice none 0 0)
  | sl0 (k a cap) : RelV G (.sl k .none 0 []) (.slice (some a) 0 cap)
  | slx (k a) : RelV G (.sl k .exact 0 []) (.slice (some a) 0 0)
  | sl (k own len cs b off pre tot cap) : len ≤ cap → cs.length = len * k → off + cap * k ≤ tot → G.Γ b = some (pre, tot) →
      RelL G true cs ((pre.drop off).take cs.length) → G.ownOk b off k len cap pre.length own → RelV G (.sl k own len cs) (.slice (some ⟨b, off, none⟩) len cap)
  | ms (k l off len b base tot cap) : G.ρ l = some (b, base, tot) → len ≤ cap → base + off + cap * k = tot →
      RelV G (.ms k l off len) (.slice (some ⟨b, base + off, none⟩) len cap)
  | nilm : RelV G .nilm (.map none)
  | mp (l b base tot) : G.ρ l = some (b, base, tot) → RelV G (.mp l) (.map (some b))
  | nilf : RelV G .nilf .nilFunc
  | fn (f first cap vs ws) : RelL G false first vs.toList → RelL G false cap ws.toList → RelV G (.fn f first cap) (.func (.func f) vs ws)
  | agg (cs vs) : RelL G true cs vs.toList → RelV G (.agg cs) (.agg vs)
  | tup (cs vs) : RelL G false cs vs.toList → RelV G (.tup cs) (.tuple vs)
inductive RelL (G : Gh) : Bool → List AV → List Value → Prop where
  | nil (b) : RelL G b [] []
  | cons (b c v cs vs) : RelV G c v → (b = true → v.oneCell' = true) → RelL G b cs vs → RelL G b (c :: cs) (v :: vs)
end

structure Gle (G G' : Gh) : Prop where
  ρ : ∀ l x, G.ρ l = some x → G'.ρ l = some x
  Γ : ∀ b pre tot, G.Γ b = some (pre, tot) → ∃ ext, G'.Γ b = some (pre ++ ext, tot)
  Φ : ∀ l e b, G.Φ l = some (e, b) → ∃ e' b', G'.Φ l = some (e', b') ∧ e ≤ e' ∧ (e = e' → b' = b ∧ G'.Γ b = G.Γ b)

theorem Gle.refl (G : Gh) : Gle G G := ⟨fun _ _ h => h, fun _ _ _ h => ⟨[], by simpa using h⟩, fun _ _ _ h => ⟨_, _, h, Nat.le_refl _, fun _ => ⟨rfl, rfl⟩⟩⟩

theorem Gle.trans {A B C : Gh} (h : Gle A B) (k : Gle B C) : Gle A C where
  ρ l x hx := k.ρ l x (h.ρ l x hx)
  Γ b pre tot hx := by
    obtain ⟨e1, h1⟩ := h.Γ b pre tot hx
    obtain ⟨e2, h2⟩ := k.Γ _ _ _ h1
    exact ⟨e1 ++ e2, by rw [h2, List.append_assoc]⟩
  Φ l e b hx := by
    obtain ⟨e1, b1, h1, l1, r1⟩ := h.Φ l e b hx
    obtain ⟨e2, b2, h2, l2, r2⟩ := k.Φ l e1 b1 h1
    refine ⟨e2, b2, h2, Nat.le_trans l1 l2, fun heq => ?_⟩
    have q1 : e = e1 := by omega
    have q2 : e1 = e2 := by omega
    obtain ⟨rfl, a1⟩ := r1 q1
    obtain ⟨rfl, a2⟩ := r2 q2
    exact ⟨rfl, a2.trans a1⟩

theorem RelL.length {G : Gh} {b : Bool} : ∀ {cs : List AV} {vs : List Value}, RelL G b cs vs → cs.length = vs.length
  | _, _, .nil _ => rfl
  | _, _, .cons _ _ _ _ _ _ _ h => by simp [h.length]

theorem Gh.ownOk.mono {G G' : Gh} (hG : Gle G G') {b off k len cap : Nat} {pre pre' : List Value} {tot : Nat} (h0 : G.Γ b = some (pre, tot)) (h1 : G'.Γ b = some (pre', tot)) :
    ∀ {own : Own}, G.ownOk b off k len cap pre.length own → G'.ownOk b off k len cap pre'.length own
  | .none, _ => trivial
  | .exact, h => h
  | .fam l e, h => by
    obtain ⟨e1, b1, hΦ, hle, heq⟩ := h
    obtain ⟨e2, b2, hΦ', hle', heq'⟩ := hG.Φ l e1 b1 hΦ
    refine ⟨e2, b2, hΦ', Nat.le_trans hle hle', fun q => ?_⟩
    have q1 : e = e1 := by omega
    have q2 : e1 = e2 := by omega
    obtain ⟨rfl, hl⟩ := heq q1
    obtain ⟨rfl, hΓ⟩ := heq' q2
    rw [h0, h1] at hΓ
    simp only [Option.some.injEq, Prod.mk.injEq, and_true] at hΓ
    exact ⟨rfl, by rw [hΓ]; exact hl⟩

theorem take_drop_app {α : Type} (pre ext : List α) (off n : Nat) (h : off + n ≤ pre.length) : ((pre ++ ext).drop off).take n = (pre.drop off).take n := by
  rw [List.drop_append_of_le_length (by omega), List.take_append_of_le_length (by simp; omega)]

theorem take_drop_len {α : Type} {pre : List α} {off n : Nat} (h : n = ((pre.drop off).take n).length) (h0 : 0 < n) : off + n ≤ pre.length := by
  simp only [List.length_take, List.length_drop] at h
  omega

mutual
theorem RelV.mono {G G' : Gh} (hG : Gle G G') : ∀ {a : AV} {v : Value}, RelV G a v → RelV G' a v
  | _, _, .undef v => .undef v
  | _, _, .int k n => .int k n
  | _, _, .bool b => .bool b
  | _, _, .str s b h => .str s b h
  | _, _, .nilp => .nilp
  | _, _, .ptr l off b base tot h => .ptr l off b base tot (hG.ρ _ _ h)
  | _, _, .eptr cs b off pre tot h hr => by
    obtain ⟨ext, hx⟩ := hG.Γ _ _ _ h
    have hr' := hr.mono hG
    refine .eptr cs b off _ tot hx ?_
    by_cases h0 : cs.length = 0
    · rw [h0]; rw [h0] at hr'; simpa using hr'
    · rw [take_drop_app _ _ _ _ (take_drop_len hr.length (by omega))]; exact hr'
  | _, _, .nils => .nils
  | _, _, .sl0 k a cap => .sl0 k a cap
  | _, _, .slx k a => .slx k a
  | _, _, .sl k own len cs b off pre tot cap h1 h2 h3 h4 h5 h6 => by
    obtain ⟨ext, hx⟩ := hG.Γ _ _ _ h4
    have hr' := h5.mono hG
    refine .sl k own len cs b off _ tot cap h1 h2 h3 hx ?_ (h6.mono hG h4 hx)
    by_cases h0 : cs.length = 0
    · rw [h0]; rw [h0] at hr'; simpa using hr'
    · rw [take_drop_app _ _ _ _ (take_drop_len h5.length (by omega))]; exact hr'
  | _, _, .ms k l off len b base tot cap h1 h2 h3 => .ms k l off len b base tot cap (hG.ρ _ _ h1) h2 h3
  | _, _, .nilm => .nilm
  | _, _, .mp l b base tot h => .mp l b base tot (hG.ρ _ _ h)
  | _, _, .nilf => .nilf
  | _, _, .fn f first cap vs ws h1 h2 => .fn f first cap vs ws (h1.mono hG) (h2.mono hG)
  | _, _, .agg cs vs h => .agg cs vs (h.mono hG)
  | _, _, .tup cs vs h => .tup cs vs (h.mono hG)
theorem RelL.mono {G G' : Gh} (hG : Gle G G') : ∀ {b : Bool} {cs : List AV} {vs : List Value}, RelL G b cs vs → RelL G' b cs vs
  | _, _, _, .nil b => .nil b
  | _, _, _, .cons b c v cs vs h1 h2 h3 => .cons b c v cs vs (h1.mono hG) h2 (h3.mono hG)
end

theorem RelL.append {G : Gh} {b : Bool} : ∀ {xs : List AV} {us : List Value} {ys : List AV} {vs : List Value}, RelL G b xs us → RelL G b ys vs → RelL G b (xs ++ ys) (us ++ vs)
  | _, _, _, _, .nil _, h => h
  | _, _, _, _, .cons _ _ _ _ _ h1 h2 h3, h => .cons _ _ _ _ _ h1 h2 (h3.append h)

theorem RelL.take {G : Gh} {b : Bool} : ∀ {xs : List AV} {us : List Value} (n : Nat), RelL G b xs us → RelL G b (xs.take n) (us.take n)
  | _, _, 0, _ => by simpa using RelL.nil b
  | _, _, _ + 1, .nil _ => by simpa using RelL.nil b
  | _, _, n + 1, .cons _ _ _ _ _ h1 h2 h3 => by simpa using RelL.cons _ _ _ _ _ h1 h2 (h3.take n)

theorem RelL.drop {G : Gh} {b : Bool} : ∀ {xs : List AV} {us : List Value} (n : Nat), RelL G b xs us → RelL G b (xs.drop n) (us.drop n)
  | _, _, 0, h => by simpa using h
  | _, _, _ + 1, .nil _ => by simpa using RelL.nil b
  | _, _, n + 1, .cons _ _ _ _ _ _ _ h3 => by simpa using h3.drop n

theorem RelL.get {G : Gh} {b : Bool} : ∀ {xs : List AV} {us : List Value} {i : Nat} {x : AV}, RelL G b xs us → xs[i]? = some x → ∃ v, us[i]? = some v ∧ RelV G x v ∧ (b = true → v.oneCell' = true)
  | _, _, _, _, .nil _, h => by simp at h
  | _, _, 0, _, .cons _ _ _ _ _ h1 h2 _, h => by
    simp at h; subst h; exact ⟨_, by simp, h1, h2⟩
  | _, _, i + 1, _, .cons _ _ _ _ _ _ _ h3, h => by
    simp at h; obtain ⟨v, a, b⟩ := h3.get h; exact ⟨v, by simpa using a, b⟩

theorem RelL.ones {G : Gh} : ∀ {xs : List AV} {us : List Value}, RelL G true xs us → ∀ u ∈ us, u.oneCell' = true
  | _, _, .nil _, u, h => by simp at h
  | _, _, .cons _ _ _ _ _ _ h2 h3, u, h => by
    rcases List.mem_cons.1 h with rfl | h
    · exact h2 rfl
    · exact h3.ones u h

theorem RelL.weaken {G : Gh} : ∀ {xs : List AV} {us : List Value}, RelL G true xs us → RelL G false xs us
  | _, _, .nil _ => .nil _
  | _, _, .cons _ _ _ _ _ h1 _ h3 => .cons _ _ _ _ _ h1 (by simp) h3.weaken

/- Worlds -/

inductive RelKV (G : Gh) : List (AV × AV) → List MapEntry → Prop where
  | nil : RelKV G [] []
  | cons (k v e kvs es) : RelV G k e.key → RelV G v e.val → RelKV G kvs es → RelKV G ((k, v) :: kvs) (e :: es)

theorem RelKV.mono {G G' : Gh} (hG : Gle G G') : ∀ {kvs es}, RelKV G kvs es → RelKV G' kvs es
  | _, _, .nil => .nil
  | _, _, .cons k v e kvs es h1 h2 h3 => .cons k v e kvs es (h1.mono hG) (h2.mono hG) (h3.mono hG)

def ObjOk (N : Nat) (G : Gh) (w : World) (l : Nat) : AObj → Prop
  | .cells cs => ∃ b base tot c el, G.ρ l = some (b, base, tot) ∧ N ≤ b ∧ w.heap[b]? = some (.cells c el (0, 0)) ∧ c.size = tot ∧ base + cs.length ≤ tot ∧
      RelL G true cs ((c.toList.drop base).take cs.length)
  | .map kvs bs ck => ∃ b base tot es, G.ρ l = some (b, base, tot) ∧ N ≤ b ∧ w.heap[b]? = some (.map es ck) ∧ RelKV G kvs es.toList ∧ es.toList.map (·.born) = bs
  | .iter m since seen last => ∃ b mm, G.ρ l = some (b, 0, 0) ∧ N ≤ b ∧ w.heap[b]? = some (.mapIter mm since seen.toArray last) ∧ (match m with
      | .none => mm = none
      | some lm => ∃ bm base tot, mm = some bm ∧ G.ρ lm = some (bm, base, tot))
  | .fam e => ∃ b pre tot c el, G.Φ l = some (e, b) ∧ N ≤ b ∧ G.Γ b = some (pre, tot) ∧ w.heap[b]? = some (.cells c el (0, 0))

/-- The block of a live object. -/
def blk (G : Gh) (l : Nat) : AObj → Option Nat
  | .fam _ => (G.Φ l).map (·.2)
  | _ => (G.ρ l).map (·.1)

def AObj.isFam : AObj → Bool
  | .fam _ => true
  | _ => false

/-- Where a run began, and blocks that are set aside. -/
structure Base extends World where
  hid : List (Nat × Obj)

structure W (w0 : Base) (G : Gh) (σ : St) (w : World) : Prop where
  below : Below w0.heap.size w0.toWorld w
  obj : ∀ l o, σ.get l = some o → ObjOk w0.heap.size G w l o
  arr : ∀ b pre tot, G.Γ b = some (pre, tot) → ∃ c el fz, w.heap[b]? = some (.cells c el fz) ∧ c.size = tot ∧ pre <+: c.toList
  sep : ∀ l l' o o' b, σ.get l = some o → σ.get l' = some o' → l ≠ l' → blk G l o = some b → blk G l' o' ≠ some b
  sepΓ : ∀ l o b, σ.get l = some o → o.isFam = false → blk G l o = some b → G.Γ b = none
  fresh : ∀ l, σ.next ≤ l → σ.get l = none ∧ G.ρ l = none ∧ G.Φ l = none
  room : ∀ b x, G.Γ b = some x → b < w.heap.size
  roomΦ : ∀ l e b, G.Φ l = some (e, b) → b < w.heap.size
  famLive : ∀ l e b, G.Φ l = some (e, b) → σ.get l = some (.fam e)
  hid : ∀ b ob, (b, ob) ∈ w0.hid → w.heap[b]? = some ob ∧ G.Γ b = none ∧ ∀ l o, σ.get l = some o → blk G l o ≠ some b

end Go.AM

namespace Go.AM
set_option linter.all false

namespace Trie
set_option linter.all false
variable {α : Type}
theorem get_setF_same : ∀ (f n : Nat) (t : Trie α) (x : Option α), n < f → (setF f t n x).get n = x
  | 0, _, _, _, h => absurd h (by omega)
  | f + 1, 0, t, x, _ => by simp [setF, get]
  | f + 1, m + 1, t, x, h => by
    simp only [setF]
    cases hb : (m % 2).beq 0
    · simp only [cond_false, get, hb]; exact get_setF_same f (m / 2) _ x (by omega)
    · simp only [cond_true, get, hb]; exact get_setF_same f (m / 2) _ x (by omega)

theorem get_left (t : Trie α) (n : Nat) : t.left.get n = t.get (2 * n + 1) := by
  cases t with
  | leaf => rfl
  | node l v r =>
    simp only [left, get]
    have h1 : (2 * n % 2).beq 0 = true := by simp
    have h2 : 2 * n / 2 = n := by omega
    simp [h2]

theorem get_right (t : Trie α) (n : Nat) : t.right.get n = t.get (2 * n + 2) := by
  cases t with
  | leaf => rfl
  | node l v r =>
    simp only [right, get]
    have h1 : ((2 * n + 1) % 2).beq 0 = false := by
      have : (2 * n + 1) % 2 = 1 := by omega
      rw [this]; rfl
    have h2 : (2 * n + 1) / 2 = n := by omega
    rw [h1, h2]; rfl

theorem get_val (t : Trie α) : t.val = t.get 0 := by cases t <;> rfl

theorem get_setF_ne : ∀ (f n k : Nat) (t : Trie α) (x : Option α), n ≠ k → (setF f t n x).get k = t.get k
  | 0, _, _, _, _, _ => rfl
  | f + 1, 0, 0, t, x, h => absurd rfl h
  | f + 1, 0, k + 1, t, x, h => by
    simp only [setF, get]
    cases hb : (k % 2).beq 0
    · simp only [cond_false]; rw [get_right]
      have : k % 2 ≠ 0 := by intro e; rw [e] at hb; simp at hb
      congr 1; omega
    · simp only [cond_true]; rw [get_left]
      have : k % 2 = 0 := by simpa using hb
      congr 1; omega
  | f + 1, m + 1, 0, t, x, h => by
    simp only [setF]
    cases hb : (m % 2).beq 0 <;> simp [get, get_val]
  | f + 1, m + 1, k + 1, t, x, h => by
    simp only [setF]
    cases hb : (m % 2).beq 0 <;> cases hk : (k % 2).beq 0 <;> simp only [cond_true, cond_false, get, hk]
    · rw [get_setF_ne f (m / 2) (k / 2) _ x (by
        have : m % 2 ≠ 0 := by intro e; rw [e] at hb; simp at hb
        have : k % 2 ≠ 0 := by intro e; rw [e] at hk; simp at hk
        omega), get_right]
      have : k % 2 ≠ 0 := by intro e; rw [e] at hk; simp at hk
      congr 1; omega
    · rw [get_left]
      have : k % 2 = 0 := by simpa using hk
      congr 1; omega
    · rw [get_right]
      have : k % 2 ≠ 0 := by intro e; rw [e] at hk; simp at hk
      congr 1; omega
    · rw [get_setF_ne f (m / 2) (k / 2) _ x (by
        have : m % 2 = 0 := by simpa using hb
        have : k % 2 = 0 := by simpa using hk
        omega), get_left]
      have : k % 2 = 0 := by simpa using hk
      congr 1; omega

theorem get_set_same (t : Trie α) (n : Nat) (x : Option α) : (t.set n x).get n = x := get_setF_same _ _ _ _ (by omega)
theorem get_set_ne (t : Trie α) (n k : Nat) (x : Option α) (h : n ≠ k) : (t.set n x).get k = t.get k := get_setF_ne _ _ _ _ _ h
theorem get_set (t : Trie α) (n k : Nat) (x : Option α) : (t.set n x).get k = if n = k then x else t.get k := by
  by_cases h : n = k
  · subst h; simp [get_set_same]
  · simp [h, get_set_ne]
end Trie

theorem St.get_put (σ : St) (l k : Nat) (o : AObj) : (σ.put l o).get k = if l = k then some o else σ.get k := by simp [St.put, St.get, Trie.get_set]
theorem St.get_kill (σ : St) (l k : Nat) : (σ.kill l).get k = if l = k then .none else σ.get k := by simp [St.kill, St.get, Trie.get_set]
theorem St.get_new (σ : St) (k : Nat) (o : AObj) : (σ.new o).get k = if σ.next = k then some o else σ.get k := by simp [St.new, St.get, Trie.get_set]
@[simp] theorem St.next_put (σ : St) (l : Nat) (o : AObj) : (σ.put l o).next = σ.next := rfl
@[simp] theorem St.next_kill (σ : St) (l : Nat) : (σ.kill l).next = σ.next := rfl
@[simp] theorem St.next_new (σ : St) (o : AObj) : (σ.new o).next = σ.next + 1 := rfl

theorem Fr.at_put (fr : Fr) (t k : Nat) (v : AV) : (fr.put t v).at k = if t = k then v else fr.at k := by
  simp only [Fr.at, Fr.put, Trie.get_set]
  by_cases h : t = k <;> simp [h]

end Go.AM

namespace Go.AM
set_option linter.all false
open Go.RowKit

def Gh.addρ (G : Gh) (l : Nat) (x : Nat × Nat × Nat) : Gh := { G with ρ := fun k => if k = l then some x else G.ρ k }
def Gh.addΓ (G : Gh) (b : Nat) (x : List Value × Nat) : Gh := { G with Γ := fun k => if k = b then some x else G.Γ k }
def Gh.addΦ (G : Gh) (l : Nat) (x : Nat × Nat) : Gh := { G with Φ := fun k => if k = l then some x else G.Φ k }

theorem Gle.addρ {G : Gh} {l : Nat} {x : Nat × Nat × Nat} (h : G.ρ l = none) : Gle G (G.addρ l x) :=
  ⟨fun k y hk => by simp only [Gh.addρ]; rw [if_neg (by rintro rfl; rw [h] at hk; cases hk)]; exact hk,
   fun _ _ _ h => ⟨[], by simpa [Gh.addρ] using h⟩, fun _ _ _ h => ⟨_, _, h, Nat.le_refl _, fun _ => ⟨rfl, rfl⟩⟩⟩

variable {w0 : Base} {w : World} {G : Gh} {σ : St}

theorem heap_new (w : World) (o : Obj) (i : Nat) : (w.alloc o).heap[i]? = if i = w.heap.size then some o else w.heap[i]? := by
  simp only [World.alloc, Array.getElem?_push]

theorem Gle.addΓ (hW : W w0 G σ w) {b : Nat} {x : List Value × Nat} (h : w.heap.size ≤ b) : Gle G (G.addΓ b x) :=
  ⟨fun _ _ h => h, fun k pre tot hk => ⟨[], by
      simp only [Gh.addΓ, List.append_nil]; rw [if_neg (by rintro rfl; have := hW.room _ _ hk; omega)]; exact hk⟩,
   fun l e k hk => ⟨e, k, hk, Nat.le_refl _, fun _ => ⟨rfl, by
      simp only [Gh.addΓ]; rw [if_neg (by rintro rfl; have := hW.roomΦ _ _ _ hk; omega)]⟩⟩⟩

theorem Gle.addΦ {l : Nat} {x : Nat × Nat} (h : G.Φ l = none) : Gle G (G.addΦ l x) :=
  ⟨fun _ _ h => h, fun _ _ _ h => ⟨[], by simpa [Gh.addΦ] using h⟩, fun k e b hk => ⟨e, b, by
    simp only [Gh.addΦ]; rw [if_neg (by rintro rfl; rw [h] at hk; cases hk)]; exact hk, Nat.le_refl _, fun _ => ⟨rfl, rfl⟩⟩⟩

/-- What an object asks, in a world that has grown or changed elsewhere. -/
theorem ObjOk.mono {N : Nat} {G G' : Gh} {w w' : World} {l : Nat} {o : AObj} (h : ObjOk N G w l o) (hG : Gle G G')
    (hh : ∀ b, blk G l o = some b → w'.heap[b]? = w.heap[b]? ) (hΦ : ∀ e, o = .fam e → G'.Φ l = G.Φ l ∧ ∀ b, blk G l o = some b → G'.Γ b = G.Γ b) : ObjOk N G' w' l o := by
  cases o with
  | cells cs =>
    obtain ⟨b, base, tot, c, el, h1, h2, h3, h4, h5, h6⟩ := h
    exact ⟨b, base, tot, c, el, hG.ρ _ _ h1, h2, by rw [hh b (by simp [blk, h1])]; exact h3, h4, h5, h6.mono hG⟩
  | map kvs bs ck =>
    obtain ⟨b, base, tot, es, h1, h2, h3, h4, h5⟩ := h
    exact ⟨b, base, tot, es, hG.ρ _ _ h1, h2, by rw [hh b (by simp [blk, h1])]; exact h3, h4.mono hG, h5⟩
  | iter m since seen last =>
    obtain ⟨b, mm, h1, h2, h3, h4⟩ := h
    refine ⟨b, mm, hG.ρ _ _ h1, h2, by rw [hh b (by simp [blk, h1])]; exact h3, ?_⟩
    cases m with
    | none => exact h4
    | some lm =>
      obtain ⟨bm, base, tot, e, h5⟩ := h4
      exact ⟨bm, base, tot, e, hG.ρ _ _ h5⟩
  | fam e =>
    obtain ⟨b, pre, tot, c, el, h1, h2, h3, h4⟩ := h
    obtain ⟨q1, q2⟩ := hΦ e rfl
    exact ⟨b, pre, tot, c, el, by rw [q1]; exact h1, h2, by rw [q2 b (by simp [blk, h1])]; exact h3, by rw [hh b (by simp [blk, h1])]; exact h4⟩

theorem ObjOk.blk_lt {N : Nat} {l : Nat} {o : AObj} (h : ObjOk N G w l o) : ∃ b, blk G l o = some b ∧ b < w.heap.size ∧ N ≤ b := by
  cases o with
  | cells cs =>
    obtain ⟨b, base, tot, c, el, h1, h2, h3, _⟩ := h
    exact ⟨b, by simp [blk, h1], (Array.getElem?_eq_some_iff.1 h3).1, h2⟩
  | map kvs bs ck =>
    obtain ⟨b, base, tot, es, h1, h2, h3, _⟩ := h
    exact ⟨b, by simp [blk, h1], (Array.getElem?_eq_some_iff.1 h3).1, h2⟩
  | iter m since seen last =>
    obtain ⟨b, mm, h1, h2, h3, _⟩ := h
    exact ⟨b, by simp [blk, h1], (Array.getElem?_eq_some_iff.1 h3).1, h2⟩
  | fam e =>
    obtain ⟨b, pre, tot, c, el, h1, h2, h3, h4⟩ := h
    exact ⟨b, by simp [blk, h1], (Array.getElem?_eq_some_iff.1 h4).1, h2⟩

/-- The heap alone matters (a draw). -/
theorem W.same (hW : W w0 G σ w) {w' : World} (hh : w'.heap = w.heap) (ho : w'.os = w.os) (ht : w'.tape = w.tape) (hu : w'.output = w.output) : W w0 G σ w' where
  below := hW.below.trans ⟨ho, ht, hu, by rw [hh]; exact Nat.le_refl _, fun k _ => by rw [hh]⟩
  obj l o h := (hW.obj l o h).mono (Gle.refl G) (fun b _ => by rw [hh]) (fun _ _ => ⟨rfl, fun _ _ => rfl⟩)
  arr b pre tot h := by rw [hh]; exact hW.arr b pre tot h
  sep := hW.sep
  sepΓ := hW.sepΓ
  fresh := hW.fresh
  room b x h := by rw [hh]; exact hW.room b x h
  roomΦ l e b h := by rw [hh]; exact hW.roomΦ l e b h
  famLive := hW.famLive
  hid b ob h := by rw [hh]; exact hW.hid b ob h

theorem W.hid_lt (hW : W w0 G σ w) {b : Nat} {ob : Obj} (h : (b, ob) ∈ w0.hid) : b < w.heap.size := (Array.getElem?_eq_some_iff.1 (hW.hid b ob h).1).1

theorem W.drew (hW : W w0 G σ w) : W w0 G σ { w with drawn := w.drawn + 1 } := hW.same rfl rfl rfl rfl

theorem W.blk_lt (hW : W w0 G σ w) {l : Nat} {o : AObj} (h : σ.get l = some o) : ∃ b, blk G l o = some b ∧ b < w.heap.size ∧ w0.heap.size ≤ b := (hW.obj l o h).blk_lt

theorem W.lt (hW : W w0 G σ w) {l : Nat} {o : AObj} (h : σ.get l = some o) : l < σ.next := by
  rcases Nat.lt_or_ge l σ.next with h' | h'
  · exact h'
  · rw [(hW.fresh l h').1] at h; cases h

theorem blk_addρ {l l' : Nat} {o : AObj} {x : Nat × Nat × Nat} (h : l' ≠ l) : blk (G.addρ l x) l' o = blk G l' o := by
  cases o <;> simp [blk, Gh.addρ, h]

theorem blk_addΦ {l l' : Nat} {o : AObj} {x : Nat × Nat} (h : l' ≠ l) : blk (G.addΦ l x) l' o = blk G l' o := by
  cases o <;> simp [blk, Gh.addΦ, h]

/-- A new object (cells or a map) in a new block. -/
theorem W.newObj (hW : W w0 G σ w) (o : AObj) (ob : Obj) (tot : Nat) (hf : o.isFam = false)
    (hok : ObjOk w0.heap.size (G.addρ σ.next (w.heap.size, 0, tot)) (w.alloc ob) σ.next o) :
    W w0 (G.addρ σ.next (w.heap.size, 0, tot)) (σ.new o) (w.alloc ob) ∧ Gle G (G.addρ σ.next (w.heap.size, 0, tot)) := by
  have hfr := hW.fresh σ.next (Nat.le_refl _)
  have hG : Gle G (G.addρ σ.next (w.heap.size, 0, tot)) := .addρ hfr.2.1
  have hnew : blk (G.addρ σ.next (w.heap.size, 0, tot)) σ.next o = some w.heap.size := by
    cases o with
    | fam e => simp [AObj.isFam] at hf
    | cells cs => simp [blk, Gh.addρ]
    | map kvs bs ck => simp [blk, Gh.addρ]
    | iter m since seen last => simp [blk, Gh.addρ]
  refine ⟨⟨?_, ?_, ?_, ?_, ?_, ?_, ?_, ?_, ?_, ?_⟩, hG⟩
  · exact hW.below.alloc hW.below.size ob
  · intro l p hl
    rw [St.get_new] at hl
    split at hl
    · rename_i heq; subst heq; cases hl; exact hok
    · obtain ⟨b, hb, hlt, _⟩ := hW.blk_lt hl
      refine (hW.obj l p hl).mono hG (fun b' hb' => ?_) (fun e he => ⟨rfl, fun _ _ => rfl⟩)
      rw [hb] at hb'; cases hb'
      rw [heap_new, if_neg (by omega)]
  · intro b pre tot' h
    have := hW.room b _ h
    rw [heap_new, if_neg (by omega)]
    exact hW.arr b pre tot' h
  · intro l l' p p' b h1 h2 hne hb
    rw [St.get_new] at h1 h2
    split at h1 <;> split at h2
    · omega
    · rename_i heq _; subst heq; cases h1
      rw [hnew] at hb; cases hb
      obtain ⟨b', hb', hlt, _⟩ := hW.blk_lt h2
      rw [blk_addρ (by omega), hb']; simp; omega
    · rename_i _ heq; subst heq; cases h2
      rw [blk_addρ (by omega)] at hb
      obtain ⟨b', hb', hlt, _⟩ := hW.blk_lt h1
      rw [hb] at hb'; cases hb'
      rw [hnew]; simp; omega
    · rw [blk_addρ (by omega)] at hb ⊢
      exact hW.sep l l' p p' b h1 h2 hne hb
  · intro l p b h1 hf' hb
    rw [St.get_new] at h1
    split at h1
    · rename_i heq; subst heq; cases h1
      rw [hnew] at hb; cases hb
      cases hx : G.Γ w.heap.size with
      | none => exact hx
      | some x => have := hW.room _ _ hx; omega
    · rw [blk_addρ (by omega)] at hb
      exact hW.sepΓ l p b h1 hf' hb
  · intro l hl
    simp only [St.next_new] at hl
    have := hW.fresh l (by omega)
    rw [St.get_new, if_neg (by omega)]
    exact ⟨this.1, by simp only [Gh.addρ]; rw [if_neg (by omega)]; exact this.2.1, this.2.2⟩
  · intro b x h
    have := hW.room b x h
    simp; omega
  · intro l e b h
    have := hW.roomΦ l e b h
    simp; omega
  · intro l e b h
    have := hW.famLive l e b h
    rw [St.get_new, if_neg (by rintro rfl; rw [hfr.1] at this; cases this)]
    exact this
  · intro b x h
    have hlt := hW.hid_lt h
    obtain ⟨h1, h2, h3⟩ := hW.hid b x h
    refine ⟨by rw [heap_new, if_neg (by omega)]; exact h1, h2, fun l p hl => ?_⟩
    rw [St.get_new] at hl
    split at hl
    · rename_i heq; subst heq; cases hl
      rw [hnew]; simp; omega
    · rw [blk_addρ (by omega)]; exact h3 l p hl

/-- A new block that is fixed from its beginning. -/
theorem W.newFix (hW : W w0 G σ w) (c : Array Value) (el : TypeId) (fz : Nat × Nat) (pre : List Value) (hp : pre <+: c.toList) :
    W w0 (G.addΓ w.heap.size (pre, c.size)) σ (w.alloc (.cells c el fz)) ∧ Gle G (G.addΓ w.heap.size (pre, c.size)) := by
  have hG : Gle G (G.addΓ w.heap.size (pre, c.size)) := .addΓ hW (Nat.le_refl _)
  refine ⟨⟨?_, ?_, ?_, ?_, ?_, ?_, ?_, ?_, hW.famLive, ?_⟩, hG⟩
  · exact hW.below.alloc hW.below.size _
  · intro l p hl
    obtain ⟨b, hb, hlt, _⟩ := hW.blk_lt hl
    refine (hW.obj l p hl).mono hG (fun b' hb' => ?_) (fun e he => ⟨rfl, fun b' hb' => ?_⟩)
    · rw [hb] at hb'; cases hb'
      rw [heap_new, if_neg (by omega)]
    · rw [hb] at hb'; cases hb'
      simp only [Gh.addΓ]; rw [if_neg (by omega)]
  · intro b pre' tot' h
    simp only [Gh.addΓ] at h
    split at h
    · rename_i heq; subst heq; cases h
      exact ⟨c, el, fz, by rw [heap_new, if_pos rfl], rfl, hp⟩
    · have := hW.room b _ h
      rw [heap_new, if_neg (by omega)]
      exact hW.arr b pre' tot' h
  · exact hW.sep
  · intro l p b h1 hf' hb
    obtain ⟨b', hb', hlt, _⟩ := hW.blk_lt h1
    have hq : b < w.heap.size := by
      have e : blk G l p = some b := hb
      rw [e] at hb'; cases hb'; exact hlt
    simp only [Gh.addΓ]
    rw [if_neg (by omega)]
    exact hW.sepΓ l p b h1 hf' hb
  · exact hW.fresh
  · intro b x h
    simp only [Gh.addΓ] at h
    split at h
    · rename_i heq; subst heq; simp
    · have := hW.room b x h; simp; omega
  · intro l e b h
    have := hW.roomΦ l e b h
    simp; omega
  · intro b x h
    have hlt := hW.hid_lt h
    obtain ⟨h1, h2, h3⟩ := hW.hid b x h
    exact ⟨by rw [heap_new, if_neg (by omega)]; exact h1, by simp only [Gh.addΓ]; rw [if_neg (by omega)]; exact h2, fun l p hl => h3 l p hl⟩

/-- A new family over a fixed block that no live object has. -/
theorem W.newFam (hW : W w0 G σ w) (b e : Nat) (pre : List Value) (tot : Nat) (c : Array Value) (el : TypeId) (hΓ : G.Γ b = some (pre, tot)) (hb : w0.heap.size ≤ b)
    (hc : w.heap[b]? = some (.cells c el (0, 0))) (hno : ∀ l o, σ.get l = some o → blk G l o ≠ some b) :
    W w0 (G.addΦ σ.next (e, b)) (σ.new (.fam e)) w ∧ Gle G (G.addΦ σ.next (e, b)) := by
  have hfr := hW.fresh σ.next (Nat.le_refl _)
  have hG : Gle G (G.addΦ σ.next (e, b)) := .addΦ hfr.2.2
  refine ⟨⟨hW.below, ?_, hW.arr, ?_, ?_, ?_, hW.room, ?_, ?_, ?_⟩, hG⟩
  · intro l p hl
    rw [St.get_new] at hl
    split at hl
    · rename_i heq; subst heq; cases hl
      exact ⟨b, pre, tot, c, el, by simp [Gh.addΦ], hb, hΓ, hc⟩
    · refine (hW.obj l p hl).mono hG (fun _ _ => rfl) (fun e' he => ⟨?_, fun _ _ => rfl⟩)
      simp only [Gh.addΦ]; rw [if_neg (by omega)]
  · intro l l' p p' b' h1 h2 hne hb'
    rw [St.get_new] at h1 h2
    split at h1 <;> split at h2
    · omega
    · rename_i heq _; subst heq; cases h1
      simp [blk, Gh.addΦ] at hb'; subst hb'
      rw [blk_addΦ (by omega)]
      exact hno l' p' h2
    · rename_i _ heq; subst heq; cases h2
      rw [blk_addΦ (by omega)] at hb'
      simp only [blk, Gh.addΦ, if_true, Option.map_some]
      intro he; cases he
      exact hno l p h1 hb'
    · rw [blk_addΦ (by omega)] at hb' ⊢
      exact hW.sep l l' p p' b' h1 h2 hne hb'
  · intro l p b' h1 hf' hb'
    rw [St.get_new] at h1
    split at h1
    · cases h1; simp [AObj.isFam] at hf'
    · rw [blk_addΦ (by omega)] at hb'
      exact hW.sepΓ l p b' h1 hf' hb'
  · intro l hl
    simp only [St.next_new] at hl
    have := hW.fresh l (by omega)
    rw [St.get_new, if_neg (by omega)]
    exact ⟨this.1, this.2.1, by simp only [Gh.addΦ]; rw [if_neg (by omega)]; exact this.2.2⟩
  · intro l e' b' h
    simp only [Gh.addΦ] at h
    split at h
    · cases h; exact hW.room _ _ hΓ
    · exact hW.roomΦ l e' b' h
  · intro l e' b' h
    simp only [Gh.addΦ] at h
    rw [St.get_new]
    split at h
    · rename_i heq; subst heq; cases h; rw [if_pos rfl]
    · rw [if_neg (by omega)]; exact hW.famLive l e' b' h
  · intro b' x h
    obtain ⟨h1, h2, h3⟩ := hW.hid b' x h
    refine ⟨h1, h2, fun l p hl => ?_⟩
    rw [St.get_new] at hl
    split at hl
    · rename_i heq; subst heq; cases hl
      simp only [blk, Gh.addΦ, if_true, Option.map_some]
      intro he; cases he; rw [h2] at hΓ; cases hΓ
    · rw [blk_addΦ (by omega)]; exact h3 l p hl

end Go.AM

namespace Go.AM
set_option linter.all false
open Go.RowKit
variable {w0 : Base} {w : World} {G : Gh} {σ : St}

theorem Below.setRow {B : Nat} {a w : World} (h : Below B a w) {g : Nat} (hg : B ≤ g) (cs : Array Value) : Below B a (w.setRow g cs) :=
  h.trans ⟨rfl, rfl, rfl, by simp, fun k hk => setRow_other w g k cs (by omega)⟩

/-- A store into an object: its block alone turns. -/
theorem W.setObj (hW : W w0 G σ w) {l : Nat} {o o' : AObj} {b : Nat} (hl : σ.get l = some o) (hf : o.isFam = false) (hf' : o'.isFam = false) (hb : blk G l o = some b) {w' : World}
    (hbel : Below w0.heap.size w0.toWorld w') (hsz : w.heap.size = w'.heap.size) (hh : ∀ k, k ≠ b → w'.heap[k]? = w.heap[k]?) (hok : ObjOk w0.heap.size G w' l o') : W w0 G (σ.put l o') w' := by
  have hb' : blk G l o' = some b := by cases o <;> cases o' <;> simp_all [blk, AObj.isFam]
  have hΓ := hW.sepΓ l o b hl hf hb
  refine ⟨hbel, ?_, ?_, ?_, ?_, ?_, ?_, ?_, ?_, ?_⟩
  · intro k p hk
    rw [St.get_put] at hk
    split at hk
    · rename_i heq; subst heq; cases hk; exact hok
    · rename_i hne
      refine (hW.obj k p hk).mono (Gle.refl G) (fun b' hb'' => hh b' ?_) (fun _ _ => ⟨rfl, fun _ _ => rfl⟩)
      rintro rfl
      exact hW.sep l k o p b' hl hk hne hb hb''
  · intro k pre tot hk
    rw [hh k (by rintro rfl; rw [hΓ] at hk; cases hk)]
    exact hW.arr k pre tot hk
  · intro k k' p p' x h1 h2 hne hx
    rw [St.get_put] at h1 h2
    split at h1 <;> split at h2
    · omega
    · rename_i heq _; subst heq; cases h1
      rw [hb'] at hx; cases hx
      exact hW.sep _ k' o p' b hl h2 hne hb
    · rename_i _ heq; subst heq; cases h2
      rw [hb']
      intro he; cases he
      exact hW.sep k _ p o b h1 hl hne hx hb
    · exact hW.sep k k' p p' x h1 h2 hne hx
  · intro k p x h1 hf1 hx
    rw [St.get_put] at h1
    split at h1
    · rename_i heq; subst heq; cases h1
      rw [hb'] at hx; cases hx; exact hΓ
    · exact hW.sepΓ k p x h1 hf1 hx
  · intro k hk
    have := hW.fresh k hk
    rw [St.get_put, if_neg (by rintro rfl; rw [this.1] at hl; cases hl)]
    exact this
  · intro k x hx; rw [← hsz]; exact hW.room k x hx
  · intro k e x hx; rw [← hsz]; exact hW.roomΦ k e x hx
  · intro k e x hx
    have := hW.famLive k e x hx
    rw [St.get_put, if_neg (by rintro rfl; rw [hl] at this; cases this; simp [AObj.isFam] at hf)]
    exact this
  · intro x ob h
    obtain ⟨h1, h2, h3⟩ := hW.hid x ob h
    refine ⟨by rw [hh x (by rintro rfl; exact h3 l o hl hb)]; exact h1, h2, fun k p hk => ?_⟩
    rw [St.get_put] at hk
    split at hk
    · rename_i heq; subst heq; cases hk
      rw [hb', ← hb]; exact h3 l o hl
    · exact h3 k p hk

/-- An object is forgotten. -/
theorem W.kill (hW : W w0 G σ w) {l : Nat} {o : AObj} (hl : σ.get l = some o) (hf : o.isFam = false) : W w0 G (σ.kill l) w := by
  refine ⟨hW.below, ?_, hW.arr, ?_, ?_, ?_, hW.room, hW.roomΦ, ?_, ?_⟩
  · intro k p hk
    rw [St.get_kill] at hk
    split at hk
    · cases hk
    · exact hW.obj k p hk
  · intro k k' p p' x h1 h2
    rw [St.get_kill] at h1 h2
    split at h1
    · cases h1
    · split at h2
      · cases h2
      · exact hW.sep k k' p p' x h1 h2
  · intro k p x h1
    rw [St.get_kill] at h1
    split at h1
    · cases h1
    · exact hW.sepΓ k p x h1
  · intro k hk
    have := hW.fresh k hk
    rw [St.get_kill]
    split
    · exact ⟨rfl, this.2⟩
    · exact this
  · intro k e x hx
    have := hW.famLive k e x hx
    rw [St.get_kill, if_neg (by rintro rfl; rw [hl] at this; cases this; simp [AObj.isFam] at hf)]
    exact this
  · intro x ob h
    obtain ⟨h1, h2, h3⟩ := hW.hid x ob h
    refine ⟨h1, h2, fun k p hk => ?_⟩
    rw [St.get_kill] at hk
    split at hk
    · cases hk
    · exact h3 k p hk

/-- The frontier of a live family's block goes on. -/
theorem W.famOn (hW : W w0 G σ w) {l e e' b tot : Nat} {pre ext : List Value} {c c' : Array Value} {el : TypeId} (hl : σ.get l = some (.fam e)) (hΦ : G.Φ l = some (e, b)) (hΓ : G.Γ b = some (pre, tot))
    (he : e < e') (hc : w.heap[b]? = some (.cells c el (0, 0))) (hsz : c'.size = tot) (hpre : (pre ++ ext) <+: c'.toList) :
    W w0 ((G.addΓ b (pre ++ ext, tot)).addΦ l (e', b)) (σ.put l (.fam e')) (w.setRow b c') ∧ Gle G ((G.addΓ b (pre ++ ext, tot)).addΦ l (e', b)) := by
  have hlt := hW.lt hl
  obtain ⟨b0, pre0, tot0, c0, el0, q1, q2, q3, q4⟩ := hW.obj l _ hl
  rw [hΦ] at q1; cases q1
  have hb : blk G l (.fam e) = some b := by simp [blk, hΦ]
  have hothers : ∀ k p x, σ.get k = some p → k ≠ l → blk G k p = some x → x ≠ b := by
    intro k p x hk hne hx he
    subst he
    exact hW.sep k l p _ x hk hl hne hx hb
  have hG : Gle G ((G.addΓ b (pre ++ ext, tot)).addΦ l (e', b)) := by
    refine ⟨fun _ _ h => h, fun k p t hk => ?_, fun k f x hk => ?_⟩
    · simp only [Gh.addΓ, Gh.addΦ]
      by_cases hkb : k = b
      · subst hkb; rw [hΓ] at hk; cases hk; exact ⟨ext, by simp⟩
      · exact ⟨[], by rw [if_neg hkb]; simpa using hk⟩
    · simp only [Gh.addΓ, Gh.addΦ]
      by_cases hkl : k = l
      · subst hkl; rw [hΦ] at hk; cases hk
        exact ⟨e', b, by simp, by omega, fun h => by omega⟩
      · rw [if_neg hkl]
        refine ⟨f, x, hk, Nat.le_refl _, fun _ => ⟨rfl, ?_⟩⟩
        rw [if_neg (hothers k _ x (hW.famLive k f x hk) hkl (by simp [blk, hk]))]
  have hsz' : (w.setRow b c').heap.size = w.heap.size := by simp
  refine ⟨⟨Below.setRow hW.below q2 c', ?_, ?_, ?_, ?_, ?_, ?_, ?_, ?_, ?_⟩, hG⟩
  · intro k p hk
    rw [St.get_put] at hk
    split at hk
    · rename_i heq; subst heq; cases hk
      exact ⟨b, pre ++ ext, tot, c', el, by simp [Gh.addΦ], q2, by simp [Gh.addΓ, Gh.addΦ], setRow_heap w b c c' el _ hc⟩
    · rename_i hne
      refine (hW.obj k p hk).mono hG (fun x hx => setRow_other w b x c' (hothers k p x hk (Ne.symm hne) hx)) (fun f hf => ⟨?_, fun x hx => ?_⟩)
      · simp only [Gh.addΦ]; rw [if_neg (Ne.symm hne)]; rfl
      · simp only [Gh.addΓ, Gh.addΦ]; rw [if_neg (hothers k p x hk (Ne.symm hne) hx)]
  · intro k p t hk
    simp only [Gh.addΓ, Gh.addΦ] at hk
    split at hk
    · rename_i heq; subst heq; cases hk
      exact ⟨c', el, _, setRow_heap w _ c c' el _ hc, hsz, hpre⟩
    · rename_i hne
      rw [setRow_other w b k c' hne]
      exact hW.arr k p t hk
  · intro k k' p p' x h1 h2 hne hx
    rw [St.get_put] at h1 h2
    have key : ∀ {k : Nat} {p : AObj}, (if l = k then some (AObj.fam e') else σ.get k) = some p → ∃ p0, σ.get k = some p0 ∧ blk ((G.addΓ b (pre ++ ext, tot)).addΦ l (e', b)) k p = blk G k p0 := by
      intro k p h
      split at h
      · rename_i heq; subst heq; cases h
        exact ⟨_, hl, by simp [blk, Gh.addΦ, hΦ]⟩
      · rename_i hne
        refine ⟨p, h, ?_⟩
        cases p <;> simp [blk, Gh.addΦ, Gh.addΓ, Ne.symm hne]
    obtain ⟨p0, a1, a2⟩ := key h1
    obtain ⟨p0', a1', a2'⟩ := key h2
    rw [a2] at hx; rw [a2']
    exact hW.sep k k' p0 p0' x a1 a1' hne hx
  · intro k p x h1 hf hx
    rw [St.get_put] at h1
    split at h1
    · cases h1; simp [AObj.isFam] at hf
    · rename_i hne
      have hx' : blk G k p = some x := by
        cases p <;> simp_all [blk, Gh.addΦ, Gh.addΓ, AObj.isFam]
      simp only [Gh.addΓ, Gh.addΦ]
      rw [if_neg (hothers k p x h1 (Ne.symm hne) hx')]
      exact hW.sepΓ k p x h1 hf hx'
  · intro k hk
    have := hW.fresh k hk
    simp only [St.next_put] at hk
    rw [St.get_put, if_neg (by omega)]
    exact ⟨this.1, this.2.1, by simp only [Gh.addΦ]; rw [if_neg (by omega)]; exact this.2.2⟩
  · intro k x hx
    rw [hsz']
    simp only [Gh.addΓ, Gh.addΦ] at hx
    split at hx
    · rename_i heq; subst heq; exact hW.room _ _ hΓ
    · exact hW.room k x hx
  · intro k f x hx
    rw [hsz']
    simp only [Gh.addΦ] at hx
    split at hx
    · cases hx; exact hW.room _ _ hΓ
    · exact hW.roomΦ k f x hx
  · intro k f x hx
    rw [St.get_put]
    simp only [Gh.addΦ] at hx
    split at hx
    · rename_i heq; subst heq; cases hx; rw [if_pos rfl]
    · rename_i hne
      rw [if_neg (Ne.symm hne)]
      exact hW.famLive k f x hx
  · intro x ob h
    obtain ⟨h1, h2, h3⟩ := hW.hid x ob h
    have hxb : x ≠ b := by rintro rfl; rw [h2] at hΓ; cases hΓ
    refine ⟨by rw [setRow_other w b x c' hxb]; exact h1, by simp only [Gh.addΓ, Gh.addΦ]; rw [if_neg hxb]; exact h2, fun k p hk => ?_⟩
    rw [St.get_put] at hk
    split at hk
    · rename_i heq; subst heq; cases hk
      simp only [blk, Gh.addΦ, if_true, Option.map_some]
      intro he; cases he; exact hxb rfl
    · rename_i hne
      have e : blk ((G.addΓ b (pre ++ ext, tot)).addΦ l (e', b)) k p = blk G k p := by cases p <;> simp [blk, Gh.addΦ, Gh.addΓ, Ne.symm hne]
      rw [e]; exact h3 k p hk
end Go.AM

namespace Go.AM
set_option linter.all false
open Go.RowKit
variable {w0 : Base} {w : World} {G : Gh} {σ : St}

/-- A live family goes on in another block. -/
theorem W.famMove (hW : W w0 G σ w) {l e e' b tot : Nat} {pre : List Value} {c : Array Value} {el : TypeId} (hl : σ.get l = some (.fam e)) (he : e < e') (hΓ : G.Γ b = some (pre, tot)) (hb : w0.heap.size ≤ b)
    (hc : w.heap[b]? = some (.cells c el (0, 0))) (hno : ∀ l o, σ.get l = some o → blk G l o ≠ some b) :
    W w0 (G.addΦ l (e', b)) (σ.put l (.fam e')) w ∧ Gle G (G.addΦ l (e', b)) := by
  obtain ⟨b0, pre0, tot0, c0, el0, q1, q2, q3, q4⟩ := hW.obj l _ hl
  have hlt := hW.lt hl
  have hG : Gle G (G.addΦ l (e', b)) := by
    refine ⟨fun _ _ h => h, fun _ _ _ h => ⟨[], by simpa [Gh.addΦ] using h⟩, fun k f x hk => ?_⟩
    simp only [Gh.addΦ]
    by_cases hkl : k = l
    · subst hkl; rw [q1] at hk; cases hk; exact ⟨e', b, by simp, by omega, fun h => by omega⟩
    · rw [if_neg hkl]; exact ⟨f, x, hk, Nat.le_refl _, fun _ => ⟨rfl, trivial⟩⟩
  refine ⟨⟨hW.below, ?_, hW.arr, ?_, ?_, ?_, hW.room, ?_, ?_, ?_⟩, hG⟩
  · intro k p hk
    rw [St.get_put] at hk
    split at hk
    · rename_i heq; subst heq; cases hk
      exact ⟨b, pre, tot, c, el, by simp [Gh.addΦ], hb, hΓ, hc⟩
    · rename_i hne
      refine (hW.obj k p hk).mono hG (fun _ _ => rfl) (fun f _ => ⟨?_, fun _ _ => rfl⟩)
      simp only [Gh.addΦ]; rw [if_neg (Ne.symm hne)]
  · intro k k' p p' x h1 h2 hne hx
    rw [St.get_put] at h1 h2
    split at h1 <;> split at h2
    · omega
    · rename_i heq _; subst heq; cases h1
      simp [blk, Gh.addΦ] at hx; subst hx
      rw [blk_addΦ (by omega)]
      exact hno k' p' h2
    · rename_i _ heq; subst heq; cases h2
      rw [blk_addΦ (by omega)] at hx
      simp only [blk, Gh.addΦ, if_true, Option.map_some]
      intro he'; cases he'
      exact hno k p h1 hx
    · rw [blk_addΦ (by omega)] at hx ⊢
      exact hW.sep k k' p p' x h1 h2 hne hx
  · intro k p x h1 hf hx
    rw [St.get_put] at h1
    split at h1
    · cases h1; simp [AObj.isFam] at hf
    · rw [blk_addΦ (by omega)] at hx
      exact hW.sepΓ k p x h1 hf hx
  · intro k hk
    have := hW.fresh k hk
    simp only [St.next_put] at hk
    rw [St.get_put, if_neg (by omega)]
    exact ⟨this.1, this.2.1, by simp only [Gh.addΦ]; rw [if_neg (by omega)]; exact this.2.2⟩
  · intro k f x hx
    simp only [Gh.addΦ] at hx
    split at hx
    · cases hx; exact hW.room _ _ hΓ
    · exact hW.roomΦ k f x hx
  · intro k f x hx
    rw [St.get_put]
    simp only [Gh.addΦ] at hx
    split at hx
    · rename_i heq; subst heq; cases hx; rw [if_pos rfl]
    · rename_i hne
      rw [if_neg (Ne.symm hne)]
      exact hW.famLive k f x hx
  · intro x ob h
    obtain ⟨h1, h2, h3⟩ := hW.hid x ob h
    refine ⟨h1, h2, fun k p hk => ?_⟩
    rw [St.get_put] at hk
    split at hk
    · rename_i heq; subst heq; cases hk
      simp only [blk, Gh.addΦ, if_true, Option.map_some]
      intro he'; cases he'; rw [h2] at hΓ; cases hΓ
    · rename_i hne
      rw [blk_addΦ (Ne.symm hne)]; exact h3 k p hk

/-- An object is forgotten, and another one stands in its block. -/
theorem W.moveObj (hW : W w0 G σ w) {l : Nat} {cs cs' : List AV} {b base base' tot tot' : Nat} (hl : σ.get l = some (.cells cs)) (hρ : G.ρ l = some (b, base, tot)) {w' : World}
    (hbel : Below w0.heap.size w0.toWorld w') (hsz : w.heap.size = w'.heap.size) (hh : ∀ k, k ≠ b → w'.heap[k]? = w.heap[k]?)
    (hok : ObjOk w0.heap.size (G.addρ σ.next (b, base', tot')) w' σ.next (.cells cs')) :
    W w0 (G.addρ σ.next (b, base', tot')) ((σ.kill l).new (.cells cs')) w' ∧ Gle G (G.addρ σ.next (b, base', tot')) := by
  have hfr := hW.fresh σ.next (Nat.le_refl _)
  have hlt := hW.lt hl
  have hb : blk G l (.cells cs) = some b := by simp [blk, hρ]
  have hΓ := hW.sepΓ l _ b hl rfl hb
  have hG : Gle G (G.addρ σ.next (b, base', tot')) := .addρ hfr.2.1
  have hnew : blk (G.addρ σ.next (b, base', tot')) σ.next (.cells cs') = some b := by simp [blk, Gh.addρ]
  have hget : ∀ {k : Nat} {p : AObj}, ((σ.kill l).new (.cells cs')).get k = some p → (k = σ.next ∧ p = .cells cs') ∨ (k ≠ σ.next ∧ k ≠ l ∧ σ.get k = some p) := by
    intro k p hk
    rw [St.get_new, St.get_kill] at hk
    by_cases e1 : (σ.kill l).next = k
    · rw [if_pos e1] at hk; cases hk; exact .inl ⟨e1.symm, rfl⟩
    · rw [if_neg e1] at hk
      by_cases e2 : l = k
      · rw [if_pos e2] at hk; cases hk
      · rw [if_neg e2] at hk
        exact .inr ⟨fun h => e1 h.symm, by omega, hk⟩
  refine ⟨⟨hbel, ?_, ?_, ?_, ?_, ?_, ?_, ?_, ?_, ?_⟩, hG⟩
  · intro k p hk
    rcases hget hk with ⟨rfl, rfl⟩ | ⟨h1, h2, h3⟩
    · exact hok
    · refine (hW.obj k p h3).mono hG (fun x hx => hh x ?_) (fun _ _ => ⟨rfl, fun _ _ => rfl⟩)
      rintro rfl
      exact hW.sep l k _ p x hl h3 (Ne.symm h2) hb hx
  · intro k pre t hk
    rw [hh k (by rintro rfl; have hk' : G.Γ k = some (pre, t) := hk; rw [hΓ] at hk'; cases hk')]
    exact hW.arr k pre t hk
  · intro k k' p p' x h1 h2 hne hx
    rcases hget h1 with ⟨rfl, rfl⟩ | ⟨a1, a2, a3⟩ <;> rcases hget h2 with ⟨rfl, rfl⟩ | ⟨b1, b2, b3⟩
    · omega
    · rw [hnew] at hx; cases hx
      rw [blk_addρ b1]
      exact hW.sep l k' _ p' b hl b3 (Ne.symm b2) hb
    · rw [blk_addρ a1] at hx
      rw [hnew]
      intro he; cases he
      exact hW.sep k l p _ b a3 hl a2 hx hb
    · rw [blk_addρ a1] at hx
      rw [blk_addρ b1]
      exact hW.sep k k' p p' x a3 b3 hne hx
  · intro k p x h1 hf hx
    rcases hget h1 with ⟨rfl, rfl⟩ | ⟨a1, a2, a3⟩
    · rw [hnew] at hx; cases hx; exact hΓ
    · rw [blk_addρ a1] at hx
      exact hW.sepΓ k p x a3 hf hx
  · intro k hk
    simp only [St.next_new, St.next_kill] at hk
    have := hW.fresh k (by omega)
    rw [St.get_new, if_neg (by show σ.next ≠ k; omega), St.get_kill, if_neg (by omega)]
    exact ⟨this.1, by simp only [Gh.addρ]; rw [if_neg (by omega)]; exact this.2.1, this.2.2⟩
  · intro k x hx; rw [← hsz]; exact hW.room k x hx
  · intro k e x hx; rw [← hsz]; exact hW.roomΦ k e x hx
  · intro k e x hx
    have h1 := hW.famLive k e x hx
    have h2 := hW.lt h1
    rw [St.get_new, if_neg (by show σ.next ≠ k; omega), St.get_kill, if_neg (by rintro rfl; rw [hl] at h1; cases h1)]
    exact h1
  · intro x ob h
    obtain ⟨h1, h2, h3⟩ := hW.hid x ob h
    refine ⟨by rw [hh x (by rintro rfl; exact h3 l _ hl hb)]; exact h1, h2, fun k p hk => ?_⟩
    rcases hget hk with ⟨rfl, rfl⟩ | ⟨a1, a2, a3⟩
    · rw [hnew, ← hb]; exact h3 l _ hl
    · rw [blk_addρ a1]; exact h3 k p a3
end Go.AM

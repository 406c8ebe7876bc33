/- The abstract machine: values, store, operations, an executable interpreter. Nothing of a program in it. -/
import Derived.Calls
namespace Go.AM
set_option linter.all false

inductive Own where
  | none
  | exact
  | fam (l e : Nat)
  deriving Inhabited

inductive AV where
  | undef
  | int (k : IntKind) (n : Int)
  | bool (b : Bool)
  | str (s : List Nat)
  | nilp
  | ptr (l off : Nat)
  | eptr (cs : List AV)
  | nils
  | sl (k : Nat) (own : Own) (len : Nat) (cs : List AV)
  | ms (k l off len : Nat)
  | nilm
  | mp (l : Nat)
  | nilf
  | fn (f : FuncId) (first cap : List AV)
  | agg (cs : List AV)
  | tup (vs : List AV)
  deriving Inhabited

/-- The cells that a value takes in memory. -/
def AV.cellsO : AV → Option (List AV)
  | .agg cs => some cs
  | .undef | .tup _ => .none
  | v => some [v]

inductive Trie (α : Type) where
  | leaf
  | node (l : Trie α) (v : Option α) (r : Trie α)

namespace Trie
variable {α : Type}
def get : Trie α → Nat → Option α
  | .leaf, _ => .none
  | .node l v r, n => match n with
    | 0 => v
    | m + 1 => bif (m % 2).beq 0 then l.get (m / 2) else r.get (m / 2)
def left : Trie α → Trie α | .leaf => .leaf | .node l _ _ => l
def right : Trie α → Trie α | .leaf => .leaf | .node _ _ r => r
def val : Trie α → Option α | .leaf => .none | .node _ v _ => v
def setF : Nat → Trie α → Nat → Option α → Trie α
  | 0, t, _, _ => t
  | f + 1, t, n, x => match n with
    | 0 => .node t.left x t.right
    | m + 1 => bif (m % 2).beq 0 then .node (setF f t.left (m / 2) x) t.val t.right else .node t.left t.val (setF f t.right (m / 2) x)
def set (t : Trie α) (n : Nat) (x : Option α) : Trie α := setF (n + 1) t n x
end Trie

inductive AObj where
  | cells (cs : List AV)
  | map (kvs : List (AV × AV)) (bs : List Nat) (ck : Nat)
  | iter (m : Option Nat) (since : Nat) (seen : List Nat) (last : Nat)
  | fam (e : Nat)

structure St where
  next : Nat
  objs : Trie AObj

def St.get (σ : St) (l : Nat) : Option AObj := σ.objs.get l
def St.put (σ : St) (l : Nat) (o : AObj) : St := { σ with objs := σ.objs.set l (some o) }
def St.kill (σ : St) (l : Nat) : St := { σ with objs := σ.objs.set l .none }
def St.new (σ : St) (o : AObj) : St := { next := σ.next + 1, objs := σ.objs.set σ.next (some o) }

abbrev Fr := Trie AV
def Fr.at (fr : Fr) (t : Nat) : AV := match Trie.get fr t with | some v => v | .none => .undef
def Fr.put (fr : Fr) (t : Nat) (v : AV) : Fr := Trie.set fr t (some v)

inductive AX where
  | t (n : Nat)
  | c (v : AV)

/-- What the slots hold. -/
abbrev Env := Nat → AV

def AX.ev (fr : Env) : AX → AV
  | .t n => fr n
  | .c v => v

inductive AConv where
  | int (k : IntKind)
  | same
  | toBytes
  | toStr
  deriving DecidableEq

/-- What the operands of '==' are. -/
inductive EK where
  | num | str | bool | ptr | slice | map | func
  | agg (ks : List EK)

inductive AO where
  | mv (x : AX)
  | pick (c a b : AX)
  | alloc (z : List AV)
  | box (x : AX)
  | build (z : List AV) (ps : List (Nat × Nat × AX))
  | bsl (mt : Bool) (k len : Nat) (z : List AV) (ps : List (Nat × Nat × AX))
  | load1 (x : AX)
  | loadn (n : Nat) (x : AX)
  | store (n : Nat) (a v : AX)
  | nilck (x : AX)
  | bin (op : BinOp) (ek : EK) (x y : AX)
  | un (op : UnOp) (x : AX)
  | conv (c : AConv) (x : AX)
  | faddr (off : Nat) (x : AX)
  | iaddr (k : Nat) (x i : AX)
  | iarr (k n : Nat) (x i : AX)
  | sidx (x i : AX)
  | field (off : Nat) (n : Option Nat) (x : AX)
  | slc (k : Nat) (x : AX) (lo hi mx : Option AX)
  | sslc (x : AX) (lo hi : Option AX)
  | look (ek : EK) (z : AV) (ok : Bool) (m key : AX)
  | mapup (ek : EK) (m key v : AX)
  | mapdel (ek : EK) (m key : AX)
  | len (ek : EK) (x : AX)
  | app (mt : Bool) (k bytes : Nat) (s x : AX)
  | mx (xs : List AX)
  | mn (xs : List AX)
  | ext (x : AX) (i : Nat)
  | mkfn (f : FuncId) (first cap : List AX)
  | mkmap
  | range (x : AX)
  | next (x : AX)
  | entry (x : AX)
  | mksl (k bytes : Nat) (z : List AV) (len cap : AX)
  | call (f : FuncId) (args : List AX)
  | callv (g : AX) (args : List AX)
  | bad

structure AOp where
  dst : Option Nat
  guard : Option (Nat × Bool)
  op : AO

/- the operations -/

def listEq : List Nat → List Nat → Bool
  | [], [] => true
  | a :: x, b :: y => a.beq b && listEq x y
  | _, _ => false

def listLt : List Nat → List Nat → Bool
  | _, [] => false
  | [], _ :: _ => true
  | a :: x, b :: y => Nat.blt a b || (a.beq b && listLt x y)

def ownEq : Own → Own → Bool
  | .none, .none => true
  | .exact, .exact => true
  | .fam l e, .fam l' e' => l.beq l' && e.beq e'
  | _, _ => false

def kindEq : IntKind → IntKind → Bool
  | .i8, .i8 | .i16, .i16 | .i32, .i32 | .i64, .i64 | .u8, .u8 | .u16, .u16 | .u32, .u32 | .u64, .u64 => true
  | _, _ => false

def leafEq : EK → AV → AV → Option Bool
  | .num, .int k a, .int k' b => if kindEq k k' then some (a == b) else .none
  | .str, .str a, .str b => some (listEq a b)
  | .bool, .bool a, .bool b => some (a == b)
  | _, _, _ => .none

def leavesEq : List EK → List AV → List AV → Option Bool
  | [], [], [] => some true
  | k :: ks, a :: x, b :: y => match leafEq k a b, leavesEq ks x y with
    | some p, some q => some (p && q)
    | _, _ => .none
  | _, _, _ => .none

def aEq : EK → AV → AV → Option Bool
  | .ptr, .nilp, .nilp => some true
  | .ptr, .nilp, .ptr _ _ => some false
  | .ptr, .ptr _ _, .nilp => some false
  | .ptr, .nilp, .eptr _ => some false
  | .ptr, .eptr _, .nilp => some false
  | .slice, .nils, .nils => some true
  | .slice, .nils, .sl .. => some false
  | .slice, .sl .., .nils => some false
  | .slice, .nils, .ms .. => some false
  | .slice, .ms .., .nils => some false
  | .map, .nilm, .nilm => some true
  | .map, .nilm, .mp _ => some false
  | .map, .mp _, .nilm => some false
  | .func, .nilf, .nilf => some true
  | .func, .nilf, .fn .. => some false
  | .func, .fn .., .nilf => some false
  | .agg ks, .agg x, .agg y => leavesEq ks x y
  | .bool, .bool a, .bool b => some (a == b)
  | _, _, _ => .none

def eqOp : BinOp → Option Bool → Option AV
  | .eql, some b => some (.bool b)
  | .neq, some b => some (.bool !b)
  | _, _ => .none

def aBin (op : BinOp) (ek : EK) (x y : AV) : Option AV :=
  match x, y with
  | .int k a, .int k' b =>
    match op with
    | .shl => if b < 0 then .none else some (.int k (k.wrap (a * 2 ^ (min b.toNat k.bits))))
    | .shr => if b < 0 then .none else some (.int k (a.fdiv (2 ^ (min b.toNat k.bits))))
    | _ => if kindEq k k' then
      match op with
      | .add => some (.int k (k.wrap (a + b)))
      | .sub => some (.int k (k.wrap (a - b)))
      | .mul => some (.int k (k.wrap (a * b)))
      | .quo => if b = 0 then .none else some (.int k (k.wrap (a.tdiv b)))
      | .rem => if b = 0 then .none else some (.int k (a.tmod b))
      | .and => some (.int k (k.wrap ((BitVec.ofInt k.bits a &&& BitVec.ofInt k.bits b).toNat)))
      | .or => some (.int k (k.wrap ((BitVec.ofInt k.bits a ||| BitVec.ofInt k.bits b).toNat)))
      | .xor => some (.int k (k.wrap ((BitVec.ofInt k.bits a ^^^ BitVec.ofInt k.bits b).toNat)))
      | .eql => some (.bool (a == b))
      | .neq => some (.bool (a != b))
      | .lss => some (.bool (decide (a < b)))
      | .leq => some (.bool (decide (a ≤ b)))
      | .gtr => some (.bool (decide (a > b)))
      | .geq => some (.bool (decide (a ≥ b)))
      | _ => .none
      else .none
  | .str a, .str b =>
    match op with
    | .add => if a.length + b.length ≤ 1099511627776 then some (.str (a ++ b)) else .none
    | .eql => some (.bool (listEq a b))
    | .neq => some (.bool !(listEq a b))
    | .lss => some (.bool (listLt a b))
    | .leq => some (.bool (listLt a b || listEq a b))
    | .gtr => some (.bool !(listLt a b || listEq a b))
    | .geq => some (.bool !(listLt a b))
    | _ => .none
  | x, y => eqOp op (aEq ek x y)

def aUn (op : UnOp) (x : AV) : Option AV :=
  match op, x with
  | .neg, .int k n => some (.int k (k.wrap (0 - n)))
  | .xor, .int k n => some (.int k (k.wrap ((BitVec.ofInt k.bits (if k.signed then -1 else k.max) ^^^ BitVec.ofInt k.bits n).toNat)))
  | .not, .bool b => some (.bool !b)
  | _, _ => .none

def bytesOf : List AV → Option (List Nat)
  | [] => some []
  | .int .u8 n :: r => if 0 ≤ n ∧ n < 256 then match bytesOf r with | some l => some (n.toNat :: l) | .none => .none else .none
  | _ :: _ => .none

def byteCells (s : List Nat) : List AV := s.map fun n => .int .u8 (Int.ofNat n)

/-- A slice's length and its cells. -/
def view (k : Nat) (σ : St) : AV → Option (Nat × List AV)
  | .nils => some (0, [])
  | .sl k' _ len cs => if k.beq k' then some (len, cs) else .none
  | .ms k' l off len => if k.beq k' then match σ.get l with
    | some (.cells cs) => if off + len * k ≤ cs.length then some (len, (cs.drop off).take (len * k)) else .none
    | _ => .none
    else .none
  | .str s => if k.beq 1 then some (s.length, byteCells s) else .none
  | _ => .none

def aConv (c : AConv) (σ : St) (x : AV) : Option AV :=
  match c, x with
  | .int k, .int _ n => some (.int k (k.wrap n))
  | .same, .str s => some (.str s)
  | .toBytes, .str s => some (.sl 1 .none s.length (byteCells s))
  | .toStr, .str _ => .none
  | .toStr, x => match view 1 σ x with
    | some (_, cs) => match bytesOf cs with | some l => some (.str l) | .none => .none
    | .none => .none
  | _, _ => .none

def fillAt (cs : List AV) (off : Nat) (vs : List AV) : List AV := cs.take off ++ vs ++ cs.drop (off + vs.length)

def fillAll (fr : Env) : List AV → List (Nat × Nat × AX) → Option (List AV)
  | z, [] => some z
  | z, (off, size, x) :: r =>
    match (x.ev fr).cellsO with
    | some vs => if vs.length = size ∧ off + size ≤ z.length then fillAll fr (fillAt z off vs) r else .none
    | .none => .none

def rep (z : List AV) : Nat → List AV
  | 0 => []
  | n + 1 => z ++ rep z n

def asNat : AV → Option Nat
  | .int _ n => if 0 ≤ n then some n.toNat else .none
  | _ => .none

def optNat (fr : Env) (d : Nat) : Option AX → Option Nat
  | .none => some d
  | some x => asNat (x.ev fr)

def cutOwn (own : Own) (lo len : Nat) : Own :=
  match own with
  | .exact => .exact
  | .fam l e => if lo < len then .fam l e else .none
  | .none => .none

def aSlc (k : Nat) (fr : Env) (x : AV) (lo hi mx : Option AX) : Option AV :=
  match x with
  | .nils => match optNat fr 0 lo, optNat fr 0 hi, optNat fr 0 mx with
    | some 0, some 0, some 0 => some .nils
    | _, _, _ => .none
  | .sl k' own len cs => match optNat fr 0 lo, optNat fr len hi, optNat fr len mx with
    | some l, some h, some m =>
      if k = k' ∧ l ≤ h ∧ h ≤ m ∧ m ≤ len then
        let own' := match mx with
          | .none => if h = len then cutOwn own l len else .none
          | some _ => if h = m then .exact else .none
        some (.sl k own' (h - l) ((cs.drop (l * k)).take ((h - l) * k)))
      else .none
    | _, _, _ => .none
  | .ms k' b off len => if k.beq k' then match mx, optNat fr 0 lo, optNat fr len hi with
    | .none, some l, some h => if l < h ∧ h ≤ len ∨ l = 0 ∧ h = 0 then some (.ms k b (off + l * k) (h - l)) else .none
    | _, _, _ => .none
    else .none
  | _ => .none

def aSslc (fr : Env) (x : AV) (lo hi : Option AX) : Option AV :=
  match x with
  | .str s => match optNat fr 0 lo, optNat fr s.length hi with
    | some l, some h => if l ≤ h ∧ h ≤ s.length then some (.str ((s.drop l).take (h - l))) else .none
    | _, _ => .none
  | _ => .none

def keyEq : EK → AV → AV → Option Bool
  | .agg ks, .agg a, .agg b => leavesEq ks a b
  | ek, x, y => leafEq ek x y

def keyOk : EK → AV → Bool
  | .agg ks, .agg cs => cs.length.beq ks.length
  | .agg _, _ => false
  | _, _ => true

def findK (ek : EK) (k : AV) : List (AV × AV) → Option (Option AV)
  | [] => some .none
  | (k', v) :: r => match keyEq ek k k' with
    | some true => some (some v)
    | some false => findK ek k r
    | .none => .none

def updK (ek : EK) (k v : AV) : List (AV × AV) → Option (List (AV × AV))
  | [] => some [(k, v)]
  | (k', v') :: r => match keyEq ek k k' with
    | some true => some ((k, v) :: r)
    | some false => match updK ek k v r with | some l => some ((k', v') :: l) | .none => .none
    | .none => .none

def delK (ek : EK) (k : AV) : List (AV × AV) → Option (List (AV × AV))
  | [] => some []
  | (k', v') :: r => match keyEq ek k k' with
    | some true => some r
    | some false => match delK ek k r with | some l => some ((k', v') :: l) | .none => .none
    | .none => .none

def idxK (ek : EK) (k : AV) : List (AV × AV) → Option (Option Nat)
  | [] => some .none
  | (k', _) :: r => match keyEq ek k k' with
    | some true => some (some 0)
    | some false => (idxK ek k r).map (·.map (· + 1))
    | .none => .none

def foldInts (f : Int → Int → Int) (k : IntKind) : Int → List AV → Option AV
  | a, [] => some (.int k a)
  | a, .int k' b :: r => if kindEq k k' then foldInts f k (f a b) r else .none
  | _, _ => .none

def maxInts : List AV → Option AV
  | .int k a :: r => foldInts (fun x y => if y > x then y else x) k a r
  | _ => .none

def minInts : List AV → Option AV
  | .int k a :: r => foldInts (fun x y => if y < x then y else x) k a r
  | _ => .none

def room : Nat := 1099511627776

def aApp (mt : Bool) (k bytes : Nat) (σ : St) (s x : AV) : Option (AV × St) :=
  match view k σ x with
  | .none => .none
  | some (n, xs) =>
    if n = 0 then match s with
      | .nils => some (.nils, σ)
      | .sl k' own len cs => if k.beq k' then some (.sl k' own len cs, σ) else .none
      | .ms k' l off len => some (.ms k' l off len, σ)
      | _ => .none
    else match s with
    | .nils => if n * bytes ≤ room then
        if mt then some (.ms k σ.next 0 n, σ.new (.cells xs)) else some (.sl k (.fam σ.next n) n xs, σ.new (.fam n))
      else .none
    | .sl k' own len cs => if k = k' ∧ (len + n) * bytes ≤ room then match own with
        | .exact => if mt then some (.ms k σ.next 0 (len + n), σ.new (.cells (cs ++ xs))) else some (.sl k (.fam σ.next (len + n)) (len + n) (cs ++ xs), σ.new (.fam (len + n)))
        | .fam l e => if mt then .none else match σ.get l with
          | some (.fam e') => if e.beq e' then some (.sl k (.fam l (e + n)) (len + n) (cs ++ xs), σ.put l (.fam (e + n))) else .none
          | _ => .none
        | .none => .none
      else .none
    | .ms k' l off len => if k.beq k' && decide ((len + n) * bytes ≤ room) then match σ.get l with
        | some (.cells cs) => if (off + len * k).beq cs.length then some (.ms k σ.next 0 (len + n), (σ.kill l).new (.cells (cs.drop off ++ xs))) else .none
        | _ => .none
      else .none
    | _ => .none

def aLoad (σ : St) (n : Nat) : AV → Option (List AV)
  | .ptr l off => match σ.get l with
    | some (.cells cs) => if off + n ≤ cs.length then some ((cs.drop off).take n) else .none
    | _ => .none
  | .eptr cs => if n ≤ cs.length then some (cs.take n) else .none
  | _ => .none

def aLen : EK → St → AV → Option Nat
  | .str, _, .str s => some s.length
  | .slice, _, .nils => some 0
  | .slice, _, .sl _ _ len _ => some len
  | .slice, _, .ms _ _ _ len => some len
  | .map, _, .nilm => some 0
  | .map, σ, .mp l => match σ.get l with | some (.map kvs _ _) => some kvs.length | _ => .none
  | _, _, _ => .none

def evs (fr : Env) (xs : List AX) : List AV := xs.map (AX.ev fr)

abbrev Calls' := FuncId → List AV → St → Option (AV × St)

def pickV (c x y : AV) : Option AV := match c with | .bool true => some x | .bool false => some y | _ => .none

def nilckV (x : AV) : Option AV := match x with | .ptr l off => some (.ptr l off) | .eptr cs => some (.eptr cs) | _ => .none

def faddrV (off : Nat) (x : AV) : Option AV := match x with | .ptr l o => some (.ptr l (o + off)) | .eptr cs => some (.eptr (cs.drop off)) | _ => .none

def iaddrV (k : Nat) (x j : AV) : Option AV := match x, j with
  | .sl k' _ len cs, .int _ n => if k = k' ∧ 0 ≤ n ∧ n < len then some (.eptr (cs.drop (n.toNat * k))) else .none
  | .ms k' l off len, .int _ n => if k = k' ∧ 0 ≤ n ∧ n < len then some (.ptr l (off + n.toNat * k)) else .none
  | _, _ => .none

def iarrV (k len : Nat) (x j : AV) : Option AV := match x, j with
  | .ptr l off, .int _ n => if 0 ≤ n ∧ n < len then some (.ptr l (off + n.toNat * k)) else .none
  | _, _ => .none

def sidxV (x j : AV) : Option AV := match x, j with
  | .str s, .int _ n => if 0 ≤ n then match s[n.toNat]? with | some b => some (.int .u8 (Int.ofNat b)) | .none => .none else .none
  | _, _ => .none

def fieldV (off : Nat) (n : Option Nat) (x : AV) : Option AV := match x with
  | .agg cs => match n with
    | .none => cs[off]?
    | some n => if off + n ≤ cs.length then some (.agg ((cs.drop off).take n)) else .none
  | _ => .none

def extV (x : AV) (i : Nat) : Option AV := match x with | .tup vs => vs[i]? | _ => .none

def load1V (σ : St) (x : AV) : Option AV := match aLoad σ 1 x with | some [v] => some v | _ => .none

def loadnV (σ : St) (n : Nat) (x : AV) : Option AV := match aLoad σ n x with | some cs => some (.agg cs) | .none => .none

def lookV (ek : EK) (z : AV) (ok : Bool) (σ : St) (m key : AV) : Option AV :=
  if keyOk ek key then match (match m with
      | .nilm => some .none
      | .mp l => match σ.get l with | some (.map kvs _ _) => findK ek key kvs | _ => .none
      | _ => .none : Option (Option AV)) with
    | some (some v) => some (if ok then .tup [v, .bool true] else v)
    | some .none => some (if ok then .tup [z, .bool false] else z)
    | .none => .none
  else .none

def lenV (ek : EK) (σ : St) (x : AV) : Option AV := match aLen ek σ x with | some n => some (.int .i64 n) | .none => .none

def storeS (n : Nat) (σ : St) (x y : AV) : Option St := match x with
  | .ptr l off => match σ.get l with
    | some (.cells cs) => match y.cellsO with
      | some vs => if vs.length = n ∧ off + n ≤ cs.length then some (σ.put l (.cells (fillAt cs off vs))) else .none
      | .none => .none
    | _ => .none
  | _ => .none

def mapupS (ek : EK) (σ : St) (m key v : AV) : Option St := match m with
  | .mp l => match σ.get l with
    | some (.map kvs bs ck) => if keyOk ek key then match idxK ek key kvs with
      | some (some j) => some (σ.put l (.map (kvs.set j (key, v)) bs ck))
      | some .none => some (σ.put l (.map (kvs ++ [(key, v)]) (bs ++ [ck]) (ck + 1)))
      | .none => .none
      else .none
    | _ => .none
  | _ => .none

def mapdelS (ek : EK) (σ : St) (m key : AV) : Option St := match m with
  | .mp l => match σ.get l with
    | some (.map kvs bs ck) => if keyOk ek key then match idxK ek key kvs with
      | some (some j) => some (σ.put l (.map (kvs.eraseIdx j) (bs.eraseIdx j) ck))
      | some .none => some (σ.put l (.map kvs bs ck))
      | .none => .none
      else .none
    | _ => .none
  | _ => .none

def memN (n : Nat) : List Nat → Bool
  | [] => false
  | m :: r => m.beq n || memN n r

def allGe (n : Nat) : List Nat → Bool
  | [] => true
  | m :: r => Nat.ble n m && allGe n r

/-- The entries that have not been seen. -/
def unseen (seen : List Nat) : List (AV × AV) → List Nat → List (AV × AV × Nat)
  | (k, v) :: r, b :: bs => if memN b seen then unseen seen r bs else (k, v, b) :: unseen seen r bs
  | _, _ => []

def atStamp (s : Nat) : List (AV × AV) → List Nat → Option (AV × AV)
  | (k, v) :: r, b :: bs => if b.beq s then some (k, v) else atStamp s r bs
  | _, _ => .none

def rangeS (σ : St) (x : AV) : Option (AV × St) := match x with
  | .nilm => some (.ptr σ.next 0, σ.new (.iter .none 0 [] 0))
  | .mp l => match σ.get l with
    | some (.map _ _ ck) => some (.ptr σ.next 0, σ.new (.iter (some l) ck [] ck))
    | _ => .none
  | _ => .none

def nextS (σ : St) (x : AV) : Option (AV × St) := match x with
  | .ptr l 0 => match σ.get l with
    | some (.iter .none _ _ _) => some (.tup [.bool false], σ)
    | some (.iter (some lm) since seen last) => match σ.get lm with
      | some (.map kvs bs ck) => if !seen.isEmpty && (!bs.isEmpty && allGe last bs) then .none else match unseen seen kvs bs with
        | [] => some (.tup [.bool false], σ)
        | [(k, v, b)] => if Nat.blt b since then some (.tup [.bool true, k, v], σ.put l (.iter (some lm) since (seen ++ [b]) ck)) else .none
        | _ => .none
      | _ => .none
    | _ => .none
  | _ => .none

def entryV (σ : St) (x : AV) : Option AV := match x with
  | .ptr l 0 => match σ.get l with
    | some (.iter (some lm) _ seen last) => match σ.get lm, seen.getLast? with
      | some (.map kvs bs ck), some s => if ck.beq last then match atStamp s kvs bs with
        | some (k, v) => some (.tup [k, v])
        | .none => .none
        else .none
      | _, _ => .none
    | _ => .none
  | _ => .none

def mkslS (k bytes : Nat) (z : List AV) (σ : St) (x y : AV) : Option (AV × St) := match asNat x, asNat y with
  | some n, some c => if n ≤ c ∧ c * bytes ≤ room then
      if n = 0 then some (.sl k (.fam σ.next 0) 0 [], σ.new (.fam 0)) else some (.ms k σ.next 0 n, σ.new (.cells (rep z n)))
    else .none
  | _, _ => .none

def bslS (mt : Bool) (k len : Nat) (z : List AV) (fr : Env) (σ : St) (qs : List (Nat × Nat × AX)) : Option (AV × St) := match fillAll fr (rep z len) qs with
  | some cs => if mt then some (.ms k σ.next 0 len, σ.new (.cells cs)) else some (.sl k .exact len cs, σ)
  | .none => .none

def wrapV (σ : St) : Option AV → Option (AV × St) | some v => some (v, σ) | .none => .none
def wrapS (v : AV) : Option St → Option (AV × St) | some σ => some (v, σ) | .none => .none

def aOp (calls : Calls') (fr : Env) (σ : St) : AO → Option (AV × St)
  | .mv x => some (x.ev fr, σ)
  | .pick c a b => wrapV σ (pickV (c.ev fr) (a.ev fr) (b.ev fr))
  | .alloc z => some (.ptr σ.next 0, σ.new (.cells z))
  | .box x => match (x.ev fr).cellsO with | some cs => some (.ptr σ.next 0, σ.new (.cells cs)) | .none => .none
  | .build z ps => match fillAll fr z ps with | some cs => some (.agg cs, σ) | .none => .none
  | .bsl mt k len z ps => bslS mt k len z fr σ ps
  | .load1 x => wrapV σ (load1V σ (x.ev fr))
  | .loadn n x => wrapV σ (loadnV σ n (x.ev fr))
  | .store n a v => wrapS .undef (storeS n σ (a.ev fr) (v.ev fr))
  | .nilck x => wrapV σ (nilckV (x.ev fr))
  | .bin op ek x y => wrapV σ (aBin op ek (x.ev fr) (y.ev fr))
  | .un op x => wrapV σ (aUn op (x.ev fr))
  | .conv c x => wrapV σ (aConv c σ (x.ev fr))
  | .faddr off x => wrapV σ (faddrV off (x.ev fr))
  | .iaddr k x i => wrapV σ (iaddrV k (x.ev fr) (i.ev fr))
  | .iarr k len x i => wrapV σ (iarrV k len (x.ev fr) (i.ev fr))
  | .sidx x i => wrapV σ (sidxV (x.ev fr) (i.ev fr))
  | .field off n x => wrapV σ (fieldV off n (x.ev fr))
  | .slc k x lo hi mx => wrapV σ (aSlc k fr (x.ev fr) lo hi mx)
  | .sslc x lo hi => wrapV σ (aSslc fr (x.ev fr) lo hi)
  | .look ek z ok m key => wrapV σ (lookV ek z ok σ (m.ev fr) (key.ev fr))
  | .mapup ek m key v => wrapS .undef (mapupS ek σ (m.ev fr) (key.ev fr) (v.ev fr))
  | .mapdel ek m key => wrapS (.tup []) (mapdelS ek σ (m.ev fr) (key.ev fr))
  | .len ek x => wrapV σ (lenV ek σ (x.ev fr))
  | .app mt k bytes s x => aApp mt k bytes σ (s.ev fr) (x.ev fr)
  | .mx xs => wrapV σ (maxInts (evs fr xs))
  | .mn xs => wrapV σ (minInts (evs fr xs))
  | .ext x i => wrapV σ (extV (x.ev fr) i)
  | .mkfn f first cap => some (.fn f (evs fr first) (evs fr cap), σ)
  | .mkmap => some (.mp σ.next, σ.new (.map [] [] 0))
  | .range x => rangeS σ (x.ev fr)
  | .next x => nextS σ (x.ev fr)
  | .entry x => wrapV σ (entryV σ (x.ev fr))
  | .mksl k bytes z len cap => mkslS k bytes z σ (len.ev fr) (cap.ev fr)
  | .call f args => calls f (evs fr args) σ
  | .callv g args => match g.ev fr with
    | .fn f first cap => calls f (first ++ evs fr args ++ cap) σ
    | _ => .none
  | .bad => .none

/-- Is a guarded operation wanted? none: it can't be told. -/
def wanted (fr : Env) : Option (Nat × Bool) → Option Bool
  | .none => some true
  | some (t, b) => match fr t with
    | .bool c => some (c == b)
    | .tup [] => some false
    | _ => .none

def putDst (fr : Fr) (d : Option Nat) (v : AV) : Fr := match d with | some t => fr.put t v | .none => fr

def aStep (calls : Calls') (fr : Env) (σ : St) (o : AOp) : Option (AV × St) :=
  match wanted fr o.guard with
  | some true => aOp calls fr σ o.op
  | some false => some (.tup [], σ)
  | .none => .none

def aOps (calls : Calls') : List AOp → Fr → St → Option (Fr × St)
  | [], fr, σ => some (fr, σ)
  | o :: r, fr, σ => match aStep calls fr.at σ o with
    | some (v, σ') => aOps calls r (putDst fr o.dst v) σ'
    | .none => .none

/- regions that draw their order -/

mutual
def AV.beq : AV → AV → Bool
  | .undef, .undef => true
  | .int k n, .int k' m => kindEq k k' && n == m
  | .bool a, .bool b => a == b
  | .str a, .str b => listEq a b
  | .nilp, .nilp => true
  | .ptr l o, .ptr l' o' => l.beq l' && o.beq o'
  | .eptr a, .eptr b => beqL a b
  | .nils, .nils => true
  | .sl k w n a, .sl k' w' n' b => k.beq k' && ownEq w w' && n.beq n' && beqL a b
  | .ms k l o n, .ms k' l' o' n' => k.beq k' && l.beq l' && o.beq o' && n.beq n'
  | .nilm, .nilm => true
  | .mp l, .mp l' => l.beq l'
  | .nilf, .nilf => true
  | .fn f a c, .fn g b d => f.beq g && beqL a b && beqL c d
  | .agg a, .agg b => beqL a b
  | .tup a, .tup b => beqL a b
  | _, _ => false
def beqL : List AV → List AV → Bool
  | [], [] => true
  | a :: x, b :: y => a.beq b && beqL x y
  | _, _ => false
end

/-- An operation that changes the store, makes an object, or calls. -/
def AO.loud : AO → Bool
  | .alloc _ | .box _ | .store .. | .mapup .. | .mapdel .. | .app .. | .mkmap | .range _ | .next _ | .mksl .. | .call .. | .callv .. => true
  | .bsl mt .. => mt
  | _ => false

/-- An operation that looks into the store. -/
def AO.reads : AO → Bool
  | .load1 _ | .loadn .. | .look .. | .entry _ => true
  | .len .map _ => true
  | .conv .toStr _ => true
  | _ => false

/-- A region that draws: its operations, their ancestors (a bit each), an order in which they are carried out here, what is looked at again (operation i behind k loud ones), and an allocation that is carried out here later than it may be. -/
structure DR where
  ops : List AOp
  anc : List Nat
  ord : List Nat
  chks : List (Nat × Nat)
  late : Option Nat

/-- Along the order: the frame, the states (the last first). -/
def dRun (calls : Calls') (ops : List AOp) : List Nat → Fr → List St → Option (Fr × List St)
  | [], fr, sts => some (fr, sts)
  | i :: r, fr, sts => match ops[i]?, sts with
    | some o, σ :: rest => match aStep calls fr.at σ o with
      | some (v, σ') => dRun calls ops r (putDst fr o.dst v) (if o.op.loud then σ' :: σ :: rest else σ :: rest)
      | .none => .none
    | _, _ => .none

def writer : Nat → List AOp → Nat → Option Nat
  | _, [], _ => .none
  | i, o :: r, t => match o.dst with
    | some d => if d.beq t then some i else writer (i + 1) r t
    | .none => writer (i + 1) r t

/-- What operation i finds in a slot. -/
def opd (d : DR) (fr0 fr1 : Env) (i : Nat) : Env := fun t =>
  match writer 0 d.ops t with
  | some j => if (d.anc.getD i 0).testBit j then fr1 t else fr0 t
  | .none => fr0 t

def dChk (calls : Calls') (d : DR) (fr0 fr1 : Env) (sts : List St) : List (Nat × Nat) → Bool
  | [] => true
  | (i, k) :: r => (match d.ops[i]?, sts[k]? with
    | some o, some σ => match aStep calls (opd d fr0 fr1 i) σ o with
      | some (v, _) => (match o.dst with | some t => v.beq (fr1 t) | .none => true)
      | .none => false
    | _, _ => false) && dChk calls d fr0 fr1 sts r

def dExec (calls : Calls') (d : DR) (fr : Fr) (σ : St) : Option (Fr × St) :=
  match dRun calls d.ops d.ord fr [σ] with
  | some (fr', σ' :: rest) => if dChk calls d fr.at fr'.at (σ' :: rest).reverse d.chks then some (fr', σ') else .none
  | _ => .none

inductive AC where
  | skip
  | reg (ops : List AOp)
  | dreg (d : DR)
  | seq (a b : AC)
  | cond (c : AX) (a b : AC)
  | block (id : Nat) (c : AC)
  | loop (c : AC)
  | scope (c : AC)
  | keep (d : Nat) (ts : List Nat) (c : AC)
  | exit (id : Nat)
  | ret

inductive AExit where
  | normal
  | exit (id : Nat)
  | ret

/-- A frame of which nothing is known. -/
def fullT : Nat → Fr
  | 0 => .leaf
  | d + 1 => .node (fullT d) (some .undef) (fullT d)

def putAll : List (Nat × AV) → Fr → Fr
  | [], fr => fr
  | (t, v) :: r, fr => putAll r (fr.put t v)

def frL (d : Nat) (l : List (Nat × AV)) : Fr := putAll l (fullT d)

/-- Of a frame some slots. -/
def keepFr (d : Nat) (ts : List Nat) (fr : Fr) : Fr := frL d (ts.map fun t => (t, fr.at t))

abbrev Run := Fr → St → Option (AExit × Fr × St)

def aLoop (body : Run) : Nat → Run
  | 0, _, _ => .none
  | k + 1, fr, σ => match body fr σ with
    | some (.normal, fr', σ') => aLoop body k fr' σ'
    | some (.exit id, fr', σ') => some (.exit id, fr', σ')
    | some (.ret, fr', σ') => some (.ret, fr', σ')
    | .none => .none

def aExec (calls : Calls') (k : Nat) : AC → Run
  | .skip, fr, σ => some (.normal, fr, σ)
  | .reg ops, fr, σ => match aOps calls ops fr σ with | some (fr', σ') => some (.normal, fr', σ') | .none => .none
  | .dreg d, fr, σ => match dExec calls d fr σ with | some (fr', σ') => some (.normal, fr', σ') | .none => .none
  | .scope c, fr, σ => aExec calls k c fr σ
  | .keep d ts c, fr, σ => aExec calls k c (keepFr d ts fr) σ
  | .seq a b, fr, σ => match aExec calls k a fr σ with
    | some (.normal, fr', σ') => aExec calls k b fr' σ'
    | some (.exit id, fr', σ') => some (.exit id, fr', σ')
    | some (.ret, fr', σ') => some (.ret, fr', σ')
    | .none => .none
  | .cond c a b, fr, σ => match c.ev fr.at with
    | .bool true => aExec calls k a fr σ
    | .bool false => aExec calls k b fr σ
    | _ => .none
  | .block id c, fr, σ => match aExec calls k c fr σ with
    | some (.exit id', fr', σ') => if id'.beq id then some (.normal, fr', σ') else some (.exit id', fr', σ')
    | some (.normal, fr', σ') => some (.normal, fr', σ')
    | some (.ret, fr', σ') => some (.ret, fr', σ')
    | .none => .none
  | .loop c, fr, σ => aLoop (aExec calls k c) k fr σ
  | .exit id, fr, σ => some (.exit id, fr, σ)
  | .ret, fr, σ => some (.ret, fr, σ)

/-- A result: a slot, or the cells that a slot points to (n: a struct of n cells). -/
inductive ARes where
  | tmp (t : Nat)
  | cell1 (t : Nat)
  | celln (t n : Nat)

def aRes1 (fr : Fr) (σ : St) : ARes → Option AV
  | .tmp t => some (fr.at t)
  | .cell1 t => match aLoad σ 1 (fr.at t) with | some [v] => some v | _ => .none
  | .celln t n => match aLoad σ n (fr.at t) with | some cs => some (.agg cs) | .none => .none

def aResL (fr : Fr) (σ : St) : List ARes → Option (List AV)
  | [] => some []
  | r :: rs => match aRes1 fr σ r, aResL fr σ rs with
    | some v, some vs => some (v :: vs)
    | _, _ => .none

structure AF where
  ntmps : Nat
  res : List ARes
  body : AC

def initFr : Nat → List AV → Fr → Fr
  | _, [], fr => fr
  | i, v :: r, fr => initFr (i + 1) r (fr.put i v)

def aResult (fr : Fr) (σ : St) (rs : List ARes) : Option AV :=
  match aResL fr σ rs with
  | some [v] => some v
  | some vs => some (.tup vs)
  | .none => .none

def AF.run (f : AF) (calls : Calls') (k : Nat) (args : List AV) (σ : St) : Option (AV × St) :=
  match aExec calls k f.body (initFr 0 args .leaf) σ with
  | some (.normal, fr, σ') => match aResult fr σ' f.res with | some v => some (v, σ') | .none => .none
  | some (.ret, fr, σ') => match aResult fr σ' f.res with | some v => some (v, σ') | .none => .none
  | _ => .none

end Go.AM

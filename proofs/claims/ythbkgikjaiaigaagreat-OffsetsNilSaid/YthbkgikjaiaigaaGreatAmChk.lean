import Derived.Test.YthbkgikjaiaigaaGreatAmIter
namespace Go.AM
set_option linter.all false
open Go.RowKit
variable {P : Program} {w0 : Base} {w : World} {G : Gh} {σ : St}

def zeroChk (P : Program) (t : TypeId) (z : List AV) : Bool := match P.info? t with
  | some i => match i.zero with | some v => cChkL z v.cells.toList | none => false
  | none => false

def convChk (P : Program) (s d : TypeId) : AConv → Bool
  | .int k => (P.underlying s).isSome && (match P.underlying d with | some (.int k') => kindEq k' k | _ => false)
  | .same => (P.underlying s).isSome && (match P.underlying d with | some .string => true | _ => false)
  | .toBytes => (match P.underlying s with | some .string => true | _ => false) && (match P.underlying d with | some (.slice e) => (match P.underlying e with | some (.int .u8) => true | _ => false) | _ => false)
  | .toStr => (match P.underlying d with | some .string => true | _ => false) && (match P.underlying s with | some (.slice e) => (match P.underlying e with | some (.int .u8) => true | _ => false) | _ => false)

/-- Does an abstract operation say what an operation does? (Calls of functions apart.) -/
def opChk (P : Program) : Op → AO → Bool
  | .move x, .mv y => xChk x y
  | .assign x, .mv y => xChk x y
  | .pick c a b, .pick c' a' b' => xChk c c' && xChk a a' && xChk b b'
  | .alloc t, .alloc z => zeroChk P t z
  | .box _ x, .box y => xChk x y
  | .build t ps, .build z qs => zeroChk P t z && (match P.underlying t with
      | some (.struct fs) => fs.toList.all (fun f => (P.info? f.type).isSome) && partsChk ps.toList (fun j => (fs.toList[j]?).map fun (f : Field) => (f.offset, P.cellsOf f.type)) qs
      | _ => false)
  | .buildSlice t len ps, .bsl _ k len' z qs => (match P.underlying t with
      | some (.slice e) => zeroChk P e z && (match P.info? e with
          | some i => i.size.beq k && z.length.beq k && len.beq len' && Nat.ble (len * k) 16777216 && partsChk ps.toList (fun j => some (j * k, k)) qs
          | none => false)
      | _ => false)
  | .load t a, .load1 y => (match P.underlying t with | some d => !aggD d | none => false) && xChk a y
  | .load t a, .loadn n y => (match P.underlying t with | some d => aggD d | none => false) && (match P.info? t with | some i => i.size.beq n | none => false) && xChk a y
  | .store t a v, .store n a' v' => (match P.info? t with | some i => i.size.beq n | none => false) && xChk a a' && xChk v v'
  | .nilCheck x, .nilck y => xChk x y
  | .binOp op t x y _, .bin op' ek x' y' => decide (op = op') && kindT P t ek && xChk x x' && xChk y y'
  | .unOp op _ x, .un op' y => decide (op = op') && xChk x y
  | .convert s d x, .conv c y => convChk P s d c && xChk x y
  | .fieldAddr s x f, .faddr off y => (match P.underlying s with
      | some (.struct fs) => (match fs[f]? with
          | some fd => fd.offset.beq off && (match P.info? fd.type with | some i => !(i.size.beq 0) | none => false)
          | none => false)
      | _ => false) && xChk x y
  | .indexAddr t x i, .iaddr k y j => (match P.underlying t with | some (.slice e) => (match P.info? e with | some i => i.size.beq k | none => false) | _ => false) && xChk x y && xChk i j
  | .indexAddr t x i, .iarr k n y j => (match P.underlying t with | some (.array n' e) => n'.beq n && (match P.info? e with | some i => i.size.beq k | none => false) | _ => false) && xChk x y && xChk i j
  | .index t x i, .sidx y j => (match P.underlying t with | some .string => true | _ => false) && xChk x y && xChk i j
  | .field t x f, .field off n y => (match P.underlying t with
      | some (.struct fs) => (match fs[f]? with
          | some fd => fd.offset.beq off && (match P.underlying fd.type, P.info? fd.type with
              | some d, some i => (match n with | some m => aggD d && m.beq i.size | none => !aggD d)
              | _, _ => false)
          | none => false)
      | _ => false) && xChk x y
  | .slice t x lo hi mx, .slc k y lo' hi' mx' => (match P.underlying t with | some (.slice e) => (match P.info? e with | some i => i.size.beq k | none => false) | _ => false) && xChk x y && xoChk lo lo' && xoChk hi hi' && xoChk mx mx' && (!mx'.isSome || hi'.isSome)
  | .slice t x lo hi none, .sslc y lo' hi' => (match P.underlying t with | some .string => true | _ => false) && xChk x y && xoChk lo lo' && xoChk hi hi'
  | .lookup t m k ok, .look ek z ok' m' k' => (match P.underlying t with
      | some (.map kt vt) => keyT P kt ek && (match P.info? vt with | some i => (match i.zero with | some v => cChk z v | none => false) | none => false)
      | _ => false) && (ok == ok') && xChk m m' && xChk k k'
  | .mapUpdate t m k v, .mapup ek m' k' v' => (match P.underlying t with | some (.map kt _) => keyT P kt ek | _ => false) && xChk m m' && xChk k k' && xChk v v'
  | .makeMap _ none, .mkmap => true
  | .makeSlice t l c, .mksl k bytes z l' c' => (match P.underlying t with
      | some (.slice e) => zeroChk P e z && (match P.info? e with | some i => i.size.beq k && z.length.beq k && i.bytes.beq bytes && Nat.ble 1 bytes | none => false)
      | _ => false) && xChk l l' && xChk c c'
  | .extract x i, .ext y j => xChk x y && i.beq j
  | .makeFunc (.func f) first cap, .mkfn g first' cap' => f.beq g && xsChk first.toList first' && xsChk cap.toList cap'
  | .call { callee := .builtin .len, args, argTypes }, .len ek y => (match args.toList, argTypes[0]? with | [x], some t => kindT P t ek && xChk x y | _, _ => false)
  | .call { callee := .builtin .append, args, argTypes }, .app _ k bytes s x => (match args.toList, argTypes[0]?, argTypes[1]? with
      | [a, b], some t, some t1 => notInt P t1 && (match P.underlying t with
          | some (.slice e) => (match P.info? e with
              | some i => i.size.beq k && i.bytes.beq bytes && Nat.ble 1 bytes && (match i.zero with | some v => v.cells.size.beq k | none => false)
              | none => false)
          | _ => false) && xChk a s && xChk b x
      | _, _, _ => false)
  | .call { callee := .builtin .max, args, argTypes := _ }, .mx xs => xsChk args.toList xs
  | .call { callee := .builtin .min, args, argTypes := _ }, .mn xs => xsChk args.toList xs
  | .call { callee := .builtin .delete, args, argTypes }, .mapdel ek m k => (match args.toList, argTypes[0]? with
      | [a, b], some t => (match P.underlying t with | some (.map kt _) => keyT P kt ek | _ => false) && xChk a m && xChk b k
      | _, _ => false)
  | .range t x, .range y => (match P.underlying t with | some (.map _ _) => true | _ => false) && xChk x y
  | .next it false, .next y => xChk it y
  | .entry it, .entry y => xChk it y
  | _, .bad => true
  | _, _ => false

theorem zeroChk_inv {t : TypeId} {z : List AV} (h : zeroChk P t z = true) : ∃ i v, P.info? t = some i ∧ i.zero = some v ∧ cChkL z v.cells.toList = true := by
  unfold zeroChk at h
  split at h
  · rename_i i hi
    split at h
    · rename_i v hv; exact ⟨i, v, hi, hv, h⟩
    · cases h
  · cases h

end Go.AM

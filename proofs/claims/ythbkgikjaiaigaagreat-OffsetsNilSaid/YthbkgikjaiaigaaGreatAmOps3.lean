import Derived.Test.YthbkgikjaiaigaaGreatAmOps2
import Derived.Laws.Strings
namespace Go.AM
set_option linter.all false
open Go.RowKit
variable {P : Program} {w0 : Base} {w : World} {G : Gh} {σ : St}

theorem ba_toList (b : ByteArray) : b.toList = b.data.toList := ByteArray.toList_eq b

theorem listLt_bytes : ∀ (a b : List UInt8), Op.bytesLess a b = listLt (a.map UInt8.toNat) (b.map UInt8.toNat)
  | _, [] => by cases ‹List UInt8› <;> simp [Op.bytesLess, listLt]
  | [], _ :: _ => by simp [Op.bytesLess, listLt]
  | x :: a, y :: b => by
    simp only [Op.bytesLess, listLt, List.map_cons, listLt_bytes a b]
    congr 1
    · rw [Bool.eq_iff_iff]; simp [Nat.blt, UInt8.lt_iff_toNat_lt, Nat.ble_eq, Nat.succ_le_iff]
    · congr 1
      rw [Bool.eq_iff_iff]; simp [UInt8.toNat_inj]

theorem listEq_bytes (a b : List UInt8) : (a == b) = listEq (a.map UInt8.toNat) (b.map UInt8.toNat) := by
  rw [Bool.eq_iff_iff, listEq_eq, beq_iff_eq]
  constructor
  · rintro rfl; rfl
  · intro h
    exact List.map_inj_right (fun x y => UInt8.toNat_inj.1) |>.1 h

theorem un_ok (hW : W w0 G σ w) {op : UnOp} {x r : AV} {v : Value} (hx : RelV G x v) (h : aUn op x = some r) : ValOk w0 G σ r ((Op.unary op v).run P w) := by
  unfold aUn at h
  split at h <;> simp only [reduceCtorEq, Option.some.injEq] at h <;> subst h
  · obtain rfl := hx.int_inv; exact ValOk.pure hW (by simp [Op.unary, Op.intArith]) (.int _ _)
  · obtain rfl := hx.int_inv; exact ValOk.pure hW (by simp [Op.unary, Op.intBits]) (.int _ _)
  · obtain rfl := hx.bool_inv; exact ValOk.pure hW (by simp [Op.unary]) (.bool _)

theorem pick_ok {c x y : AV} {cv xv yv : Value} {r : AV} (hW : W w0 G σ w) (hc : RelV G c cv) (hx : RelV G x xv) (hy : RelV G y yv)
    (h : pickV c x y = some r) : StepOk w0 G σ r (((do pure (.value (if ← asBool cv then xv else yv)) : Sem Next)).run P w) := by
  unfold pickV at h
  cases c <;> try simp only [reduceCtorEq] at h
  case bool b =>
    obtain rfl := hc.bool_inv
    cases b <;> simp at h <;> subst h
    · exact StepOk.pure hW (by simp [asBool]) hy
    · exact StepOk.pure hW (by simp [asBool]) hx

theorem nilck_ok (hW : W w0 G σ w) {x r : AV} {o : Operand} {a : Act} {op : Oper} (ho : op.op = .nilCheck o) (hx : RelV G x (a.eval o))
    (h : nilckV x = some r) : StepOk w0 G σ r ((execOp a.eval op).run P w) := by
  unfold nilckV at h
  cases x <;> simp only [reduceCtorEq, Option.some.injEq] at h <;> subst h
  case ptr l off =>
    obtain ⟨b, base, tot, hv, hρ⟩ := hx.ptr_inv
    exact StepOk.pure hW (by simp [execOp, ho, hv]) (.ptr _ _ _ _ _ hρ)
  case eptr cs =>
    obtain ⟨b, off, pre, tot, hv, hΓ, hR⟩ := hx.eptr_inv
    exact StepOk.pure hW (by simp [execOp, ho, hv]) (.eptr _ _ _ _ _ hΓ hR)

theorem field_ok (hW : W w0 G σ w) {t : TypeId} {fields : Array Field} {f : Nat} {fd : Field} {d : TypeDesc} {i : TypeInfo} (ht : P.underlying t = some (.struct fields)) (hf : fields[f]? = some fd) (hd : P.underlying fd.type = some d)
    (hi : P.info? fd.type = some i) {x r : AV} {n : Option Nat} {v : Value} (hn : aggD d = n.isSome) (hs : ∀ m, n = some m → m = i.size) (hx : RelV G x v)
    (h : fieldV fd.offset n x = some r) : ValOk w0 G σ r ((Instr.field t v f).run P w) := by
  unfold fieldV at h
  cases x <;> simp only [reduceCtorEq] at h
  case agg cs =>
    obtain ⟨us, rfl, hR⟩ := hx.agg_inv
    cases n with
    | none =>
      simp only at h
      obtain ⟨u, hu, hru, _⟩ := hR.get h
      simp only [Array.getElem?_toList] at hu
      have hA : (isAgg fd.type).run P w = .ok false w := isAgg_run hd (by simpa using hn)
      have hP : (part fd.type us fd.offset).run P w = .ok u w := by
        simp only [part, Sem.run_bind, hA, Result.andThen_ok, Bool.false_eq_true, if_false, hu, Sem.run_pure]
      exact ValOk.pure (u := u) hW (by simp only [Instr.field, Sem.run_bind, run_underlying ht, Result.andThen_ok, hf, asAgg, Sem.run_pure, hP]) hru
    | some m =>
      obtain rfl := hs m rfl
      simp only at h
      split at h
      · rename_i hle
        cases h
        have hA : (isAgg fd.type).run P w = .ok true w := isAgg_run hd (by simpa using hn)
        have hP : (part fd.type us fd.offset).run P w = .ok (.agg (us.extract fd.offset (fd.offset + i.size))) w := by
          simp only [part, Sem.run_bind, hA, Result.andThen_ok, if_true, size_run hi, Sem.run_pure]
        refine ValOk.pure (u := .agg (us.extract fd.offset (fd.offset + i.size))) hW (by simp only [Instr.field, Sem.run_bind, run_underlying ht, Result.andThen_ok, hf, asAgg, Sem.run_pure, hP]) (.agg _ _ ?_)
        have := (hR.drop fd.offset).take i.size
        simpa [Array.toList_extract, List.extract_eq_take_drop] using this
      · cases h

theorem fold_max (k : IntKind) : ∀ (vs : List AV) (us : List Value) (a : Int) (r : AV), RelL G false vs us → foldInts (fun x y => if y > x then y else x) k a vs = some r → ∃ n, r = .int k n ∧ (us.foldlM Builtin.max2 (.int k a)).run P w = .ok (.int k n) w
  | [], _, a, r, .nil _, h => by simp [foldInts] at h; subst h; exact ⟨a, rfl, by simp⟩
  | c :: vs, _, a, r, .cons _ _ u _ us h1 _ h3, h => by
    cases c <;> simp only [foldInts, reduceCtorEq] at h
    case int k' b =>
      obtain rfl := h1.int_inv
      split at h
      · obtain ⟨n, hr, hrun⟩ := fold_max k vs us _ r h3 h
        exact ⟨n, hr, by simp [List.foldlM, Builtin.max2, hrun]⟩
      · cases h

theorem fold_min (k : IntKind) : ∀ (vs : List AV) (us : List Value) (a : Int) (r : AV), RelL G false vs us → foldInts (fun x y => if y < x then y else x) k a vs = some r → ∃ n, r = .int k n ∧ (us.foldlM Builtin.min2 (.int k a)).run P w = .ok (.int k n) w
  | [], _, a, r, .nil _, h => by simp [foldInts] at h; subst h; exact ⟨a, rfl, by simp⟩
  | c :: vs, _, a, r, .cons _ _ u _ us h1 _ h3, h => by
    cases c <;> simp only [foldInts, reduceCtorEq] at h
    case int k' b =>
      obtain rfl := h1.int_inv
      split at h
      · obtain ⟨n, hr, hrun⟩ := fold_min k vs us _ r h3 h
        exact ⟨n, hr, by simp [List.foldlM, Builtin.min2, hrun]⟩
      · cases h

theorem max_ok (hW : W w0 G σ w) {xs : List AV} {us : Array Value} {r : AV} (ts : Array TypeId) (ty : TypeId) (hx : RelL G false xs us.toList) (h : maxInts xs = some r) : ValOk w0 G σ r ((Builtin.max_ ts ty us).run P w) := by
  cases xs with
  | nil => simp [maxInts] at h
  | cons c xs =>
    cases c <;> simp only [maxInts, reduceCtorEq] at h
    case int k a =>
      generalize hu : us.toList = ul at hx
      cases hx with
      | cons _ _ u _ ur h1 _ h3 =>
        obtain rfl := h1.int_inv
        obtain ⟨n, rfl, hrun⟩ := fold_max (P := P) (w := w) k xs ur a r h3 h
        exact ValOk.pure hW (by simp [Builtin.max_, hu, hrun]) (.int _ _)

theorem min_ok (hW : W w0 G σ w) {xs : List AV} {us : Array Value} {r : AV} (ts : Array TypeId) (ty : TypeId) (hx : RelL G false xs us.toList) (h : minInts xs = some r) : ValOk w0 G σ r ((Builtin.min_ ts ty us).run P w) := by
  cases xs with
  | nil => simp [minInts] at h
  | cons c xs =>
    cases c <;> simp only [minInts, reduceCtorEq] at h
    case int k a =>
      generalize hu : us.toList = ul at hx
      cases hx with
      | cons _ _ u _ ur h1 _ h3 =>
        obtain rfl := h1.int_inv
        obtain ⟨n, rfl, hrun⟩ := fold_min (P := P) (w := w) k xs ur a r h3 h
        exact ValOk.pure hW (by simp [Builtin.min_, hu, hrun]) (.int _ _)
end Go.AM

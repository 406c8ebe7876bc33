/- The abstract machine: AmOps, AmOps2, AmOps3, AmEq, AmOps4, AmOps5, AmOps6. -/
import Derived.Test.YthbkgikjaiaigaaGreatAmGa
import Derived.Laws.Strings
import Derived.Laws.StructEq
import Derived.Laws.IdiomStrings
import Derived.Laws.BytesArg
namespace Go.AM
set_option linter.all false
open Go.RowKit
variable {P : Program} {w0 : Base} {w : World} {G : Gh} {σ : St}

structure RelF (G : Gh) (n : Nat) (fr : Env) (a : Act) : Prop where
  size : a.tmps.size = n
  slot : ∀ t, RelV G (fr t) (a.tmps.getD t Go.undef)

theorem RelF.mono {G' : Gh} (hG : Gle G G') {n : Nat} {fr : Env} {a : Act} (h : RelF G n fr a) : RelF G' n fr a := ⟨h.size, fun t => (h.slot t).mono hG⟩

mutual
def cChk : AV → Value → Bool
  | .int k n, .int k' m => kindEq k k' && n == m
  | .bool a, .bool b => a == b
  | .str s, .string b => listEq s (b.data.toList.map UInt8.toNat)
  | .nilp, .pointer a => a.isNone
  | .nils, .slice a l c => a.isNone && l.beq 0 && c.beq 0
  | .nilm, .map a => a.isNone
  | .nilf, .nilFunc => true
  | .agg cs, .agg vs => cChkL cs vs.toList
  | _, _ => false
def cChkL : List AV → List Value → Bool
  | [], [] => true
  | c :: cs, v :: vs => cChk c v && v.oneCell' && cChkL cs vs
  | _, _ => false
end

theorem kindEq_eq : ∀ {a b : IntKind}, kindEq a b = true → a = b := by intro a b; cases a <;> cases b <;> simp [kindEq]
theorem kindEq_refl (a : IntKind) : kindEq a a = true := by cases a <;> rfl
theorem listEq_eq : ∀ {a b : List Nat}, listEq a b = true ↔ a = b
  | [], [] => by simp [listEq]
  | [], _ :: _ => by simp [listEq]
  | _ :: _, [] => by simp [listEq]
  | x :: a, y :: b => by simp [listEq, listEq_eq (a := a) (b := b)]

mutual
theorem cChk_rel : ∀ {a : AV} {v : Value}, cChk a v = true → RelV G a v := by
  intro a v h
  cases a <;> cases v <;> simp only [cChk, Bool.and_eq_true, beq_iff_eq, Bool.false_eq_true, Option.isNone_iff_eq_none, Nat.beq_eq] at h
  case int.int k n k' m => obtain ⟨h1, rfl⟩ := h; obtain rfl := kindEq_eq h1; exact .int _ _
  case bool.bool => subst h; exact .bool _
  case str.string => exact .str _ _ (listEq_eq.1 h).symm
  case nilp.pointer p => subst h; exact .nilp
  case nils.slice a len cap => obtain ⟨⟨rfl, rfl⟩, rfl⟩ := h; exact .nils
  case nilm.map r => subst h; exact .nilm
  case nilf.nilFunc => exact .nilf
  case agg.agg cs vs => exact .agg _ _ (cChkL_rel h)
theorem cChkL_rel : ∀ {cs : List AV} {vs : List Value}, cChkL cs vs = true → RelL G true cs vs := by
  intro cs vs h
  cases cs <;> cases vs <;> simp only [cChkL, Bool.and_eq_true, Bool.false_eq_true] at h
  · exact .nil _
  · exact .cons _ _ _ _ _ (cChk_rel h.1.1) (fun _ => h.1.2) (cChkL_rel h.2)
end

def xChk : Operand → AX → Bool
  | .tmp t, .t n => t.beq n
  | .const v, .c a => cChk a v
  | .func f, .c (.fn g [] []) => f.beq g
  | _, _ => false

theorem xChk_rel {n : Nat} {fr : Env} {a : Act} (hF : RelF G n fr a) {o : Operand} {x : AX} (h : xChk o x = true) : RelV G (x.ev fr) (a.eval o) := by
  unfold xChk at h
  split at h
  · simp at h; subst h; exact hF.slot _
  · exact cChk_rel h
  · simp at h; subst h; exact .fn _ _ _ _ _ (.nil _) (.nil _)
  · cases h

def xsChk : List Operand → List AX → Bool
  | [], [] => true
  | o :: os, x :: xs => xChk o x && xsChk os xs
  | _, _ => false

theorem xsChk_rel {n : Nat} {fr : Env} {a : Act} (hF : RelF G n fr a) : ∀ {os : List Operand} {xs : List AX}, xsChk os xs = true → RelL G false (evs fr xs) (os.map a.eval)
  | [], [], _ => .nil _
  | [], _ :: _, h => by simp [xsChk] at h
  | _ :: _, [], h => by simp [xsChk] at h
  | o :: os, x :: xs, h => by
    simp only [xsChk, Bool.and_eq_true] at h
    exact .cons _ _ _ _ _ (xChk_rel hF h.1) (by simp) (xsChk_rel hF h.2)

/-- What a step of an operation comes to. -/
def StepOk (w0 : Base) (G : Gh) (σ' : St) (v : AV) (r : Result Next) : Prop :=
  ∃ u w' G', (r = .ok (.value u) w' ∨ r = .ok .skip w' ∧ u = Go.undef) ∧ Gle G G' ∧ W w0 G' σ' w' ∧ RelV G' v u

theorem StepOk.pure {v : AV} {u : Value} {r : Result Next} (hW : W w0 G σ w) (hr : r = .ok (.value u) w) (hv : RelV G v u) : StepOk w0 G σ v r :=
  ⟨u, w, G, .inl hr, Gle.refl G, hW, hv⟩

/-- The same for an operation that gives a value. -/
def ValOk (w0 : Base) (G : Gh) (σ' : St) (v : AV) (r : Result Value) : Prop :=
  ∃ u w' G', r = .ok u w' ∧ Gle G G' ∧ W w0 G' σ' w' ∧ RelV G' v u

theorem ValOk.step {v : AV} {s : Sem Value} {σ' : St} (h : ValOk w0 G σ' v (s.run P w)) : StepOk w0 G σ' v (((do pure (.value (← s)) : Sem Next)).run P w) := by
  obtain ⟨u, w', G', hr, h1, h2, h3⟩ := h
  exact ⟨u, w', G', .inl (by simp [hr]), h1, h2, h3⟩

theorem ValOk.pure {v : AV} {u : Value} {r : Result Value} (hW : W w0 G σ w) (hr : r = .ok u w) (hv : RelV G v u) : ValOk w0 G σ v r :=
  ⟨u, w, G, hr, Gle.refl G, hW, hv⟩

/-! What an abstract value tells of the concrete one. -/
theorem RelV.int_inv {k : IntKind} {n : Int} {v : Value} (h : RelV G (.int k n) v) : v = .int k n := by cases h; rfl
theorem RelV.bool_inv {b : Bool} {v : Value} (h : RelV G (.bool b) v) : v = .bool b := by cases h; rfl
theorem RelV.str_inv {s : List Nat} {v : Value} (h : RelV G (.str s) v) : ∃ b, v = .string b ∧ b.data.toList.map UInt8.toNat = s := by cases h; exact ⟨_, rfl, ‹_›⟩
theorem RelV.ptr_inv {l off : Nat} {v : Value} (h : RelV G (.ptr l off) v) : ∃ b base tot, v = .pointer (some ⟨b, base + off, none⟩) ∧ G.ρ l = some (b, base, tot) := by cases h; exact ⟨_, _, _, rfl, ‹_›⟩
theorem RelV.eptr_inv {cs : List AV} {v : Value} (h : RelV G (.eptr cs) v) : ∃ b off pre tot, v = .pointer (some ⟨b, off, none⟩) ∧ G.Γ b = some (pre, tot) ∧ RelL G true cs ((pre.drop off).take cs.length) := by cases h; exact ⟨_, _, _, _, rfl, ‹_›, ‹_›⟩
theorem RelV.agg_inv {cs : List AV} {v : Value} (h : RelV G (.agg cs) v) : ∃ vs, v = .agg vs ∧ RelL G true cs vs.toList := by cases h; exact ⟨_, rfl, ‹_›⟩
theorem RelV.tup_inv {cs : List AV} {v : Value} (h : RelV G (.tup cs) v) : ∃ vs, v = .tuple vs ∧ RelL G false cs vs.toList := by cases h; exact ⟨_, rfl, ‹_›⟩

theorem RelV.cellsO {a : AV} {v : Value} {cs : List AV} (h : RelV G a v) (hc : a.cellsO = some cs) : RelL G true cs v.cells.toList := by
  cases h <;> simp only [AV.cellsO, Option.some.injEq, reduceCtorEq] at hc <;> subst hc <;>
    first
      | assumption
      | exact .cons _ _ _ _ _ (by first | exact .int _ _ | exact .bool _ | exact .str _ _ ‹_› | exact .nilp | exact .ptr _ _ _ _ _ ‹_› | exact .eptr _ _ _ _ _ ‹_› ‹_› | exact .nils | exact .sl0 _ _ _ | exact .slx _ _ | exact .sl _ _ _ _ _ _ _ _ _ ‹_› ‹_› ‹_› ‹_› ‹_› ‹_› | exact .ms _ _ _ _ _ _ _ _ ‹_› ‹_› ‹_› | exact .nilm | exact .mp _ _ _ _ ‹_› | exact .nilf | exact .fn _ _ _ _ _ ‹_› ‹_›) (fun _ => rfl) (.nil _)

/-! Loads. -/
theorem cells_of_arr (hW : W w0 G σ w) {b off n tot : Nat} {pre : List Value} (h : G.Γ b = some (pre, tot)) (hn : off + n ≤ pre.length) :
    ∀ j v, ((pre.drop off).take n)[j]? = some v → w.cell? ((⟨b, off, none⟩ : Addr).add j) = some v := by
  intro j v hj
  obtain ⟨c, el, fz, hc, _, hp⟩ := hW.arr b pre tot h
  have hadd : (⟨b, off, none⟩ : Addr).add j = ⟨b, off + j, none⟩ := by unfold Addr.add; split <;> simp_all
  rw [hadd, cell_of_row w b (off + j) c el fz hc]
  obtain ⟨t, ht⟩ := hp
  simp only [List.getElem?_take, List.getElem?_drop] at hj
  split at hj
  · rename_i hlt
    rw [← Array.getElem?_toList, ← ht, List.getElem?_append_left (by omega)]; exact hj
  · cases hj

theorem cells_of_obj {b base n : Nat} {c : Array Value} {el : TypeId} (hc : w.heap[b]? = some (.cells c el (0, 0))) :
    ∀ j v, ((c.toList.drop base).take n)[j]? = some v → w.cell? ((⟨b, base, none⟩ : Addr).add j) = some v := by
  intro j v hj
  have hadd : (⟨b, base, none⟩ : Addr).add j = ⟨b, base + j, none⟩ := by unfold Addr.add; split <;> simp_all
  rw [hadd, cell_of_row w b (base + j) c el _ hc]
  simp only [List.getElem?_take, List.getElem?_drop] at hj
  split at hj
  · rw [← Array.getElem?_toList]; exact hj
  · cases hj

/-- A load of n cells behind a pointer. -/
theorem aLoad_rel (hW : W w0 G σ w) {n : Nat} {x : AV} {v : Value} {cs : List AV} (hx : RelV G x v) (h : aLoad σ n x = some cs) :
    ∃ a vs, v = .pointer (some a) ∧ RelL G true cs vs ∧ vs.length = n ∧ ∀ j u, vs[j]? = some u → w.cell? (a.add j) = some u := by
  cases x <;> simp only [aLoad, reduceCtorEq] at h
  case ptr l off =>
    obtain ⟨b, base, tot, rfl, hρ⟩ := hx.ptr_inv
    split at h
    · rename_i cs' hl
      obtain ⟨b', base', tot', c, el, h1, h2, h3, h4, h5, h6⟩ := hW.obj l _ hl
      rw [hρ] at h1; cases h1
      split at h
      · rename_i hle
        cases h
        have hlen : cs'.length = ((c.toList.drop base).take cs'.length).length := h6.length
        have hR := (h6.drop off).take n
        have e : (List.drop off (List.take cs'.length (List.drop base c.toList))).take n = (c.toList.drop (base + off)).take n := by
          rw [List.drop_take, List.drop_drop, List.take_take, Nat.min_eq_left (by omega)]
        rw [e] at hR
        have hcl : c.toList.length = tot := by simpa using h4
        refine ⟨_, (c.toList.drop (base + off)).take n, rfl, hR, ?_, cells_of_obj h3⟩
        simp only [List.length_take, List.length_drop]
        omega
      · cases h
    · cases h
  case eptr cs' =>
    obtain ⟨b, off, pre, tot, rfl, hΓ, hR⟩ := hx.eptr_inv
    split at h
    · rename_i hle
      cases h
      have hlen := hR.length
      have hR' := hR.take n
      rw [List.take_take, Nat.min_eq_left hle] at hR'
      refine ⟨_, (pre.drop off).take n, rfl, hR', ?_, ?_⟩
      · simp only [List.length_take, List.length_drop] at hlen ⊢; omega
      · by_cases h0 : n = 0
        · subst h0; intro j u hj; simp at hj
        · exact cells_of_arr hW hΓ (by simp only [List.length_take, List.length_drop] at hlen; omega)
    · cases h

def aggD : TypeDesc → Bool
  | .struct _ => true
  | .array _ _ => true
  | _ => false

theorem isAgg_run {t : TypeId} {d : TypeDesc} {b : Bool} (hd : P.underlying t = some d) (hn : aggD d = b) : (isAgg t).run P w = .ok b w := by
  subst hn
  simp only [isAgg, Sem.run_bind, run_underlying hd, Result.andThen_ok]; cases d <;> rfl

theorem run_loadVar_one {t : TypeId} {d : TypeDesc} (hd : P.underlying t = some d) (hn : aggD d = false) (a : Addr) (v : Value) (hc : w.cell? a = some v) :
    (loadVar t a).run P w = .ok v w := by
  have : (isAgg t).run P w = .ok false w :=  isAgg_run hd hn
  simp [loadVar, this, hc]

theorem run_loadVar_agg {t : TypeId} {d : TypeDesc} {i : TypeInfo} (hd : P.underlying t = some d) (hn : aggD d = true) (hi : P.info? t = some i) (a : Addr) (vs : List Value)
    (hl : vs.length = i.size) (hc : ∀ j u, vs[j]? = some u → w.cell? (a.add j) = some u) : (loadVar t a).run P w = .ok (.agg vs.toArray) w := by
  have h1 : (isAgg t).run P w = .ok true w :=  isAgg_run hd hn
  have h2 := run_loadCells_list (P := P) w a vs hc
  rw [hl] at h2
  simp [loadVar, h1, sizeOf, typeInfo, hi, h2]

end Go.AM

namespace Go.AM
set_option linter.all false
open Go.RowKit
variable {P : Program} {w0 : Base} {w : World} {G : Gh} {σ : St}

theorem add_lit (b o n : Nat) : (⟨b, o, none⟩ : Addr).add n = ⟨b, o + n, none⟩ := by unfold Addr.add; split <;> simp_all

theorem info_run {t : TypeId} {i : TypeInfo} (h : P.info? t = some i) : (typeInfo t).run P w = .ok i w := by simp [typeInfo, h]
theorem size_run {t : TypeId} {i : TypeInfo} (h : P.info? t = some i) : (sizeOf t).run P w = .ok i.size w := by simp [sizeOf, typeInfo, h]

theorem load1_ok (hW : W w0 G σ w) {t : TypeId} {d : TypeDesc} (hd : P.underlying t = some d) (hn : aggD d = false) {x r : AV} {v : Value} (hx : RelV G x v)
    (h : load1V σ x = some r) : ValOk w0 G σ r ((Instr.loadAt t v).run P w) := by
  have h : aLoad σ 1 x = some [r] := by unfold load1V at h; split at h <;> simp_all
  obtain ⟨a, vs, rfl, hR, hl, hc⟩ := aLoad_rel hW hx h
  match vs, hl with
  | [u], _ =>
    have h0 := hc 0 u (by simp)
    have e : a.add 0 = a := by simp [Addr.add]
    rw [e] at h0
    refine ValOk.pure (u := u) hW ?_ ?_
    · simp [Instr.loadAt, Instr.sureAddr, run_loadVar_one hd hn a u h0]
    · cases hR; assumption

theorem loadn_ok (hW : W w0 G σ w) {t : TypeId} {d : TypeDesc} {i : TypeInfo} (hd : P.underlying t = some d) (hn : aggD d = true) (hi : P.info? t = some i) {x : AV} {v : Value} (hx : RelV G x v)
    {r : AV} (h : loadnV σ i.size x = some r) : ValOk w0 G σ r ((Instr.loadAt t v).run P w) := by
  obtain ⟨cs, h', rfl⟩ : ∃ cs, aLoad σ i.size x = some cs ∧ r = .agg cs := by unfold loadnV at h; split at h <;> simp_all
  replace h := h'
  obtain ⟨a, vs, rfl, hR, hl, hc⟩ := aLoad_rel hW hx h
  refine ValOk.pure (u := .agg vs.toArray) hW ?_ (.agg _ _ (by simpa using hR))
  simp [Instr.loadAt, Instr.sureAddr, run_loadVar_agg hd hn hi a vs hl hc]

theorem faddr_run {s : TypeId} {fields : Array Field} {f : Nat} {fd : Field} {i : TypeInfo} (hs : P.underlying s = some (.struct fields)) (hf : fields[f]? = some fd) (hi : P.info? fd.type = some i) (h0 : i.size ≠ 0) (a : Addr) :
    (Instr.fieldAt s (.pointer (some a)) f).run P w = .ok (.pointer (some (a.add fd.offset))) w := by
  simp [Instr.fieldAt, run_underlying hs, hf, Instr.sureAddr, fieldPlace, sizeOf, typeInfo, hi, h0]

theorem faddr_ok (hW : W w0 G σ w) {s : TypeId} {fields : Array Field} {f : Nat} {fd : Field} {i : TypeInfo} (hs : P.underlying s = some (.struct fields)) (hf : fields[f]? = some fd) (hi : P.info? fd.type = some i) (h0 : i.size ≠ 0)
    {x r : AV} {v : Value} (hx : RelV G x v)
    (h : faddrV fd.offset x = some r) : ValOk w0 G σ r ((Instr.fieldAt s v f).run P w) := by
  unfold faddrV at h
  cases x <;> simp only [reduceCtorEq, Option.some.injEq] at h <;> subst h
  case ptr l o =>
    obtain ⟨b, base, tot, rfl, hρ⟩ := hx.ptr_inv
    refine ValOk.pure hW (faddr_run hs hf hi h0 _) ?_
    rw [add_lit, Nat.add_assoc]
    exact .ptr _ _ _ _ _ hρ
  case eptr cs =>
    obtain ⟨b, off, pre, tot, rfl, hΓ, hR⟩ := hx.eptr_inv
    refine ValOk.pure hW (faddr_run hs hf hi h0 _) ?_
    rw [add_lit]
    refine .eptr _ _ _ _ _ hΓ ?_
    have := hR.drop fd.offset
    rwa [List.drop_take, List.drop_drop, ← List.length_drop] at this

theorem iaddr_run {t elem : TypeId} {i : TypeInfo} (ht : P.underlying t = some (.slice elem)) (hi : P.info? elem = some i) (a : Addr) (len cap : Nat) (k : IntKind) (n : Int) (h0 : 0 ≤ n) (h1 : n < len) :
    (Instr.indexAt t (.slice (some a) len cap) (.int k n)).run P w = .ok (.pointer (some (a.add (n.toNat * i.size)))) w := by
  simp [Instr.indexAt, asIntOf, run_underlying ht, sizeOf, typeInfo, hi, h0, h1]

theorem iaddr_ok (hW : W w0 G σ w) {t elem : TypeId} {i : TypeInfo} (ht : P.underlying t = some (.slice elem)) (hi : P.info? elem = some i) {x j r : AV} {v u : Value} (hx : RelV G x v) (hj : RelV G j u)
    (h : iaddrV i.size x j = some r) : ValOk w0 G σ r ((Instr.indexAt t v u).run P w) := by
  unfold iaddrV at h
  cases x <;> cases j <;> simp only [reduceCtorEq] at h
  case sl.int k' own len cs kk n =>
    obtain rfl := hj.int_inv
    split at h
    · rename_i hc
      obtain ⟨hk, h0, h1⟩ := hc
      cases h
      cases hx with
      | sl0 => simp at h1; omega
      | slx => simp at h1; omega
      | sl _ _ _ _ b off pre tot cap q1 q2 q3 q4 q5 q6 =>
        refine ValOk.pure hW (iaddr_run ht hi _ len cap kk n h0 h1) ?_
        rw [add_lit]
        refine .eptr _ _ _ _ _ q4 ?_
        have := q5.drop (n.toNat * i.size)
        rwa [List.drop_take, List.drop_drop, ← List.length_drop] at this
    · cases h
  case ms.int k' l off len kk n =>
    obtain rfl := hj.int_inv
    split at h
    · rename_i hc
      obtain ⟨hk, h0, h1⟩ := hc
      cases h
      cases hx with
      | ms _ _ _ _ b base tot cap q1 q2 q3 =>
        refine ValOk.pure hW (iaddr_run ht hi _ len cap kk n h0 h1) ?_
        rw [add_lit, Nat.add_assoc]
        exact .ptr _ _ _ _ _ q1
    · cases h

theorem iarr_ok (hW : W w0 G σ w) {t elem : TypeId} {len : Nat} {i : TypeInfo} (ht : P.underlying t = some (.array len elem)) (hi : P.info? elem = some i) {x j r : AV} {v u : Value} (hx : RelV G x v) (hj : RelV G j u)
    (h : iarrV i.size len x j = some r) : ValOk w0 G σ r ((Instr.indexAt t v u).run P w) := by
  unfold iarrV at h
  cases x <;> cases j <;> simp only [reduceCtorEq] at h
  case ptr.int l off kk n =>
    obtain rfl := hj.int_inv
    obtain ⟨b, base, tot, rfl, hρ⟩ := hx.ptr_inv
    split at h
    · rename_i hc
      obtain ⟨h0, h1⟩ := hc
      cases h
      refine ValOk.pure (u := .pointer (some ((⟨b, base + off, none⟩ : Addr).add (n.toNat * i.size)))) hW ?_ ?_
      · simp [Instr.indexAt, asIntOf, run_underlying ht, sizeOf, typeInfo, hi, h0, h1, Instr.sureAddr]
      · rw [add_lit, Nat.add_assoc]
        exact .ptr _ _ _ _ _ hρ
    · cases h

theorem ba_get (b : ByteArray) (i : Nat) : b[i]? = b.data.toList[i]? := by
  by_cases h : i < b.data.size
  · rw [getElem?_pos b i h, List.getElem?_eq_getElem (by simpa using h)]
    simp
    rfl
  · rw [getElem?_neg b i h, List.getElem?_eq_none (by simpa using h)]

theorem sidx_ok (hW : W w0 G σ w) {t : TypeId} (ht : P.underlying t = some .string) {x j r : AV} {v u : Value} (hx : RelV G x v) (hj : RelV G j u)
    (h : sidxV x j = some r) : ValOk w0 G σ r ((Instr.index t v u).run P w) := by
  unfold sidxV at h
  cases x <;> cases j <;> simp only [reduceCtorEq] at h
  case str.int s kk n =>
    obtain rfl := hj.int_inv
    obtain ⟨b, rfl, hb⟩ := hx.str_inv
    split at h
    · rename_i h0
      split at h
      · rename_i c hc
        cases h
        rw [← hb] at hc
        simp only [List.getElem?_map, Option.map_eq_some_iff] at hc
        obtain ⟨y, hy, rfl⟩ := hc
        have hy' : b[n.toNat]? = some y := by rw [ba_get]; exact hy
        refine ValOk.pure (u := .int .u8 (y.toNat : Int)) hW ?_ (.int _ _)
        simp [Instr.index, asIntOf, run_underlying ht, h0, hy']
      · cases h
    · cases h

theorem ext_ok (hW : W w0 G σ w) {x r : AV} {i : Nat} {v : Value} (hx : RelV G x v)
    (h : extV x i = some r) : ValOk w0 G σ r ((Instr.extract v i).run P w) := by
  unfold extV at h
  cases x <;> simp only [reduceCtorEq] at h
  case tup vs =>
    obtain ⟨us, rfl, hR⟩ := hx.tup_inv
    obtain ⟨u, hu, hru, _⟩ := hR.get h
    refine ValOk.pure (u := u) hW ?_ hru
    simp only [Array.getElem?_toList] at hu
    simp [Instr.extract, hu]

end Go.AM

namespace Go.AM
set_option linter.all false
open Go.RowKit
variable {P : Program} {w0 : Base} {w : World} {G : Gh} {σ : St}

theorem ba_toList (b : ByteArray) : b.toList = b.data.toList := ByteArray.toList_eq b

theorem listLt_bytes : ∀ (a b : List UInt8), Op.bytesLess a b = listLt (a.map UInt8.toNat) (b.map UInt8.toNat)
  | _, [] => by cases ‹List UInt8› <;> simp [Op.bytesLess, listLt]
  | [], _ :: _ => by simp [Op.bytesLess, listLt]
  | x :: a, y :: b => by
    simp only [Op.bytesLess, listLt, List.map_cons, listLt_bytes a b]
    congr 1
    · rw [Bool.eq_iff_iff]; simp [Nat.blt, UInt8.lt_iff_toNat_lt, Nat.ble_eq, Nat.succ_le_iff]
    · congr 1
      rw [Bool.eq_iff_iff]; simp [UInt8.toNat_inj]

theorem listEq_bytes (a b : List UInt8) : (a == b) = listEq (a.map UInt8.toNat) (b.map UInt8.toNat) := by
  rw [Bool.eq_iff_iff, listEq_eq, beq_iff_eq]
  constructor
  · rintro rfl; rfl
  · intro h
    exact List.map_inj_right (fun x y => UInt8.toNat_inj.1) |>.1 h

theorem un_ok (hW : W w0 G σ w) {op : UnOp} {x r : AV} {v : Value} (hx : RelV G x v) (h : aUn op x = some r) : ValOk w0 G σ r ((Op.unary op v).run P w) := by
  unfold aUn at h
  split at h <;> simp only [reduceCtorEq, Option.some.injEq] at h <;> subst h
  · obtain rfl := hx.int_inv; exact ValOk.pure hW (by simp [Op.unary, Op.intArith]) (.int _ _)
  · obtain rfl := hx.int_inv; exact ValOk.pure hW (by simp [Op.unary, Op.intBits]) (.int _ _)
  · obtain rfl := hx.bool_inv; exact ValOk.pure hW (by simp [Op.unary]) (.bool _)

theorem pick_ok {c x y : AV} {cv xv yv : Value} {r : AV} (hW : W w0 G σ w) (hc : RelV G c cv) (hx : RelV G x xv) (hy : RelV G y yv)
    (h : pickV c x y = some r) : StepOk w0 G σ r (((do pure (.value (if ← asBool cv then xv else yv)) : Sem Next)).run P w) := by
  unfold pickV at h
  cases c <;> try simp only [reduceCtorEq] at h
  case bool b =>
    obtain rfl := hc.bool_inv
    cases b <;> simp at h <;> subst h
    · exact StepOk.pure hW (by simp [asBool]) hy
    · exact StepOk.pure hW (by simp [asBool]) hx

theorem nilck_ok (hW : W w0 G σ w) {x r : AV} {o : Operand} {a : Act} {op : Oper} (ho : op.op = .nilCheck o) (hx : RelV G x (a.eval o))
    (h : nilckV x = some r) : StepOk w0 G σ r ((execOp a.eval op).run P w) := by
  unfold nilckV at h
  cases x <;> simp only [reduceCtorEq, Option.some.injEq] at h <;> subst h
  case ptr l off =>
    obtain ⟨b, base, tot, hv, hρ⟩ := hx.ptr_inv
    exact StepOk.pure hW (by simp [execOp, ho, hv]) (.ptr _ _ _ _ _ hρ)
  case eptr cs =>
    obtain ⟨b, off, pre, tot, hv, hΓ, hR⟩ := hx.eptr_inv
    exact StepOk.pure hW (by simp [execOp, ho, hv]) (.eptr _ _ _ _ _ hΓ hR)

theorem field_ok (hW : W w0 G σ w) {t : TypeId} {fields : Array Field} {f : Nat} {fd : Field} {d : TypeDesc} {i : TypeInfo} (ht : P.underlying t = some (.struct fields)) (hf : fields[f]? = some fd) (hd : P.underlying fd.type = some d)
    (hi : P.info? fd.type = some i) {x r : AV} {n : Option Nat} {v : Value} (hn : aggD d = n.isSome) (hs : ∀ m, n = some m → m = i.size) (hx : RelV G x v)
    (h : fieldV fd.offset n x = some r) : ValOk w0 G σ r ((Instr.field t v f).run P w) := by
  unfold fieldV at h
  cases x <;> simp only [reduceCtorEq] at h
  case agg cs =>
    obtain ⟨us, rfl, hR⟩ := hx.agg_inv
    cases n with
    | none =>
      simp only at h
      obtain ⟨u, hu, hru, _⟩ := hR.get h
      simp only [Array.getElem?_toList] at hu
      have hA : (isAgg fd.type).run P w = .ok false w := isAgg_run hd (by simpa using hn)
      have hP : (part fd.type us fd.offset).run P w = .ok u w := by
        simp only [part, Sem.run_bind, hA, Result.andThen_ok, Bool.false_eq_true, if_false, hu, Sem.run_pure]
      exact ValOk.pure (u := u) hW (by simp only [Instr.field, Sem.run_bind, run_underlying ht, Result.andThen_ok, hf, asAgg, Sem.run_pure, hP]) hru
    | some m =>
      obtain rfl := hs m rfl
      simp only at h
      split at h
      · rename_i hle
        cases h
        have hA : (isAgg fd.type).run P w = .ok true w := isAgg_run hd (by simpa using hn)
        have hP : (part fd.type us fd.offset).run P w = .ok (.agg (us.extract fd.offset (fd.offset + i.size))) w := by
          simp only [part, Sem.run_bind, hA, Result.andThen_ok, if_true, size_run hi, Sem.run_pure]
        refine ValOk.pure (u := .agg (us.extract fd.offset (fd.offset + i.size))) hW (by simp only [Instr.field, Sem.run_bind, run_underlying ht, Result.andThen_ok, hf, asAgg, Sem.run_pure, hP]) (.agg _ _ ?_)
        have := (hR.drop fd.offset).take i.size
        simpa [Array.toList_extract, List.extract_eq_take_drop] using this
      · cases h

theorem fold_max (k : IntKind) : ∀ (vs : List AV) (us : List Value) (a : Int) (r : AV), RelL G false vs us → foldInts (fun x y => if y > x then y else x) k a vs = some r → ∃ n, r = .int k n ∧ (us.foldlM Builtin.max2 (.int k a)).run P w = .ok (.int k n) w
  | [], _, a, r, .nil _, h => by simp [foldInts] at h; subst h; exact ⟨a, rfl, by simp⟩
  | c :: vs, _, a, r, .cons _ _ u _ us h1 _ h3, h => by
    cases c <;> simp only [foldInts, reduceCtorEq] at h
    case int k' b =>
      obtain rfl := h1.int_inv
      split at h
      · obtain ⟨n, hr, hrun⟩ := fold_max k vs us _ r h3 h
        exact ⟨n, hr, by simp [List.foldlM, Builtin.max2, hrun]⟩
      · cases h

theorem fold_min (k : IntKind) : ∀ (vs : List AV) (us : List Value) (a : Int) (r : AV), RelL G false vs us → foldInts (fun x y => if y < x then y else x) k a vs = some r → ∃ n, r = .int k n ∧ (us.foldlM Builtin.min2 (.int k a)).run P w = .ok (.int k n) w
  | [], _, a, r, .nil _, h => by simp [foldInts] at h; subst h; exact ⟨a, rfl, by simp⟩
  | c :: vs, _, a, r, .cons _ _ u _ us h1 _ h3, h => by
    cases c <;> simp only [foldInts, reduceCtorEq] at h
    case int k' b =>
      obtain rfl := h1.int_inv
      split at h
      · obtain ⟨n, hr, hrun⟩ := fold_min k vs us _ r h3 h
        exact ⟨n, hr, by simp [List.foldlM, Builtin.min2, hrun]⟩
      · cases h

theorem max_ok (hW : W w0 G σ w) {xs : List AV} {us : Array Value} {r : AV} (ts : Array TypeId) (ty : TypeId) (hx : RelL G false xs us.toList) (h : maxInts xs = some r) : ValOk w0 G σ r ((Builtin.max_ ts ty us).run P w) := by
  cases xs with
  | nil => simp [maxInts] at h
  | cons c xs =>
    cases c <;> simp only [maxInts, reduceCtorEq] at h
    case int k a =>
      generalize hu : us.toList = ul at hx
      cases hx with
      | cons _ _ u _ ur h1 _ h3 =>
        obtain rfl := h1.int_inv
        obtain ⟨n, rfl, hrun⟩ := fold_max (P := P) (w := w) k xs ur a r h3 h
        exact ValOk.pure hW (by simp [Builtin.max_, hu, hrun]) (.int _ _)

theorem min_ok (hW : W w0 G σ w) {xs : List AV} {us : Array Value} {r : AV} (ts : Array TypeId) (ty : TypeId) (hx : RelL G false xs us.toList) (h : minInts xs = some r) : ValOk w0 G σ r ((Builtin.min_ ts ty us).run P w) := by
  cases xs with
  | nil => simp [minInts] at h
  | cons c xs =>
    cases c <;> simp only [minInts, reduceCtorEq] at h
    case int k a =>
      generalize hu : us.toList = ul at hx
      cases hx with
      | cons _ _ u _ ur h1 _ h3 =>
        obtain rfl := h1.int_inv
        obtain ⟨n, rfl, hrun⟩ := fold_min (P := P) (w := w) k xs ur a r h3 h
        exact ValOk.pure hW (by simp [Builtin.min_, hu, hrun]) (.int _ _)
end Go.AM

namespace Go.AM
set_option linter.all false
open Go.RowKit
variable {P : Program} {w : World} {G : Gh}

mutual
/-- The kinds of a type's leaves, if '==' on it goes by them. -/
def flatT (P : Program) : Nat → TypeId → Option (List EK)
  | 0, _ => none
  | f + 1, t => match P.info? t with
    | none => none
    | some i => match P.underlying t with
      | some (.int _) => if i.size = 1 then some [.num] else none
      | some .string => if i.size = 1 then some [.str] else none
      | some .bool => if i.size = 1 then some [.bool] else none
      | some (.struct fs) => if P.stoodInHeld t = false then flatFs P f 0 fs.toList else none
      | _ => none
def flatFs (P : Program) : Nat → Nat → List Field → Option (List EK)
  | _, _, [] => some []
  | 0, _, _ :: _ => none
  | f + 1, off, fd :: r => if fd.name ≠ "_" ∧ fd.offset = off then match P.info? fd.type, flatT P f fd.type with
      | some i, some ks => if ks.length = i.size then match flatFs P f (off + i.size) r with
          | some ks' => some (ks ++ ks')
          | none => none
        else none
      | _, _ => none
    else none
end

theorem leavesEq_length : ∀ {ks : List EK} {a b : List AV} {p : Bool}, leavesEq ks a b = some p → a.length = ks.length ∧ b.length = ks.length
  | [], [], [], _, _ => ⟨rfl, rfl⟩
  | [], [], _ :: _, _, h => by simp [leavesEq] at h
  | [], _ :: _, _, _, h => by simp [leavesEq] at h
  | _ :: _, [], _, _, h => by simp [leavesEq] at h
  | _ :: _, _ :: _, [], _, h => by simp [leavesEq] at h
  | k :: ks, x :: a, y :: b, p, h => by
    simp only [leavesEq] at h
    split at h
    · rename_i h2
      have := leavesEq_length h2
      simp [this.1, this.2]
    · cases h

theorem leavesEq_split : ∀ (k1 : List EK) {k2 : List EK} {a b : List AV} {p : Bool}, leavesEq (k1 ++ k2) a b = some p →
    ∃ q r, leavesEq k1 (a.take k1.length) (b.take k1.length) = some q ∧ leavesEq k2 (a.drop k1.length) (b.drop k1.length) = some r ∧ p = (q && r)
  | [], k2, a, b, p, h => ⟨true, p, by simp [leavesEq], by simpa using h, by simp⟩
  | k :: k1, k2, [], b, p, h => by simp [leavesEq] at h
  | k :: k1, k2, _ :: _, [], p, h => by simp [leavesEq] at h
  | k :: k1, k2, x :: a, y :: b, p, h => by
    simp only [leavesEq, List.cons_append] at h
    split at h
    · rename_i p1 q1 h1 h2
      cases h
      obtain ⟨q, r, e1, e2, rfl⟩ := leavesEq_split k1 h2
      exact ⟨p1 && q, r, by simp [leavesEq, h1, e1], by simpa using e2, by simp [Bool.and_assoc]⟩
    · cases h

theorem str_beq {s s' : List Nat} {b b' : ByteArray} (h : b.data.toList.map UInt8.toNat = s) (h' : b'.data.toList.map UInt8.toNat = s') : (b == b') = listEq s s' := by
  rw [beq_toListBytes, ba_toList, ba_toList, listEq_bytes, h, h']

theorem leaf_run {d : Nat} {t : TypeId} {ek : EK} {a b : AV} {x y : Value} {p : Bool} (hk : (match ek with | .num => ∃ k, P.underlying t = some (.int k) | .str => P.underlying t = some .string | .bool => P.underlying t = some .bool | _ => False))
    (ha : RelV G a x) (hb : RelV G b y) (h : leafEq ek a b = some p) : (Op.equalIn (d + 1) t x y).run P w = .ok p w := by
  unfold leafEq at h
  split at h
  · obtain ⟨kk, hk⟩ := hk
    obtain rfl := ha.int_inv; obtain rfl := hb.int_inv
    split at h
    · rename_i hkk
      obtain rfl := kindEq_eq hkk
      cases h
      exact run_equalIn_int w d t _ kk _ _ hk
    · cases h
  · obtain ⟨bx, rfl, h1⟩ := ha.str_inv; obtain ⟨by_, rfl, h2⟩ := hb.str_inv
    cases h
    rw [← str_beq h1 h2]
    simp [Op.equalIn, run_underlying hk]
  · obtain rfl := ha.bool_inv; obtain rfl := hb.bool_inv
    cases h
    simp [Op.equalIn, run_underlying hk]
  · cases h

theorem part_leaf {t : TypeId} {d : TypeDesc} (hd : P.underlying t = some d) (hn : aggD d = false) (xs : List Value) (off : Nat) (v : Value) (h : xs[off]? = some v) : (part t xs.toArray off).run P w = .ok v w := by
  have : xs.toArray[off]? = some v := by simpa using h
  simp only [part, Sem.run_bind, isAgg_run hd hn, Result.andThen_ok, Bool.false_eq_true, if_false, this, Sem.run_pure]

theorem part_agg {t : TypeId} {d : TypeDesc} {i : TypeInfo} (hd : P.underlying t = some d) (hn : aggD d = true) (hi : P.info? t = some i) (xs : List Value) (off : Nat) :
    (part t xs.toArray off).run P w = .ok (.agg ((xs.drop off).take i.size).toArray) w := by
  simp only [part, Sem.run_bind, isAgg_run hd hn, Result.andThen_ok, if_true, size_run hi, Sem.run_pure]
  congr 2
  apply Array.ext'
  simp [List.extract_eq_take_drop]

mutual
theorem flat_run : ∀ (f : Nat) {t : TypeId} {ks : List EK}, flatT P f t = some ks → ∀ {as bs : List AV} {xs ys : List Value} {p : Bool}, RelL G true as xs → RelL G true bs ys → leavesEq ks as bs = some p → ∀ d, f ≤ d →
    (∃ fs, P.underlying t = some (.struct fs) ∧ (Op.equalIn d t (.agg xs.toArray) (.agg ys.toArray)).run P w = .ok p w) ∨
    (∃ dd x y, P.underlying t = some dd ∧ aggD dd = false ∧ xs = [x] ∧ ys = [y] ∧ (Op.equalIn d t x y).run P w = .ok p w)
  | 0, t, ks, h => by simp [flatT] at h
  | f + 1, t, ks, h => by
    rename_i as bs xs ys p
    intro ha hb hp d hd
    obtain ⟨d, rfl⟩ : ∃ m, d = m + 1 := ⟨d - 1, by omega⟩
    simp only [flatT] at h
    have leaf : ∀ (ek : EK) (dd : TypeDesc), ks = [ek] → P.underlying t = some dd → aggD dd = false → (match ek with | .num => ∃ k, P.underlying t = some (.int k) | .str => P.underlying t = some .string | .bool => P.underlying t = some .bool | _ => False) →
        (∃ dd x y, P.underlying t = some dd ∧ aggD dd = false ∧ xs = [x] ∧ ys = [y] ∧ (Op.equalIn (d + 1) t x y).run P w = .ok p w) := by
      intro ek dd hks hdd hagg hek
      subst hks
      have hl := leavesEq_length hp
      match as, bs, ha, hb, hl with
      | [a], [b], .cons _ _ x _ _ r1 _ (.nil _), .cons _ _ y _ _ r2 _ (.nil _), _ =>
        refine ⟨dd, x, y, hdd, hagg, rfl, rfl, ?_⟩
        simp only [leavesEq] at hp
        split at hp
        · rename_i q1 q2 e1 e2
          cases hp; cases e2
          simpa using leaf_run (G := G) hek r1 r2 e1
        · cases hp
    split at h
    · cases h
    · rename_i i hi
      split at h
      · rename_i k hu
        split at h <;> cases h
        exact .inr (leaf .num _ rfl hu rfl ⟨k, hu⟩)
      · rename_i hu
        split at h <;> cases h
        exact .inr (leaf .str _ rfl hu rfl hu)
      · rename_i hu
        split at h <;> cases h
        exact .inr (leaf .bool _ rfl hu rfl hu)
      · rename_i fs hu
        split at h
        · rename_i hst
          refine .inl ⟨fs, hu, ?_⟩
          have hfo : P.fieldsOf t = fs := by simp [Program.fieldsOf, hu]
          rw [run_equalIn_agg w d t _ _ (by rw [hfo]; exact hu) hst, hfo]
          exact flatFs_run f h ha hb (off := 0) (by simpa using hp) d (by omega)
        · cases h
      · cases h
theorem flatFs_run : ∀ (f : Nat) {off : Nat} {fs : List Field} {ks : List EK}, flatFs P f off fs = some ks → ∀ {as bs : List AV} {xs ys : List Value} {p : Bool}, RelL G true as xs → RelL G true bs ys →
    leavesEq ks (as.drop off) (bs.drop off) = some p → ∀ d, f ≤ d → (Op.eqFields d xs.toArray ys.toArray fs).run P w = .ok p w
  | f, off, [], ks, h => by
    rename_i as bs xs ys p
    intro ha hb hp d hd
    simp [flatFs] at h; subst h
    cases hA : as.drop off <;> cases hB : bs.drop off <;> rw [hA, hB] at hp <;> simp [leavesEq] at hp
    subst hp
    simp [Op.eqFields]
  | 0, off, _ :: _, ks, h => by simp [flatFs] at h
  | f + 1, off, fd :: r, ks, h => by
    rename_i as bs xs ys p
    intro ha hb hp d hd
    simp only [flatFs] at h
    split at h
    · rename_i hn
      obtain ⟨hname, hoff⟩ := hn
      split at h
      · rename_i i k1 hi hT
        split at h
        · rename_i hlen
          split at h
          · rename_i k2 hr
            cases h
            obtain ⟨q, s, e1, e2, rfl⟩ := leavesEq_split k1 hp
            rw [List.drop_drop, List.drop_drop, hlen] at e2
            rw [hlen] at e1
            have hrest := flatFs_run f hr ha hb (p := s) e2 d (by omega)
            have hA := (ha.drop off).take i.size
            have hB := (hb.drop off).take i.size
            have hfd : ∃ u v, (part fd.type xs.toArray fd.offset).run P w = .ok u w ∧ (part fd.type ys.toArray fd.offset).run P w = .ok v w ∧ (Op.equalIn d fd.type u v).run P w = .ok q w := by
              rcases flat_run f hT hA hB e1 d (by omega) with ⟨fs', hu, hrun⟩ | ⟨dd, x, y, hu, hag, hx, hy, hrun⟩
              · exact ⟨_, _, by rw [hoff]; exact part_agg hu rfl hi xs off, by rw [hoff]; exact part_agg hu rfl hi ys off, hrun⟩
              · have h1 : ∀ {zs : List Value} {z : Value}, (zs.drop off).take i.size = [z] → zs[off]? = some z := by
                  intro zs z hz
                  have := congrArg (fun l => l[0]?) hz
                  simp only [List.getElem?_take, List.getElem?_drop, Nat.add_zero, List.getElem?_cons_zero] at this
                  split at this
                  · exact this
                  · cases this
                exact ⟨x, y, by rw [hoff]; exact part_leaf hu hag xs off x (h1 hx), by rw [hoff]; exact part_leaf hu hag ys off y (h1 hy), hrun⟩
            obtain ⟨u, v, e3, e4, e5⟩ := hfd
            simp only [Op.eqFields, if_pos hname, Sem.run_bind, e3, e4, e5, Result.andThen_ok]
            cases q
            · simp
            · simp [hrest]
          · cases h
        · cases h
      · cases h
    · cases h
end

def kindT (P : Program) (t : TypeId) : EK → Bool
  | .num => match P.underlying t with | some (.int _) => true | some (.interface _) => true | _ => false
  | .str => match P.underlying t with | some .string => true | _ => false
  | .bool => match P.underlying t with | some .bool => true | _ => false
  | .ptr => match P.underlying t with | some (.pointer _) => true | _ => false
  | .slice => match P.underlying t with | some (.slice _) => true | _ => false
  | .map => match P.underlying t with | some (.map _ _) => true | _ => false
  | .func => match P.underlying t with | some (.func ..) => true | _ => false
  | .agg ks => (match P.underlying t with | some (.struct _) => true | _ => false) && !(P.eqGuardType P.depth t) && (match flatT P 20 t with | some ks' => ekL ks ks' | none => false)
where
  ek1 : EK → EK → Bool
    | .num, .num | .str, .str | .bool, .bool => true
    | _, _ => false
  ekL : List EK → List EK → Bool
    | [], [] => true
    | a :: x, b :: y => ek1 a b && ekL x y
    | _, _ => false

theorem ekL_eq : ∀ {a b : List EK}, kindT.ekL a b = true → a = b
  | [], [], _ => rfl
  | [], _ :: _, h => by simp [kindT.ekL] at h
  | _ :: _, [], h => by simp [kindT.ekL] at h
  | x :: a, y :: b, h => by
    simp only [kindT.ekL, Bool.and_eq_true] at h
    have := ekL_eq h.2
    subst this
    congr 1
    have h1 := h.1
    cases x <;> cases y <;> simp [kindT.ek1] at h1 ⊢

end Go.AM

namespace Go.AM
set_option linter.all false
open Go.RowKit
variable {P : Program} {w0 : Base} {w : World} {G : Gh} {σ : St}

theorem eqGuard_other {op : BinOp} {t : TypeId} {x y : Operand} {a b : Value} (h : ∀ u v, a = .agg u → b = .agg v → False) (h2 : a ≠ .nilIface) : (eqGuard op t x y a b).run P w = .ok () w := by
  unfold eqGuard
  cases a <;> cases b <;> simp_all <;> (split <;> simp)

theorem bin_int (op : BinOp) (ek : EK) (k k' : IntKind) (a b : Int) (t : TypeId) (r : AV) (hx : aBin op ek (.int k a) (.int k' b) = some r) : ∃ u, RelV G r u ∧ (binOp op t (.int k a) (.int k' b)).run P w = .ok u w := by
  cases op <;> simp only [aBin] at hx
  case shl => split at hx <;> cases hx; exact ⟨_, .int _ _, by simp [binOp, Op.shift, *]⟩
  case shr => split at hx <;> cases hx; exact ⟨_, .int _ _, by simp [binOp, Op.shift, *]⟩
  all_goals
    split at hx
    case isFalse => cases hx
    case isTrue hk =>
      obtain rfl := kindEq_eq hk
      first
        | (cases hx; done)
        | (cases hx; first | exact ⟨_, .int _ _, by simp [binOp, Op.intArith, Op.intBits, Op.intCmp]⟩ | exact ⟨_, .bool _, by simp [binOp, Op.intArith, Op.intBits, Op.intCmp]⟩)
        | (split at hx <;> cases hx; exact ⟨_, .int _ _, by simp [binOp, Op.intDiv, *]⟩)

theorem str_rel {a b : ByteArray} {x y : List Nat} (h : a.data.toList.map UInt8.toNat = x) (h' : b.data.toList.map UInt8.toNat = y) : (a.toList == b.toList) = listEq x y ∧ Op.bytesLess a.toList b.toList = listLt x y := by
  rw [ba_toList, ba_toList, listEq_bytes, listLt_bytes, h, h']
  exact ⟨rfl, rfl⟩

theorem ba_app (a b : ByteArray) : (a ++ b).data.toList = a.data.toList ++ b.data.toList := by
  simp

theorem bin_str (op : BinOp) (ek : EK) (s s' : List Nat) (x y : ByteArray) (h : x.data.toList.map UInt8.toNat = s) (h' : y.data.toList.map UInt8.toNat = s') (t : TypeId) (r : AV) (hx : aBin op ek (.str s) (.str s') = some r) :
    ∃ u, RelV G r u ∧ (binOp op t (.string x) (.string y)).run P w = .ok u w := by
  obtain ⟨e1, e2⟩ := str_rel h h'
  cases op <;> simp only [aBin, reduceCtorEq] at hx
  case add =>
    split at hx
    · rename_i hl
      cases hx
      have l1 : x.size = s.length := by rw [← h, List.length_map, Array.length_toList]; rfl
      have l2 : y.size = s'.length := by rw [← h', List.length_map, Array.length_toList]; rfl
      refine ⟨_, .str _ (x ++ y) (by rw [ba_app, List.map_append, h, h']), ?_⟩
      have : ¬ ((x.size + y.size : Nat) : Int) > IntKind.i64.max := by
        rw [l1, l2, show IntKind.i64.max = 9223372036854775807 from rfl]; omega
      simp only [binOp, Op.stringOp, if_neg this, Sem.run_pure]
    · cases hx
  all_goals (cases hx; exact ⟨_, .bool _, by simp [binOp, Op.stringOp, e1, e2]⟩)

theorem eql_of {t : TypeId} {u v : Value} {p : Bool} (hbe : binOp .eql t u v = (do pure (.bool (← Op.equal t u v)))) (hbn : binOp .neq t u v = (do pure (.bool (!(← Op.equal t u v)))))
    (he : ∀ d, (Op.equalIn (d + 1) t u v).run P w = .ok p w) : (binOp .eql t u v).run P w = .ok (.bool p) w ∧ (binOp .neq t u v).run P w = .ok (.bool !p) w := by
  have he' : (Op.equal t u v).run P w = .ok p w := he 9999
  rw [hbe, hbn]
  constructor <;> simp [he']

set_option maxHeartbeats 2000000 in
theorem aEq_run {ek : EK} {t : TypeId} {x y : AV} {u v : Value} {p : Bool} (ht : kindT P t ek = true) (hx : RelV G x u) (hy : RelV G y v) (h : aEq ek x y = some p) :
    (binOp .eql t u v).run P w = .ok (.bool p) w ∧ (binOp .neq t u v).run P w = .ok (.bool !p) w := by
  by_cases hag : ∃ ks as bs, ek = .agg ks ∧ x = .agg as ∧ y = .agg bs
  · obtain ⟨ks, as, bs, rfl, rfl, rfl⟩ := hag
    simp only [aEq] at h
    simp only [kindT, Bool.and_eq_true] at ht
    obtain ⟨⟨h1, h2⟩, h3⟩ := ht
    obtain ⟨us, rfl, r1⟩ := hx.agg_inv
    obtain ⟨vs, rfl, r2⟩ := hy.agg_inv
    split at h3
    · rename_i ks' hf
      obtain rfl := ekL_eq h3
      rcases flat_run (P := P) 20 hf r1 r2 h Op.maxDepth (by simp [Op.maxDepth]) with ⟨fs, hu, hrun⟩ | ⟨dd, a, b, hu, hag, _⟩
      · have hrun' : (Op.equalIn 10000 t (.agg us) (.agg vs)).run P w = .ok p w := by simpa [Op.maxDepth] using hrun
        rw [run_eql_struct, run_neq_struct, hrun']
        exact ⟨rfl, rfl⟩
      · split at h1
        · rename_i hu'; rw [hu'] at hu; cases hu; simp [aggD] at hag
        · cases h1
    · cases h3
  · unfold aEq at h
    split at h <;> (try simp only [Option.some.injEq, reduceCtorEq] at h)
    all_goals first
      | (exact absurd ⟨_, _, _, rfl, rfl, rfl⟩ hag)
      | (subst h; simp only [kindT] at ht; split at ht <;> first
          | (cases ht; done)
          | (rename_i hu; cases hx <;> cases hy <;> refine eql_of rfl rfl (fun d => ?_) <;> simp [Op.equalIn, run_underlying hu]; done))

theorem bin_ok (hW : W w0 G σ w) {op : BinOp} {ek : EK} {t : TypeId} {a b : Operand} {x y r : AV} {u v : Value} (ht : kindT P t ek = true) (hx : RelV G x u) (hy : RelV G y v) (h : aBin op ek x y = some r) :
    ValOk w0 G σ r ((do eqGuard op t a b u v; binOp op t u v : Sem Value).run P w) := by
  have fin : ∀ {w1 : Value}, RelV G r w1 → (eqGuard op t a b u v).run P w = .ok () w → (binOp op t u v).run P w = .ok w1 w → ValOk w0 G σ r ((do eqGuard op t a b u v; binOp op t u v : Sem Value).run P w) := by
    intro w1 h1 h2 h3
    exact ValOk.pure hW (by simp [h2, h3]) h1
  by_cases hint : ∃ k n k' m, x = .int k n ∧ y = .int k' m
  · obtain ⟨k, n, k', m, rfl, rfl⟩ := hint
    obtain rfl := hx.int_inv; obtain rfl := hy.int_inv
    obtain ⟨q, hq, hrun⟩ := bin_int (P := P) (w := w) (G := G) op ek k k' n m t r h
    exact fin hq (eqGuard_other (by simp) (by simp)) hrun
  · by_cases hstr : ∃ s s', x = .str s ∧ y = .str s'
    · obtain ⟨s, s', rfl, rfl⟩ := hstr
      obtain ⟨bx, rfl, e1⟩ := hx.str_inv; obtain ⟨by_, rfl, e2⟩ := hy.str_inv
      obtain ⟨q, hq, hrun⟩ := bin_str (P := P) (w := w) (G := G) op ek s s' bx by_ e1 e2 t r h
      exact fin hq (eqGuard_other (by simp) (by simp)) hrun
    · have h' : eqOp op (aEq ek x y) = some r := by
        unfold aBin at h
        split at h
        · exact absurd ⟨_, _, _, _, rfl, rfl⟩ hint
        · exact absurd ⟨_, _, rfl, rfl⟩ hstr
        · exact h
      clear fin h
      obtain ⟨p, hp⟩ : ∃ p, aEq ek x y = some p := by
        cases hq : aEq ek x y with
        | none => rw [hq] at h'; cases op <;> simp [eqOp] at h'
        | some p => exact ⟨p, rfl⟩
      rw [hp] at h'
      have hne : u ≠ .nilIface := by
        rintro rfl
        cases hx
        simp [aEq] at hp
      have hguard : (eqGuard op t a b u v).run P w = .ok () w := by
        by_cases hag : ∃ p q, u = .agg p ∧ v = .agg q
        · obtain ⟨p, q, rfl, rfl⟩ := hag
          cases hx with
          | undef => simp [aEq] at hp
          | agg cs _ hcs =>
            have : P.eqGuardType P.depth t = false := by
              cases ek <;> first | (simp [kindT] at ht; exact ht.1.2) | (simp [aEq] at hp)
            exact run_eqGuard_agg w op t a b p q this
        · exact eqGuard_other (fun p q e1 e2 => hag ⟨p, q, e1, e2⟩) hne
      obtain ⟨e1, e2⟩ := aEq_run (P := P) (w := w) ht hx hy hp
      cases op <;> simp only [eqOp, reduceCtorEq, Option.some.injEq] at h'
      case eql => subst h'; exact ValOk.pure hW (by simp [hguard, e1]) (.bool _)
      case neq => subst h'; exact ValOk.pure hW (by simp [hguard, e2]) (.bool _)

end Go.AM

namespace Go.AM
set_option linter.all false
open Go.RowKit
variable {P : Program} {w0 : Base} {w : World} {G : Gh} {σ : St}

/-- What a view tells: where its cells lie. -/
theorem view_rel (hW : W w0 G σ w) {k n : Nat} {x : AV} {v : Value} {xs : List AV} (hx : RelV G x v) (h : view k σ x = some (n, xs)) :
    xs.length = n * k ∧ ∃ us, RelL G true xs us ∧
      ((∃ b, v = .string b ∧ b.size = n ∧ us = b.data.toList.map fun c => Value.int .u8 c.toNat) ∨
       (n = 0 ∧ us = [] ∧ ∃ a cap, v = .slice a 0 cap) ∨
       (∃ a cap, v = .slice (some a) n cap ∧ ∀ j u, us[j]? = some u → w.cell? (a.add j) = some u)) := by
  cases x <;> simp only [view, reduceCtorEq] at h
  case nils =>
    cases h
    cases hx
    exact ⟨by simp, [], .nil _, .inr (.inl ⟨rfl, rfl, _, _, rfl⟩)⟩
  case str s =>
    split at h
    case isFalse => cases h
    rename_i hk
    simp at hk; subst hk
    cases h
    obtain ⟨b, rfl, hb⟩ := hx.str_inv
    refine ⟨by simp [byteCells], _, ?_, .inl ⟨b, rfl, by rw [← hb, List.length_map, Array.length_toList]; rfl, rfl⟩⟩
    subst hb
    generalize b.data.toList = l
    induction l with
    | nil => exact .nil _
    | cons c l ih => exact .cons _ _ _ _ _ (.int _ _) (fun _ => rfl) ih
  case sl k' own len cs =>
    split at h
    · rename_i hk
      simp at hk; subst hk
      cases h
      cases hx with
      | sl0 => exact ⟨by simp, [], .nil _, .inr (.inl ⟨rfl, rfl, _, _, rfl⟩)⟩
      | slx => exact ⟨by simp, [], .nil _, .inr (.inl ⟨rfl, rfl, _, _, rfl⟩)⟩
      | sl _ _ _ _ b off pre tot cap q1 q2 q3 q4 q5 q6 =>
        refine ⟨q2, _, q5, .inr ?_⟩
        by_cases h0 : xs.length = 0
        · by_cases hn : n = 0
          · subst hn
            left
            have : xs = [] := List.eq_nil_of_length_eq_zero h0
            subst this
            exact ⟨rfl, by simp, _, _, rfl⟩
          · right
            refine ⟨_, cap, rfl, ?_⟩
            have : xs = [] := List.eq_nil_of_length_eq_zero h0
            subst this
            intro j u hj; simp at hj
        · right
          exact ⟨_, cap, rfl, cells_of_arr hW q4 (take_drop_len q5.length (by omega))⟩
    · cases h
  case ms k' l off len =>
    split at h
    · rename_i hk
      simp at hk; subst hk
      split at h
      · rename_i cs hl
        split at h
        · rename_i hle
          cases h
          cases hx with
          | ms _ _ _ _ b base tot cap q1 q2 q3 =>
            obtain ⟨b', base', tot', c, el, h1, h2, h3, h4, h5, h6⟩ := hW.obj l _ hl
            rw [q1] at h1; cases h1
            have hlen := h6.length
            have hR := (h6.drop off).take (n * k)
            have e : (List.drop off (List.take cs.length (List.drop base c.toList))).take (n * k) = (c.toList.drop (base + off)).take (n * k) := by
              rw [List.drop_take, List.drop_drop, List.take_take, Nat.min_eq_left (by omega)]
            rw [e] at hR
            refine ⟨?_, _, hR, .inr (.inr ⟨_, cap, rfl, cells_of_obj h3⟩)⟩
            simp only [List.length_take, List.length_drop]; omega
        · cases h
      · cases h
    · cases h

theorem bytesOf_rel : ∀ {cs : List AV} {us : List Value} {s : List Nat}, RelL G true cs us → bytesOf cs = some s → ∃ bs : List UInt8, us = bs.map (fun c => Value.int .u8 c.toNat) ∧ bs.map UInt8.toNat = s
  | [], _, s, .nil _, h => by simp [bytesOf] at h; subst h; exact ⟨[], rfl, rfl⟩
  | c :: cs, _, s, .cons _ _ u _ us h1 _ h3, h => by
    unfold bytesOf at h
    split at h
    · rename_i heq; cases heq
    · rename_i n r heq
      cases heq
      split at h
      · rename_i hb
        split at h
        · rename_i l hl
          cases h
          obtain ⟨bs, rfl, hbs⟩ := bytesOf_rel h3 hl
          obtain rfl := h1.int_inv
          refine ⟨UInt8.ofNat n.toNat :: bs, ?_, ?_⟩
          · simp only [List.map_cons, List.cons.injEq, and_true, Value.int.injEq, true_and]
            have : (UInt8.ofNat n.toNat).toNat = n.toNat := by simp [UInt8.toNat_ofNat']; omega
            rw [this]; omega
          · simp only [List.map_cons, hbs, List.cons.injEq, and_true]
            simp [UInt8.toNat_ofNat']; omega
        · cases h
      · cases h
    · cases h

theorem bytes_rel (G : Gh) : ∀ l : List UInt8, RelL G true (byteCells (l.map UInt8.toNat)) (l.map fun c => Value.int .u8 c.toNat)
  | [] => .nil _
  | _ :: l => .cons _ _ _ _ _ (.int _ _) (fun _ => rfl) (bytes_rel G l)

def convT (P : Program) (sd dd : TypeDesc) : AConv → Prop
  | .int k => dd = .int k
  | .same => dd = .string
  | .toBytes => sd = .string ∧ ∃ e, dd = .slice e ∧ P.underlying e = some (.int .u8)
  | .toStr => dd = .string ∧ ∃ e, sd = .slice e ∧ P.underlying e = some (.int .u8)

theorem conv_ok (hW : W w0 G σ w) {c : AConv} {src dst : TypeId} {sd dd : TypeDesc} (hs : P.underlying src = some sd) (hd : P.underlying dst = some dd)
    (hk : convT P sd dd c)
    {x r : AV} {v : Value} (hx : RelV G x v) (h : aConv c σ x = some r) : ValOk w0 G σ r ((convert src dst v).run P w) := by
  cases c <;> simp only [convT] at hk
  case int k =>
    subst hk
    cases x <;> simp only [aConv, reduceCtorEq, Option.some.injEq] at h
    subst h
    obtain rfl := hx.int_inv
    exact ValOk.pure hW (by simp [convert, run_underlying hs, run_underlying hd, Conv.intToInt]) (.int _ _)
  case same =>
    subst hk
    cases x <;> simp only [aConv, reduceCtorEq, Option.some.injEq] at h
    subst h
    obtain ⟨b, rfl, hb⟩ := hx.str_inv
    exact ValOk.pure hW (by simp [convert, run_underlying hs, run_underlying hd]) (.str _ _ hb)
  case toBytes =>
    obtain ⟨rfl, e, rfl, he⟩ := hk
    cases x <;> simp only [aConv, reduceCtorEq, Option.some.injEq] at h
    subst h
    obtain ⟨b, rfl, hb⟩ := hx.str_inv
    have hrun := run_bytes_of_string (P := P) w src dst e b hs hd he
    generalize hcap : grownCap w b.size 0 e = cap at hrun
    have hge : b.size ≤ cap := by rw [← hcap]; exact grownCap_ge w b.size 0 e
    have hpre : (b.data.toList.map fun c => Value.int .u8 c.toNat) <+: (bytesRow b cap).toList := ⟨List.replicate (cap - b.size) (.int .u8 0), by simp [bytesRow]⟩
    obtain ⟨hW', hG⟩ := hW.drew.newFix (bytesRow b cap) e ((bytesRow b cap).size, (bytesRow b cap).size + 1) _ hpre
    have hW0 : w.drew.heap.size = w.heap.size := rfl
    refine ⟨_, _, _, hrun, hG, hW', ?_⟩
    subst hb
    have hlen : (b.data.toList.map UInt8.toNat).length = b.size := by rw [List.length_map, Array.length_toList]; rfl
    have hlen2 : b.data.toList.length = b.size := by rw [Array.length_toList]; rfl
    have hcs : (byteCells (b.data.toList.map UInt8.toNat)).length = b.size := by rw [byteCells, List.length_map, hlen]
    have hrow : (bytesRow b cap).size = cap := by
      simp only [bytesRow, Array.size_append, Array.size_map, Array.size_replicate]
      have : b.data.size = b.size := rfl
      omega
    rw [hlen]
    refine RelV.sl 1 .none b.size _ w.heap.size 0 (b.data.toList.map fun c => Value.int .u8 c.toNat) (bytesRow b cap).size cap hge (by rw [hcs]; omega) (by omega) ?_ ?_ trivial
    · simp [Gh.addΓ]
    · rw [hcs, List.drop_zero, List.take_of_length_le (by rw [List.length_map, hlen2]; exact Nat.le_refl _)]
      exact bytes_rel _ _
  case toStr =>
    obtain ⟨rfl, e, rfl, he⟩ := hk
    have h' : (match view 1 σ x with
      | some (_, cs) => match bytesOf cs with | some l => some (AV.str l) | .none => .none
      | .none => .none) = some r ∧ ∀ s, x ≠ .str s := by
      cases x <;> simp only [aConv, reduceCtorEq] at h <;> exact ⟨h, by simp⟩
    obtain ⟨h1, h2⟩ := h'
    split at h1
    · rename_i n cs hv
      split at h1
      · rename_i l hl
        cases h1
        obtain ⟨hlen, us, hR, hcase⟩ := view_rel hW hx hv
        obtain ⟨bs, rfl, hbs⟩ := bytesOf_rel hR hl
        have hn : ∀ a cap, v = .slice a n cap → bs.length = n := by
          rintro a cap rfl
          rw [hR.length] at hlen; simpa using hlen
        rcases hcase with ⟨b, rfl, _, _⟩ | ⟨rfl, hnil, a, cap, rfl⟩ | ⟨a, cap, rfl, hc⟩
        · cases hx with
          | undef => simp [view] at hv
          | str s _ hb => exact absurd rfl (h2 s)
        · have : bs = [] := by cases bs <;> simp_all
          subst this
          simp at hbs; subst hbs
          cases a with
          | none => exact ValOk.pure hW (run_convert_bytes_nil w src e hs he 0 cap dst hd) (.str _ _ rfl)
          | some a => exact ValOk.pure hW (run_convert_bytes_back w src dst e a cap [] hs he hd (by simp)) (.str _ _ rfl)
        · have hl' := hn _ _ rfl
          have hrun := run_convert_bytes_back (P := P) w src dst e a cap bs hs he hd (fun j hj => hc j _ (by simp [hj]))
          rw [hl'] at hrun
          exact ValOk.pure hW hrun (.str _ _ (by simpa using hbs))
      · cases h1
    · cases h1
end Go.AM

namespace Go.AM
set_option linter.all false
open Go.RowKit
variable {P : Program} {w0 : Base} {w : World} {G : Gh} {σ : St}

theorem asNat_inv {x : AV} {n : Nat} {v : Value} (hx : RelV G x v) (h : asNat x = some n) : ∃ k, v = .int k (n : Int) := by
  cases x <;> simp only [asNat, reduceCtorEq] at h
  case int k m =>
    split at h
    · rename_i h0
      cases h
      obtain rfl := hx.int_inv
      exact ⟨k, by congr; omega⟩
    · cases h

theorem sliceBound_run {k : IntKind} {n y : Nat} {code : BoundsCode} (h : n ≤ y) : (Instr.sliceBound (.int k (n : Int)) y code).run P w = .ok n w := by
  simp [Instr.sliceBound, asIntOf, h]

/-- The bounds of a slice expression. -/
theorem sliceBounds_run {isSlice : Bool} {len cap : Nat} {lo hi mx : Option Value} {l h m : Nat} (h1 : l ≤ h) (h2 : h ≤ m) (h3 : m ≤ cap)
    (hlo : match lo with | some v => ∃ k, v = .int k (l : Int) | none => l = 0)
    (hhi : match hi with | some v => ∃ k, v = .int k (h : Int) | none => h = len)
    (hmx : match mx with | some v => hi.isSome = true ∧ ∃ k, v = .int k (m : Int) | none => m = cap) :
    (Instr.sliceBounds isSlice len cap lo hi mx).run P w = .ok (l, h, m) w := by
  cases lo <;> cases hi <;> cases mx <;> simp only at hlo hhi hmx
  case none.none.none => subst hlo hhi hmx; simp [Instr.sliceBounds]
  case none.some.none =>
    obtain ⟨k, rfl⟩ := hhi; subst hlo hmx
    simp [Instr.sliceBounds, sliceBound_run (P := P) (w := w) h2]
  case some.none.none =>
    obtain ⟨k, rfl⟩ := hlo; subst hhi hmx
    simp [Instr.sliceBounds, sliceBound_run (P := P) (w := w) h1]
  case some.some.none =>
    obtain ⟨k, rfl⟩ := hlo; obtain ⟨k', rfl⟩ := hhi; subst hmx
    simp [Instr.sliceBounds, sliceBound_run (P := P) (w := w) h1, sliceBound_run (P := P) (w := w) h2]
  case none.some.some =>
    obtain ⟨k', rfl⟩ := hhi; obtain ⟨_, k'', rfl⟩ := hmx; subst hlo
    simp [Instr.sliceBounds, sliceBound_run (P := P) (w := w) h2, sliceBound_run (P := P) (w := w) h3]
  case some.some.some =>
    obtain ⟨k, rfl⟩ := hlo; obtain ⟨k', rfl⟩ := hhi; obtain ⟨_, k'', rfl⟩ := hmx
    simp [Instr.sliceBounds, sliceBound_run (P := P) (w := w) h1, sliceBound_run (P := P) (w := w) h2, sliceBound_run (P := P) (w := w) h3]
  case none.none.some => simp at hmx
  case some.none.some => simp at hmx

def xoChk : Option Operand → Option AX → Bool
  | none, none => true
  | some o, some x => xChk o x
  | _, _ => false

theorem optNat_inv {n : Nat} {fr : Env} {a : Act} (hF : RelF G n fr a) {o : Option Operand} {x : Option AX} {d r : Nat} (hc : xoChk o x = true) (h : optNat fr d x = some r) :
    match o.map a.eval with | some v => ∃ k, v = .int k (r : Int) | none => r = d := by
  cases o <;> cases x <;> simp only [xoChk, Bool.false_eq_true] at hc <;> simp only [optNat] at h
  · cases h; rfl
  · exact asNat_inv (xChk_rel hF hc) h

theorem slc_ok (hW : W w0 G σ w) {n : Nat} {fr : Env} {a : Act} (hF : RelF G n fr a) {t e : TypeId} {i : TypeInfo} (ht : P.underlying t = some (.slice e)) (hi : P.info? e = some i)
    {x r : AV} {v : Value} {lo hi' mx : Option Operand} {lo' hi'' mx' : Option AX} (c1 : xoChk lo lo' = true) (c2 : xoChk hi' hi'' = true) (c3 : xoChk mx mx' = true) (c4 : mx'.isSome = true → hi''.isSome = true)
    (hx : RelV G x v) (h : aSlc i.size fr x lo' hi'' mx' = some r) : ValOk w0 G σ r ((Instr.sliceAt t v (lo.map a.eval) (hi'.map a.eval) (mx.map a.eval)).run P w) := by
  have hmxhi : ∀ q, mx.map a.eval = some q → (hi'.map a.eval).isSome = true := by
    intro q hq
    cases mx <;> cases mx' <;> simp [xoChk] at c3 hq
    have := c4 rfl
    cases hi' <;> cases hi'' <;> simp_all [xoChk]
  cases x <;> simp only [aSlc, reduceCtorEq] at h
  case nils =>
    cases hx
    split at h
    · rename_i e1 e2 e3
      cases h
      have b1 := optNat_inv hF c1 e1
      have b2 := optNat_inv hF c2 e2
      have b3 := optNat_inv hF c3 e3
      have hb := sliceBounds_run (P := P) (w := w) (isSlice := true) (len := 0) (cap := 0) (lo := lo.map a.eval) (hi := hi'.map a.eval) (mx := mx.map a.eval) (l := 0) (h := 0) (m := 0) (by omega) (by omega) (by omega) b1 b2
        (by cases hm : mx.map a.eval with | none => rfl | some q => rw [hm] at b3; exact ⟨hmxhi q hm, b3⟩)
      refine ValOk.pure (u := .slice none 0 0) hW ?_ .nils
      simp [Instr.sliceAt, run_underlying ht, Instr.slice, hb, size_run hi]
    · cases h
  case sl k' own len cs =>
    split at h
    · rename_i l hh m e1 e2 e3
      split at h
      · rename_i hc
        obtain ⟨rfl, hlh, hhm, hml⟩ := hc
        cases h
        have b1 := optNat_inv hF c1 e1
        have b2 := optNat_inv hF c2 e2
        have b3 := optNat_inv hF c3 e3
        have conc : ∃ ad cap, v = .slice (some ad) len cap ∧ len ≤ cap := by
          cases hx with
          | sl0 => exact ⟨_, _, rfl, Nat.zero_le _⟩
          | slx => exact ⟨_, _, rfl, Nat.zero_le _⟩
          | sl _ _ _ _ _ _ _ _ _ q => exact ⟨_, _, rfl, q⟩
        obtain ⟨ad, cap, rfl, hcap⟩ := conc
        obtain ⟨M, hM1, hM2, hM3, hb⟩ : ∃ M, hh ≤ M ∧ M ≤ cap ∧ (mx' = none ∧ M = cap ∨ (∃ q, mx' = some q) ∧ M = m) ∧ (Instr.sliceBounds true len cap (lo.map a.eval) (hi'.map a.eval) (mx.map a.eval)).run P w = .ok (l, hh, M) w := by
          cases mx' with
          | none =>
            have hmn : mx = none := by cases mx <;> simp [xoChk] at c3 ⊢
            subst hmn
            exact ⟨cap, by omega, Nat.le_refl _, .inl ⟨rfl, rfl⟩, sliceBounds_run hlh (by omega) (Nat.le_refl _) b1 b2 rfl⟩
          | some q =>
            obtain ⟨o, rfl⟩ : ∃ o, mx = some o := by cases mx <;> simp [xoChk] at c3 ⊢
            exact ⟨m, hhm, by omega, .inr ⟨⟨q, rfl⟩, rfl⟩, sliceBounds_run hlh hhm (by omega) b1 b2 ⟨hmxhi _ rfl, b3⟩⟩
        have hrun : (Instr.sliceAt t (.slice (some ad) len cap) (lo.map a.eval) (hi'.map a.eval) (mx.map a.eval)).run P w = .ok (.slice (some (if M = l then ad else ad.add (l * i.size))) (hh - l) (M - l)) w := by
          simp only [Instr.sliceAt, Sem.run_bind, run_underlying ht, Result.andThen_ok, Instr.slice, hb, size_run hi, Sem.run_pure]
          split <;> rfl
        refine ValOk.pure hW hrun ?_
        by_cases hMl : M = l
        · have hz : hh - l = 0 := by omega
          have hz2 : M - l = 0 := by omega
          rw [hz, hz2, if_pos hMl]
          simp only [Nat.zero_mul, List.take_zero]
          rcases hM3 with ⟨rfl, hMc⟩ | ⟨⟨q, rfl⟩, hMm⟩
          · simp only
            rw [if_pos (by omega)]
            cases own with
            | none => exact .sl0 _ _ _
            | exact => exact .slx _ _
            | fam f e => simp only [cutOwn]; rw [if_neg (by omega)]; exact .sl0 _ _ _
          · simp only
            rw [if_pos (by omega)]
            exact .slx _ _
        · rw [if_neg hMl]
          cases hx with
          | sl0 =>
            obtain rfl : l = 0 := by omega
            obtain rfl : hh = 0 := by omega
            rcases hM3 with ⟨rfl, hMc⟩ | ⟨⟨q, rfl⟩, hMm⟩
            · simpa [cutOwn] using RelV.sl0 _ _ _
            · exfalso; omega
          | slx => exfalso; omega
          | sl _ _ _ _ b off pre tot _ q1 q2 q3 q4 q5 q6 =>
            rw [add_lit]
            have hle : l * i.size + (hh - l) * i.size ≤ len * i.size := by
              rw [← Nat.add_mul]; exact Nat.mul_le_mul_right _ (by omega)
            have hlen : ((cs.drop (l * i.size)).take ((hh - l) * i.size)).length = (hh - l) * i.size := by
              simp only [List.length_take, List.length_drop]; omega
            refine .sl _ _ _ _ b (off + l * i.size) pre tot _ (by omega) hlen ?_ q4 ?_ ?_
            · have : l * i.size + (M - l) * i.size ≤ cap * i.size := by rw [← Nat.add_mul]; exact Nat.mul_le_mul_right _ (by omega)
              omega
            · have hR := (q5.drop (l * i.size)).take ((hh - l) * i.size)
              rw [List.drop_take, List.drop_drop, List.take_take] at hR
              rw [hlen]
              rwa [Nat.min_eq_left (by rw [q2]; omega)] at hR
            · rcases hM3 with ⟨rfl, hMc⟩ | ⟨⟨q, rfl⟩, hMm⟩
              · simp only
                split
                · rename_i hhl
                  subst hhl hMc
                  cases own with
                  | none => trivial
                  | exact => simp only [cutOwn, Gh.ownOk] at q6 ⊢; omega
                  | fam f e =>
                    simp only [cutOwn]
                    split
                    · obtain ⟨e', b', z1, z2, z3⟩ := q6
                      refine ⟨e', b', z1, z2, fun z => ?_⟩
                      obtain ⟨z4, z5⟩ := z3 z
                      refine ⟨z4, ?_⟩
                      have : l * i.size + (hh - l) * i.size = hh * i.size := by rw [← Nat.add_mul]; congr 1; omega
                      omega
                    · trivial
                · trivial
              · simp only
                split
                · simp only [Gh.ownOk]; omega
                · trivial
      · cases h
    · cases h
  case ms k' b off len =>
    split at h
    · rename_i hk
      simp at hk; subst hk
      split at h
      · rename_i l hh e1 e2
        have b1 := optNat_inv hF c1 e1
        have b2 := optNat_inv hF c2 e2
        have hmn : mx = none := by cases mx <;> simp [xoChk] at c3 ⊢
        subst hmn
        split at h
        · rename_i hc
          cases h
          cases hx with
          | ms _ _ _ _ bb base tot cap q1 q2 q3 =>
            have hb := sliceBounds_run (P := P) (w := w) (isSlice := true) (len := len) (cap := cap) (lo := lo.map a.eval) (hi := hi'.map a.eval) (mx := none) (l := l) (h := hh) (m := cap) (by omega) (by omega) (by omega) b1 b2 rfl
            have hrun : (Instr.sliceAt t (.slice (some ⟨bb, base + off, none⟩) len cap) (lo.map a.eval) (hi'.map a.eval) none).run P w = .ok (.slice (some ⟨bb, base + (off + l * i.size), none⟩) (hh - l) (cap - l)) w := by
              simp only [Instr.sliceAt, Sem.run_bind, run_underlying ht, Result.andThen_ok, Instr.slice, hb, size_run hi, Sem.run_pure]
              by_cases hcl : cap = l
              · have : l = 0 := by omega
                subst this
                simp [hcl]
              · rw [if_neg hcl, Option.map_some, add_lit, Nat.add_assoc]
            refine ValOk.pure hW hrun (.ms _ _ _ _ _ _ _ _ q1 (by omega) ?_)
            have : l * i.size + (cap - l) * i.size = cap * i.size := by rw [← Nat.add_mul]; congr 1; omega
            omega
        · split at h
          · rename_i hc
            obtain ⟨rfl, hll⟩ := hc
            cases h
            cases hx with
            | ms _ _ _ _ bb base tot cap q1 q2 q3 =>
              have hb := sliceBounds_run (P := P) (w := w) (isSlice := true) (len := len) (cap := cap) (lo := lo.map a.eval) (hi := hi'.map a.eval) (mx := none) (l := l) (h := l) (m := cap) (by omega) (by omega) (by omega) b1 b2 rfl
              have hrun : (Instr.sliceAt t (.slice (some ⟨bb, base + off, none⟩) len cap) (lo.map a.eval) (hi'.map a.eval) none).run P w = .ok (.slice (some (if cap = l then ⟨bb, base + off, none⟩ else (⟨bb, base + off, none⟩ : Addr).add (l * i.size))) 0 (cap - l)) w := by
                simp only [Instr.sliceAt, Sem.run_bind, run_underlying ht, Result.andThen_ok, Instr.slice, hb, size_run hi, Sem.run_pure, Nat.sub_self]
                split <;> rfl
              exact ValOk.pure hW hrun (.sl0 _ _ _)
          · cases h
      · rename_i q l hh e1 e2
        have b1 := optNat_inv hF c1 e1
        have b2 := optNat_inv hF c2 e2
        split at h
        · rename_i m e3
          have b3 := optNat_inv (d := len) hF c3 e3
          split at h
          · rename_i hc
            obtain ⟨hlh, hhm, hml⟩ := hc
            obtain ⟨o, rfl⟩ : ∃ o, mx = some o := by cases mx <;> simp [xoChk] at c3 ⊢
            cases hx with
            | ms _ _ _ _ bb base tot cap q1 q2 q3 =>
              have hb := sliceBounds_run (P := P) (w := w) (isSlice := true) (len := len) (cap := cap) (lo := lo.map a.eval) (hi := hi'.map a.eval) (mx := some (a.eval o)) (l := l) (h := hh) (m := m) hlh hhm (by omega) b1 b2 ⟨hmxhi _ rfl, b3⟩
              have hrun : (Instr.sliceAt t (.slice (some ⟨bb, base + off, none⟩) len cap) (lo.map a.eval) (hi'.map a.eval) (some (a.eval o))).run P w = .ok (.slice (some (if m = l then ⟨bb, base + off, none⟩ else (⟨bb, base + off, none⟩ : Addr).add (l * i.size))) (hh - l) (m - l)) w := by
                simp only [Instr.sliceAt, Sem.run_bind, run_underlying ht, Result.andThen_ok, Instr.slice, hb, size_run hi, Sem.run_pure]
                split <;> rfl
              split at h
              · rename_i hm0
                cases h
                subst hm0
                obtain rfl : l = 0 := by omega
                obtain rfl : hh = 0 := by omega
                exact ValOk.pure hW hrun (.slx _ _)
              · cases h
                exact ValOk.pure hW hrun (.undef _)
          · cases h
        · cases h
      · cases h
    · cases h

theorem sslc_ok (hW : W w0 G σ w) {n : Nat} {fr : Env} {a : Act} (hF : RelF G n fr a) {t : TypeId} (ht : P.underlying t = some .string)
    {x r : AV} {v : Value} {lo hi' : Option Operand} {lo' hi'' : Option AX} (c1 : xoChk lo lo' = true) (c2 : xoChk hi' hi'' = true)
    (hx : RelV G x v) (h : aSslc fr x lo' hi'' = some r) : ValOk w0 G σ r ((Instr.sliceAt t v (lo.map a.eval) (hi'.map a.eval) none).run P w) := by
  cases x <;> simp only [aSslc, reduceCtorEq] at h
  case str s =>
    obtain ⟨b, rfl, hb⟩ := hx.str_inv
    have hsz : b.size = s.length := by rw [← hb, List.length_map, Array.length_toList]; rfl
    split at h
    · rename_i l hh e1 e2
      have b1 := optNat_inv hF c1 e1
      have b2 := optNat_inv hF c2 e2
      split at h
      · rename_i hc
        cases h
        have hbd := sliceBounds_run (P := P) (w := w) (isSlice := false) (len := b.size) (cap := b.size) (lo := lo.map a.eval) (hi := hi'.map a.eval) (mx := none) (l := l) (h := hh) (m := b.size) hc.1 (by omega) (by omega) b1 (by rw [hsz]; exact b2) rfl
        refine ValOk.pure (u := .string (b.extract l hh)) hW ?_ (.str _ _ ?_)
        · simp [Instr.sliceAt, run_underlying ht, Instr.slice, hbd]
        · subst hb
          simp only [ByteArray.data_extract, Array.toList_extract, List.extract_eq_take_drop, List.map_take, List.map_drop]
      · cases h
    · cases h
end Go.AM

import Derived.Test.YthbkgikjaiaigaaGreatAmW2
namespace Go.AM
set_option linter.all false
open Go.RowKit
variable {P : Program} {w0 : Base} {w : World} {G : Gh} {σ : St}

structure RelF (G : Gh) (n : Nat) (fr : Env) (a : Act) : Prop where
  size : a.tmps.size = n
  slot : ∀ t, RelV G (fr t) (a.tmps.getD t Go.undef)

theorem RelF.mono {G' : Gh} (hG : Gle G G') {n : Nat} {fr : Env} {a : Act} (h : RelF G n fr a) : RelF G' n fr a := ⟨h.size, fun t => (h.slot t).mono hG⟩

mutual
def cChk : AV → Value → Bool
  | .int k n, .int k' m => kindEq k k' && n == m
  | .bool a, .bool b => a == b
  | .str s, .string b => listEq s (b.data.toList.map UInt8.toNat)
  | .nilp, .pointer a => a.isNone
  | .nils, .slice a l c => a.isNone && l.beq 0 && c.beq 0
  | .nilm, .map a => a.isNone
  | .nilf, .nilFunc => true
  | .agg cs, .agg vs => cChkL cs vs.toList
  | _, _ => false
def cChkL : List AV → List Value → Bool
  | [], [] => true
  | c :: cs, v :: vs => cChk c v && v.oneCell' && cChkL cs vs
  | _, _ => false
end

theorem kindEq_eq : ∀ {a b : IntKind}, kindEq a b = true → a = b := by intro a b; cases a <;> cases b <;> simp [kindEq]
theorem kindEq_refl (a : IntKind) : kindEq a a = true := by cases a <;> rfl
theorem listEq_eq : ∀ {a b : List Nat}, listEq a b = true ↔ a = b
  | [], [] => by simp [listEq]
  | [], _ :: _ => by simp [listEq]
  | _ :: _, [] => by simp [listEq]
  | x :: a, y :: b => by simp [listEq, listEq_eq (a := a) (b := b)]

mutual
theorem cChk_rel : ∀ {a : AV} {v : Value}, cChk a v = true → RelV G a v := by
  intro a v h
  cases a <;> cases v <;> simp only [cChk, Bool.and_eq_true, beq_iff_eq, Bool.false_eq_true, Option.isNone_iff_eq_none, Nat.beq_eq] at h
  case int.int k n k' m => obtain ⟨h1, rfl⟩ := h; obtain rfl := kindEq_eq h1; exact .int _ _
  case bool.bool => subst h; exact .bool _
  case str.string => exact .str _ _ (listEq_eq.1 h).symm
  case nilp.pointer p => subst h; exact .nilp
  case nils.slice a len cap => obtain ⟨⟨rfl, rfl⟩, rfl⟩ := h; exact .nils
  case nilm.map r => subst h; exact .nilm
  case nilf.nilFunc => exact .nilf
  case agg.agg cs vs => exact .agg _ _ (cChkL_rel h)
theorem cChkL_rel : ∀ {cs : List AV} {vs : List Value}, cChkL cs vs = true → RelL G true cs vs := by
  intro cs vs h
  cases cs <;> cases vs <;> simp only [cChkL, Bool.and_eq_true, Bool.false_eq_true] at h
  · exact .nil _
  · exact .cons _ _ _ _ _ (cChk_rel h.1.1) (fun _ => h.1.2) (cChkL_rel h.2)
end

def xChk : Operand → AX → Bool
  | .tmp t, .t n => t.beq n
  | .const v, .c a => cChk a v
  | .func f, .c (.fn g [] []) => f.beq g
  | _, _ => false

theorem xChk_rel {n : Nat} {fr : Env} {a : Act} (hF : RelF G n fr a) {o : Operand} {x : AX} (h : xChk o x = true) : RelV G (x.ev fr) (a.eval o) := by
  unfold xChk at h
  split at h
  · simp at h; subst h; exact hF.slot _
  · exact cChk_rel h
  · simp at h; subst h; exact .fn _ _ _ _ _ (.nil _) (.nil _)
  · cases h

def xsChk : List Operand → List AX → Bool
  | [], [] => true
  | o :: os, x :: xs => xChk o x && xsChk os xs
  | _, _ => false

theorem xsChk_rel {n : Nat} {fr : Env} {a : Act} (hF : RelF G n fr a) : ∀ {os : List Operand} {xs : List AX}, xsChk os xs = true → RelL G false (evs fr xs) (os.map a.eval)
  | [], [], _ => .nil _
  | [], _ :: _, h => by simp [xsChk] at h
  | _ :: _, [], h => by simp [xsChk] at h
  | o :: os, x :: xs, h => by
    simp only [xsChk, Bool.and_eq_true] at h
    exact .cons _ _ _ _ _ (xChk_rel hF h.1) (by simp) (xsChk_rel hF h.2)

/-- What a step of an operation comes to. -/
def StepOk (w0 : Base) (G : Gh) (σ' : St) (v : AV) (r : Result Next) : Prop :=
  ∃ u w' G', (r = .ok (.value u) w' ∨ r = .ok .skip w' ∧ u = Go.undef) ∧ Gle G G' ∧ W w0 G' σ' w' ∧ RelV G' v u

theorem StepOk.pure {v : AV} {u : Value} {r : Result Next} (hW : W w0 G σ w) (hr : r = .ok (.value u) w) (hv : RelV G v u) : StepOk w0 G σ v r :=
  ⟨u, w, G, .inl hr, Gle.refl G, hW, hv⟩

/-- The same for an operation that gives a value. -/
def ValOk (w0 : Base) (G : Gh) (σ' : St) (v : AV) (r : Result Value) : Prop :=
  ∃ u w' G', r = .ok u w' ∧ Gle G G' ∧ W w0 G' σ' w' ∧ RelV G' v u

theorem ValOk.step {v : AV} {s : Sem Value} {σ' : St} (h : ValOk w0 G σ' v (s.run P w)) : StepOk w0 G σ' v (((do pure (.value (← s)) : Sem Next)).run P w) := by
  obtain ⟨u, w', G', hr, h1, h2, h3⟩ := h
  exact ⟨u, w', G', .inl (by simp [hr]), h1, h2, h3⟩

theorem ValOk.pure {v : AV} {u : Value} {r : Result Value} (hW : W w0 G σ w) (hr : r = .ok u w) (hv : RelV G v u) : ValOk w0 G σ v r :=
  ⟨u, w, G, hr, Gle.refl G, hW, hv⟩

/-! What an abstract value tells of the concrete one. -/
theorem RelV.int_inv {k : IntKind} {n : Int} {v : Value} (h : RelV G (.int k n) v) : v = .int k n := by cases h; rfl
theorem RelV.bool_inv {b : Bool} {v : Value} (h : RelV G (.bool b) v) : v = .bool b := by cases h; rfl
theorem RelV.str_inv {s : List Nat} {v : Value} (h : RelV G (.str s) v) : ∃ b, v = .string b ∧ b.data.toList.map UInt8.toNat = s := by cases h; exact ⟨_, rfl, ‹_›⟩
theorem RelV.ptr_inv {l off : Nat} {v : Value} (h : RelV G (.ptr l off) v) : ∃ b base tot, v = .pointer (some ⟨b, base + off, none⟩) ∧ G.ρ l = some (b, base, tot) := by cases h; exact ⟨_, _, _, rfl, ‹_›⟩
theorem RelV.eptr_inv {cs : List AV} {v : Value} (h : RelV G (.eptr cs) v) : ∃ b off pre tot, v = .pointer (some ⟨b, off, none⟩) ∧ G.Γ b = some (pre, tot) ∧ RelL G true cs ((pre.drop off).take cs.length) := by cases h; exact ⟨_, _, _, _, rfl, ‹_›, ‹_›⟩
theorem RelV.agg_inv {cs : List AV} {v : Value} (h : RelV G (.agg cs) v) : ∃ vs, v = .agg vs ∧ RelL G true cs vs.toList := by cases h; exact ⟨_, rfl, ‹_›⟩
theorem RelV.tup_inv {cs : List AV} {v : Value} (h : RelV G (.tup cs) v) : ∃ vs, v = .tuple vs ∧ RelL G false cs vs.toList := by cases h; exact ⟨_, rfl, ‹_›⟩

theorem RelV.cellsO {a : AV} {v : Value} {cs : List AV} (h : RelV G a v) (hc : a.cellsO = some cs) : RelL G true cs v.cells.toList := by
  cases h <;> simp only [AV.cellsO, Option.some.injEq, reduceCtorEq] at hc <;> subst hc <;>
    first
      | assumption
      | exact .cons _ _ _ _ _ (by first | exact .int _ _ | exact .bool _ | exact .str _ _ ‹_› | exact .nilp | exact .ptr _ _ _ _ _ ‹_› | exact .eptr _ _ _ _ _ ‹_› ‹_› | exact .nils | exact .sl0 _ _ _ | exact .slx _ _ | exact .sl _ _ _ _ _ _ _ _ _ ‹_› ‹_› ‹_› ‹_› ‹_› ‹_› | exact .ms _ _ _ _ _ _ _ _ ‹_› ‹_› ‹_› | exact .nilm | exact .mp _ _ _ _ ‹_› | exact .nilf | exact .fn _ _ _ _ _ ‹_› ‹_›) (fun _ => rfl) (.nil _)

/-! Loads. -/
theorem cells_of_arr (hW : W w0 G σ w) {b off n tot : Nat} {pre : List Value} (h : G.Γ b = some (pre, tot)) (hn : off + n ≤ pre.length) :
    ∀ j v, ((pre.drop off).take n)[j]? = some v → w.cell? ((⟨b, off, none⟩ : Addr).add j) = some v := by
  intro j v hj
  obtain ⟨c, el, fz, hc, _, hp⟩ := hW.arr b pre tot h
  have hadd : (⟨b, off, none⟩ : Addr).add j = ⟨b, off + j, none⟩ := by unfold Addr.add; split <;> simp_all
  rw [hadd, cell_of_row w b (off + j) c el fz hc]
  obtain ⟨t, ht⟩ := hp
  simp only [List.getElem?_take, List.getElem?_drop] at hj
  split at hj
  · rename_i hlt
    rw [← Array.getElem?_toList, ← ht, List.getElem?_append_left (by omega)]; exact hj
  · cases hj

theorem cells_of_obj {b base n : Nat} {c : Array Value} {el : TypeId} (hc : w.heap[b]? = some (.cells c el (0, 0))) :
    ∀ j v, ((c.toList.drop base).take n)[j]? = some v → w.cell? ((⟨b, base, none⟩ : Addr).add j) = some v := by
  intro j v hj
  have hadd : (⟨b, base, none⟩ : Addr).add j = ⟨b, base + j, none⟩ := by unfold Addr.add; split <;> simp_all
  rw [hadd, cell_of_row w b (base + j) c el _ hc]
  simp only [List.getElem?_take, List.getElem?_drop] at hj
  split at hj
  · rw [← Array.getElem?_toList]; exact hj
  · cases hj

/-- A load of n cells behind a pointer. -/
theorem aLoad_rel (hW : W w0 G σ w) {n : Nat} {x : AV} {v : Value} {cs : List AV} (hx : RelV G x v) (h : aLoad σ n x = some cs) :
    ∃ a vs, v = .pointer (some a) ∧ RelL G true cs vs ∧ vs.length = n ∧ ∀ j u, vs[j]? = some u → w.cell? (a.add j) = some u := by
  cases x <;> simp only [aLoad, reduceCtorEq] at h
  case ptr l off =>
    obtain ⟨b, base, tot, rfl, hρ⟩ := hx.ptr_inv
    split at h
    · rename_i cs' hl
      obtain ⟨b', base', tot', c, el, h1, h2, h3, h4, h5, h6⟩ := hW.obj l _ hl
      rw [hρ] at h1; cases h1
      split at h
      · rename_i hle
        cases h
        have hlen : cs'.length = ((c.toList.drop base).take cs'.length).length := h6.length
        have hR := (h6.drop off).take n
        have e : (List.drop off (List.take cs'.length (List.drop base c.toList))).take n = (c.toList.drop (base + off)).take n := by
          rw [List.drop_take, List.drop_drop, List.take_take, Nat.min_eq_left (by omega)]
        rw [e] at hR
        have hcl : c.toList.length = tot := by simpa using h4
        refine ⟨_, (c.toList.drop (base + off)).take n, rfl, hR, ?_, cells_of_obj h3⟩
        simp only [List.length_take, List.length_drop]
        omega
      · cases h
    · cases h
  case eptr cs' =>
    obtain ⟨b, off, pre, tot, rfl, hΓ, hR⟩ := hx.eptr_inv
    split at h
    · rename_i hle
      cases h
      have hlen := hR.length
      have hR' := hR.take n
      rw [List.take_take, Nat.min_eq_left hle] at hR'
      refine ⟨_, (pre.drop off).take n, rfl, hR', ?_, ?_⟩
      · simp only [List.length_take, List.length_drop] at hlen ⊢; omega
      · by_cases h0 : n = 0
        · subst h0; intro j u hj; simp at hj
        · exact cells_of_arr hW hΓ (by simp only [List.length_take, List.length_drop] at hlen; omega)
    · cases h

def aggD : TypeDesc → Bool
  | .struct _ => true
  | .array _ _ => true
  | _ => false

theorem isAgg_run {t : TypeId} {d : TypeDesc} {b : Bool} (hd : P.underlying t = some d) (hn : aggD d = b) : (isAgg t).run P w = .ok b w := by
  subst hn
  simp only [isAgg, Sem.run_bind, run_underlying hd, Result.andThen_ok]; cases d <;> rfl

theorem run_loadVar_one {t : TypeId} {d : TypeDesc} (hd : P.underlying t = some d) (hn : aggD d = false) (a : Addr) (v : Value) (hc : w.cell? a = some v) :
    (loadVar t a).run P w = .ok v w := by
  have : (isAgg t).run P w = .ok false w :=  isAgg_run hd hn
  simp [loadVar, this, hc]

theorem run_loadVar_agg {t : TypeId} {d : TypeDesc} {i : TypeInfo} (hd : P.underlying t = some d) (hn : aggD d = true) (hi : P.info? t = some i) (a : Addr) (vs : List Value)
    (hl : vs.length = i.size) (hc : ∀ j u, vs[j]? = some u → w.cell? (a.add j) = some u) : (loadVar t a).run P w = .ok (.agg vs.toArray) w := by
  have h1 : (isAgg t).run P w = .ok true w :=  isAgg_run hd hn
  have h2 := run_loadCells_list (P := P) w a vs hc
  rw [hl] at h2
  simp [loadVar, h1, sizeOf, typeInfo, hi, h2]

end Go.AM

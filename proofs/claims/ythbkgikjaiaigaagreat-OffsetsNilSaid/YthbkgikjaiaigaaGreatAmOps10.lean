import Derived.Test.YthbkgikjaiaigaaGreatAmOps9
namespace Go.AM
set_option linter.all false
open Go.RowKit
variable {P : Program} {w0 : Base} {w : World} {G : Gh} {σ : St}

theorem list_write {α : Type} (C us : List α) (base off len : Nat) (h1 : base + len ≤ C.length) (h2 : off + us.length ≤ len) :
    ((C.take (base + off) ++ us ++ C.drop (base + off + us.length)).drop base).take len = ((C.drop base).take len).take off ++ us ++ ((C.drop base).take len).drop (off + us.length) := by
  have e1 : (C.take (base + off) ++ us ++ C.drop (base + off + us.length)).drop base = (C.drop base).take off ++ (us ++ (C.drop base).drop (off + us.length)) := by
    rw [List.append_assoc, List.drop_append_of_le_length (by simp; omega), List.drop_take, List.drop_drop, show base + off - base = off from by omega, show base + off + us.length = base + (off + us.length) from by omega]
  have l1 : ((C.drop base).take off).length = off := by simp only [List.length_take, List.length_drop]; omega
  have e2 : ((C.drop base).take off ++ (us ++ (C.drop base).drop (off + us.length))).take len = (C.drop base).take off ++ (us ++ ((C.drop base).drop (off + us.length)).take (len - off - us.length)) := by
    rw [List.take_append, l1, List.take_of_length_le (l := (C.drop base).take off) (by omega), List.take_append, List.take_of_length_le (l := us) (by omega)]
  rw [e1, e2, List.take_take, Nat.min_eq_left (by omega), List.append_assoc, List.drop_take, Nat.sub_sub]

theorem RelL.fill {b : Bool} {cs vs : List AV} {ds us : List Value} {off : Nat} (h : RelL G b cs ds) (hv : RelL G b vs us) : RelL G b (fillAt cs off vs) (ds.take off ++ us ++ ds.drop (off + us.length)) := by
  unfold fillAt
  rw [hv.length]
  exact ((h.take off).append hv).append (h.drop _)

theorem fillAt_length {cs vs : List AV} {off : Nat} (h : off + vs.length ≤ cs.length) : (fillAt cs off vs).length = cs.length := by
  simp [fillAt]; omega

theorem store_ok (hW : W w0 G σ w) {t : TypeId} {i : TypeInfo} (hi : P.info? t = some i) {x y : AV} {xv yv : Value} (hx : RelV G x xv) (hy : RelV G y yv) {σ' : St}
    (h : storeS i.size σ x y = some σ') : ∃ w', (Instr.storeAt t xv yv).run P w = .ok () w' ∧ W w0 G σ' w' := by
  unfold storeS at h
  cases x <;> simp only [reduceCtorEq] at h
  case ptr l off =>
    obtain ⟨b, base, tot, rfl, hρ⟩ := hx.ptr_inv
    split at h
    · rename_i cs hl
      split at h
      · rename_i vs hvs
        split at h
        · rename_i hc
          cases h
          have hR := hy.cellsO hvs
          obtain ⟨b', base', tot', c, el, h1, h2, h3, h4, h5, h6⟩ := hW.obj l _ hl
          rw [hρ] at h1; cases h1
          have hlv : yv.cells.toList.length = i.size := by rw [← hR.length]; exact hc.1
          have hlv' : yv.cells.size = i.size := by simpa using hlv
          have hcl : c.toList.length = tot := by simpa using h4
          have hst := run_storeCells_at P b (base + off) el yv.cells.toList 0 c w h3 (by rw [hlv]; omega) hR.ones
          simp only [Nat.add_zero] at hst
          refine ⟨_, by simp only [Instr.storeAt, Instr.sureAddr, Sem.run_bind, Sem.run_pure, Result.andThen_ok, storeVar, size_run hi, hlv', ne_eq, not_true, if_false]; exact hst, ?_⟩
          have hlt := (Array.getElem?_eq_some_iff.1 h3).1
          have hrow := setRow_heap w b c (c.toList.take (base + off) ++ yv.cells.toList ++ c.toList.drop (base + off + yv.cells.toList.length)).toArray el _ h3
          refine hW.setObj hl rfl rfl (b := b) (by simp [blk, hρ]) (Below.setRow hW.below h2 _) (by simp) (fun k hk => setRow_other w b k _ hk) ?_
          refine ⟨b, base, tot, _, el, hρ, h2, hrow, ?_, ?_, ?_⟩
          · simp only [List.size_toArray, List.length_append, List.length_take, List.length_drop]; omega
          · rw [fillAt_length (by omega)]; exact h5
          · rw [fillAt_length (by omega), List.toList_toArray, list_write _ _ _ _ _ (by omega) (by omega)]
            exact h6.fill hR
        · cases h
      · cases h
    · cases h

theorem newVar_ok (hW : W w0 G σ w) {t : TypeId} {cs : List AV} {v : Value} (hR : RelL G true cs v.cells.toList) :
    ValOk w0 G (σ.new (.cells cs)) (.ptr σ.next 0) ((do pure (.pointer (some (← newVar t v))) : Sem Value).run P w) := by
  have hfr := hW.fresh σ.next (Nat.le_refl _)
  obtain ⟨hW', hG⟩ := hW.newObj (.cells cs) (.cells v.cells t) v.cells.size rfl (by
    refine ⟨w.heap.size, 0, v.cells.size, v.cells, t, by simp [Gh.addρ], hW.below.size, (heap_new w _ _).trans (if_pos rfl), rfl, ?_, ?_⟩
    · rw [Nat.zero_add, hR.length]; simp
    · have := hR.mono (Gle.addρ (x := (w.heap.size, 0, v.cells.size)) hfr.2.1)
      rw [List.drop_zero, List.take_of_length_le (by rw [hR.length]; exact Nat.le_refl _)]
      exact this)
  refine ⟨.pointer (some ⟨w.heap.size, 0, none⟩), _, _, ?_, hG, hW', ?_⟩
  · simp [newVar, newRow]
  · exact .ptr σ.next 0 w.heap.size 0 v.cells.size (by simp [Gh.addρ])

theorem alloc_ok (hW : W w0 G σ w) {t : TypeId} {i : TypeInfo} {zv : Value} (hi : P.info? t = some i) (hz : i.zero = some zv) {z : List AV} (hzr : RelL G true z zv.cells.toList) :
    ValOk w0 G (σ.new (.cells z)) (.ptr σ.next 0) ((Instr.alloc t true (.tuple #[])).run P w) := by
  have := newVar_ok (P := P) hW (t := t) hzr
  simp only [Instr.alloc, Sem.run_bind, zeroValue, typeInfo, run_program, hi, hz, Sem.run_pure, Result.andThen_ok]
  simpa using this

theorem box_ok (hW : W w0 G σ w) {t : TypeId} {x : AV} {v : Value} {cs : List AV} (hx : RelV G x v) (hc : x.cellsO = some cs) :
    ValOk w0 G (σ.new (.cells cs)) (.ptr σ.next 0) ((Instr.box t v).run P w) := newVar_ok (P := P) hW (hx.cellsO hc)

theorem mkmap_ok (hW : W w0 G σ w) {t : TypeId} : ValOk w0 G (σ.new (.map [] [] 0)) (.mp σ.next) ((Instr.makeMap t none).run P w) := by
  obtain ⟨hW', hG⟩ := hW.newObj (.map [] [] 0) (.map #[] 0) 0 rfl ⟨w.heap.size, 0, 0, #[], by simp [Gh.addρ], hW.below.size, (heap_new w _ _).trans (if_pos rfl), .nil, rfl⟩
  refine ⟨.map (some w.heap.size), _, _, ?_, hG, hW', .mp σ.next w.heap.size 0 0 (by simp [Gh.addρ])⟩
  simp [Instr.makeMap]

theorem len_ok (hW : W w0 G σ w) {ts : Array TypeId} {t ty : TypeId} {ek : EK} (ht0 : ts[0]? = some t) (hk : kindT P t ek = true) {x : AV} {v : Value} (hx : RelV G x v) {r : AV} (h : lenV ek σ x = some r) :
    ValOk w0 G σ r ((Builtin.len_ ts ty #[v]).run P w) := by
  obtain ⟨n, h', rfl⟩ : ∃ n, aLen ek σ x = some n ∧ r = .int .i64 n := by unfold lenV at h; split at h <;> simp_all
  replace h := h'
  clear h'
  unfold aLen at h
  split at h
  · simp only [kindT] at hk
    split at hk
    · rename_i hu
      obtain ⟨b, rfl, hb⟩ := hx.str_inv
      cases h
      refine ValOk.pure (u := .int .i64 b.size) hW ?_ ?_
      · simp [Builtin.len_, ht0, run_underlying hu, goInt]
      · rw [← hb, List.length_map, Array.length_toList]; exact .int _ _
    · cases hk
  · simp only [kindT] at hk
    split at hk
    · rename_i e hu
      cases hx; cases h
      exact ValOk.pure hW (by simp [Builtin.len_, ht0, run_underlying hu, goInt]) (.int _ _)
    · cases hk
  · simp only [kindT] at hk
    split at hk
    · rename_i e hu
      cases h
      have : ∃ a cap, v = .slice a n cap := by cases hx <;> exact ⟨_, _, rfl⟩
      obtain ⟨a, cap, rfl⟩ := this
      exact ValOk.pure hW (by simp [Builtin.len_, ht0, run_underlying hu, goInt]) (.int _ _)
    · cases hk
  · simp only [kindT] at hk
    split at hk
    · rename_i e hu
      cases h
      have : ∃ a cap, v = .slice a n cap := by cases hx <;> exact ⟨_, _, rfl⟩
      obtain ⟨a, cap, rfl⟩ := this
      exact ValOk.pure hW (by simp [Builtin.len_, ht0, run_underlying hu, goInt]) (.int _ _)
    · cases hk
  · simp only [kindT] at hk
    split at hk
    · rename_i a b hu
      cases hx; cases h
      exact ValOk.pure hW (by simp [Builtin.len_, ht0, run_underlying hu, goInt]) (.int _ _)
    · cases hk
  · simp only [kindT] at hk
    split at hk
    · rename_i a b hu
      cases hx with
      | mp _ b base tot hρ =>
        split at h
        · rename_i kvs bs c hl
          cases h
          obtain ⟨b', base', tot', es, h1, h2, h3, h4, h5⟩ := hW.obj _ _ hl
          rw [hρ] at h1; cases h1
          have hlen : kvs.length = es.size := by rw [h4.length]; simp
          refine ValOk.pure (u := .int .i64 es.size) hW ?_ (by rw [hlen]; exact .int _ _)
          simp [Builtin.len_, ht0, run_underlying hu, goInt, getObj_run h3]
        · cases h
    · cases hk
  · cases h

theorem foldl_set (cells : Array Value) : ∀ (vs : List Value) (off : Nat) (j : Nat) (acc : Array Value), off + j + vs.length ≤ acc.size →
    ((vs.zipIdx j).foldl (fun cs (c, j) => cs.setIfInBounds (off + j) c) acc).toList = acc.toList.take (off + j) ++ vs ++ acc.toList.drop (off + j + vs.length)
  | [], off, j, acc, h => by simp
  | v :: vs, off, j, acc, h => by
    simp only [List.zipIdx_cons, List.foldl_cons]
    simp only [List.length_cons] at h
    rw [foldl_set cells vs off (j + 1) (acc.setIfInBounds (off + j) v) (by simp; omega)]
    simp only [Array.toList_setIfInBounds, List.length_cons]
    have hl : off + j < acc.toList.length := by simp; omega
    have e1 : (acc.toList.set (off + j) v).take (off + (j + 1)) = acc.toList.take (off + j) ++ [v] := by
      rw [show off + (j + 1) = off + j + 1 from by omega, List.take_succ_eq_append_getElem (by simpa using hl), List.getElem_set_self, List.take_set_of_le (Nat.le_refl _)]
    have e2 : (acc.toList.set (off + j) v).drop (off + (j + 1) + vs.length) = acc.toList.drop (off + j + (vs.length + 1)) := by
      rw [List.drop_set_of_lt (by omega)]
      congr 1
      omega
    rw [e1, e2]
    simp

/-- The parts of a composite: what is asked of a text. -/
def partsChk : List (Nat × Operand) → (Nat → Option (Nat × Nat)) → List (Nat × Nat × AX) → Bool
  | [], _, [] => true
  | (i, o) :: ps, place, (off, size, x) :: qs => (match place i with | some (a, b) => a.beq off && b.beq size | none => false) && xChk o x && partsChk ps place qs
  | _, _, _ => false

theorem fill_run {n : Nat} {fr : Env} {a : Act} (hF : RelF G n fr a) (place : Nat → Option (Nat × Nat)) : ∀ {ps : List (Nat × Operand)} {qs : List (Nat × Nat × AX)} {z cs : List AV} {cells : Array Value}, partsChk ps place qs = true → RelL G true z cells.toList →
    fillAll fr z qs = some cs → ∃ cells', Instr.fill place cells (ps.map fun (i, x) => (i, a.eval x)) = some cells' ∧ RelL G true cs cells'.toList
  | [], [], z, cs, cells, _, hz, h => by simp [fillAll] at h; subst h; exact ⟨cells, by simp [Instr.fill], hz⟩
  | [], _ :: _, _, _, _, hc, _, _ => by simp [partsChk] at hc
  | _ :: _, [], _, _, _, hc, _, _ => by simp [partsChk] at hc
  | (i, o) :: ps, (off, size, x) :: qs, z, cs, cells, hc, hz, h => by
    simp only [partsChk, Bool.and_eq_true] at hc
    obtain ⟨⟨hp, hx⟩, hrest⟩ := hc
    split at hp
    · rename_i a' b' hpl
      simp at hp
      obtain ⟨rfl, rfl⟩ := hp
      simp only [fillAll] at h
      split at h
      · rename_i vs hvs
        split at h
        · rename_i hcond
          have hR := (xChk_rel hF hx).cellsO hvs
          have hl : (a.eval o).cells.size = b' := by rw [← hcond.1, hR.length]; simp
          have hzl : z.length = cells.size := by rw [hz.length]; simp
          obtain ⟨cells', h1, h2⟩ := fill_run hF place (cells := (a.eval o).cells.zipIdx.foldl (fun cs (c, j) => cs.setIfInBounds (a' + j) c) cells) hrest (by
            rw [← Array.foldl_toList, Array.toList_zipIdx, foldl_set cells _ a' 0 cells (by simp; omega)]
            exact hz.fill hR) h
          refine ⟨cells', ?_, h2⟩
          simp only [List.map_cons, Instr.fill, hpl]
          rw [if_neg (by simp; omega)]
          exact h1
        · cases h
      · cases h
    · cases hp
end Go.AM

import Derived.Test.YthbkgikjaiaigaaGreatAmOps10
import Derived.Laws.MakeOwn
namespace Go.AM
set_option linter.all false
open Go.RowKit
variable {P : Program} {w0 : Base} {w : World} {G : Gh} {σ : St}

theorem places_run {fs : List Field} (h : ∀ f ∈ fs, ∃ i, P.info? f.type = some i) :
    (fs.mapM (m := Sem) fun f => do pure (f.offset, ← sizeOf f.type)).run P w = .ok (fs.map fun f => (f.offset, P.cellsOf f.type)) w := by
  induction fs with
  | nil => simp
  | cons f fs ih =>
    obtain ⟨i, hi⟩ := h f (by simp)
    have := ih fun g hg => h g (by simp [hg])
    simp only [List.mapM_cons, Sem.run_bind, size_run hi, Result.andThen_ok, Sem.run_pure, this, List.map_cons]
    simp [Program.cellsOf, hi]

theorem build_ok (hW : W w0 G σ w) {n : Nat} {fr : Env} {a : Act} (hF : RelF G n fr a) {t : TypeId} {i : TypeInfo} {fs : Array Field} {zv : Value} (hi : P.info? t = some i) (hz : i.zero = some zv) (hu : P.underlying t = some (.struct fs))
    (hfs : ∀ f ∈ fs.toList, ∃ i, P.info? f.type = some i) {z cs : List AV} (hzr : RelL G true z zv.cells.toList) {ps : Array (Nat × Operand)} {qs : List (Nat × Nat × AX)}
    (hc : partsChk ps.toList (fun j => (fs.toList[j]?).map fun (f : Field) => (f.offset, P.cellsOf f.type)) qs = true) (h : fillAll fr z qs = some cs) :
    ValOk w0 G σ (.agg cs) ((Instr.build t (ps.map fun (i, x) => (i, a.eval x))).run P w) := by
  obtain ⟨cells', h1, h2⟩ := fill_run hF _ (cells := zv.cells) hc hzr h
  refine ValOk.pure (u := .agg cells') hW ?_ (.agg _ _ h2)
  have hpl := places_run (P := P) (w := w) hfs
  simp only [Instr.build, Sem.run_bind, zeroValue, typeInfo, run_program, hi, hz, Sem.run_pure, Result.andThen_ok, run_underlying hu]
  rw [Array.mapM_eq_mapM_toList]
  simp only [Sem.run_map, hpl, Result.andThen_ok]
  have e : (fun (x : Nat) => (fs.toList.map fun (f : Field) => (f.offset, P.cellsOf f.type)).toArray[x]?) = fun (j : Nat) => (fs.toList[j]?).map fun (f : Field) => (f.offset, P.cellsOf f.type) := by
    funext j; simp
  have e2 : ((ps.map fun (i, x) => (i, a.eval x)).toList) = ps.toList.map fun (i, x) => (i, a.eval x) := by simp
  rw [e, e2, h1]
  rfl

theorem rep_list (z : List Value) : ∀ n, (List.range (n * z.length)).map (fun j => z[j % z.length]!) = (List.replicate n z).flatten
  | 0 => by simp
  | n + 1 => by
    rw [Nat.succ_mul, List.range_add, List.map_append, rep_list z n, List.replicate_succ', List.flatten_append, List.map_map]
    congr 1
    simp only [List.flatten_cons, List.flatten_nil, List.append_nil]
    apply List.ext_getElem?
    intro i
    by_cases h : i < z.length
    · simp [h, Nat.mod_eq_of_lt h]
    · simp [h]

theorem rep_rel {z : List AV} {zs : List Value} (h : RelL G true z zs) : ∀ n, RelL G true (rep z n) (List.replicate n zs).flatten
  | 0 => .nil _
  | n + 1 => by simpa [rep, List.replicate_succ] using h.append (rep_rel h n)

theorem rep_length (z : List AV) : ∀ n, (rep z n).length = n * z.length
  | 0 => by simp [rep]
  | n + 1 => by simp [rep, rep_length z n, Nat.succ_mul, Nat.add_comm]

theorem fillAll_length {fr : Env} : ∀ {qs : List (Nat × Nat × AX)} {z cs : List AV}, fillAll fr z qs = some cs → cs.length = z.length
  | [], z, cs, h => by simp [fillAll] at h; rw [h]
  | (off, size, x) :: qs, z, cs, h => by
    simp only [fillAll] at h
    split at h
    · split at h
      · rename_i hc
        rw [fillAll_length h, fillAt_length (by omega)]
      · cases h
    · cases h

/-- A literal slice: fixed. -/
theorem bsl_ok (hW : W w0 G σ w) {n : Nat} {fr : Env} {a : Act} (hF : RelF G n fr a) {t e : TypeId} {i : TypeInfo} {zv : Value} (ht : P.underlying t = some (.slice e)) (hi : P.info? e = some i) (hz : i.zero = some zv) (hzl : zv.cells.size = i.size)
    {len : Nat} (hb : len * i.size ≤ 16777216) {z cs : List AV} (hzr : RelL G true z zv.cells.toList) {ps : Array (Nat × Operand)} {qs : List (Nat × Nat × AX)} {mt : Bool}
    (hc : partsChk ps.toList (fun j => some (j * i.size, i.size)) qs = true) {r : AV} {σ' : St} (h : bslS mt i.size len z fr σ qs = some (r, σ')) :
    ValOk w0 G σ' r ((Instr.buildSlice t len (ps.map fun (i, x) => (i, a.eval x))).run P w) := by
  unfold bslS at h
  split at h
  · rename_i cs hfa
    have hzlist : zv.cells.toList.length = i.size := by simpa using hzl
    have hzz : z.length = i.size := by rw [hzr.length]; exact hzlist
    obtain ⟨cells', h1, h2⟩ := fill_run hF _ (cells := (List.replicate len zv.cells.toList).flatten.toArray) hc (by simpa using rep_rel hzr len) hfa
    have hcl : cs.length = len * i.size := by rw [fillAll_length hfa, rep_length, hzz]
    have hcs : cells'.size = len * i.size := by rw [← hcl, h2.length]; simp
    have hmade : madeCells zv.cells (len * i.size) = (List.replicate len zv.cells.toList).flatten.toArray := by
      apply Array.ext'
      have := rep_list zv.cells.toList len
      rw [hzlist] at this
      simp only [madeCells, Array.toList_map, Array.toList_range, ← this, hzl]
      apply List.map_congr_left
      intro x _
      rw [getElem!_def, List.getElem!_eq_getElem?_getD, Array.getElem?_toList]
      cases zv.cells[x % i.size]? <;> rfl
    rw [← hmade] at h1
    have hrun0 : (Instr.buildSlice t len (ps.map fun (i, x) => (i, a.eval x))).run P w = .ok (.slice (some ⟨w.heap.size, 0, none⟩) len len) (w.alloc (.cells cells' e)) := by
      have hif : ¬ (len * i.size > 2 ^ 24) := by omega
      have e2 : ((ps.map fun (i, x) => (i, a.eval x)).toList) = ps.toList.map fun (i, x) => (i, a.eval x) := by simp
      have hfin : ∀ zero : Array Value, ((Array.range (len * i.size)).map fun x => zero[x % zero.size]!) = madeCells zv.cells (len * i.size) →
          (match Instr.fill (fun j => some (j * i.size, i.size)) ((Array.range (len * i.size)).map fun x => zero[x % zero.size]!) (ps.map fun (i, x) => (i, a.eval x)).toList with
          | some cells => do pure (.slice (some (← newRow e cells)) len len)
          | _ => stuck "buildSlice: a part of the wrong size" : Sem Value).run P w = .ok (.slice (some ⟨w.heap.size, 0, none⟩) len len) (w.alloc (.cells cells' e)) := by
        intro zero hz'
        rw [hz', e2, h1]
        simp [newRow]
      simp only [Instr.buildSlice, Sem.run_bind, run_underlying ht, Result.andThen_ok, size_run hi, if_neg hif, Sem.run_pure]
      by_cases h0 : len * i.size = 0
      · simp only [if_pos h0, Sem.run_bind, Sem.run_pure, Result.andThen_ok]
        exact hfin #[] (by simp [h0, madeCells, Array.range_zero'])
      · simp only [if_neg h0, Sem.run_bind, Sem.run_pure, Result.andThen_ok, zeroValue, typeInfo, run_program, hi, hz]
        exact hfin zv.cells rfl
    cases mt with
    | true =>
      simp only [if_true, Option.some.injEq, Prod.mk.injEq] at h
      obtain ⟨rfl, rfl⟩ := h
      have hfr := hW.fresh σ.next (Nat.le_refl _)
      obtain ⟨hW', hG⟩ := hW.newObj (.cells cs) (.cells cells' e) cells'.size rfl (by
        refine ⟨w.heap.size, 0, cells'.size, cells', e, by simp [Gh.addρ], hW.below.size, (heap_new w _ _).trans (if_pos rfl), rfl, ?_, ?_⟩
        · rw [Nat.zero_add, h2.length]; simp
        · rw [List.drop_zero, List.take_of_length_le (by rw [h2.length]; exact Nat.le_refl _)]
          exact h2.mono (Gle.addρ (x := (w.heap.size, 0, cells'.size)) hfr.2.1))
      refine ⟨_, _, _, hrun0, hG, hW', .ms i.size σ.next 0 len w.heap.size 0 cells'.size len (by simp [Gh.addρ]) (Nat.le_refl _) (by omega)⟩
    | false =>
      simp only [Bool.false_eq_true, if_false, Option.some.injEq, Prod.mk.injEq] at h
      obtain ⟨rfl, rfl⟩ := h
      obtain ⟨hW', hG⟩ := hW.newFix cells' e (0, 0) cells'.toList (List.prefix_refl _)
      refine ⟨_, _, _, hrun0, hG, hW', .sl i.size .exact len cs w.heap.size 0 cells'.toList cells'.size len (Nat.le_refl _) hcl (by omega) (by simp [Gh.addΓ]) ?_ rfl⟩
      rw [List.drop_zero, List.take_of_length_le (by rw [h2.length]; exact Nat.le_refl _)]
      exact h2.mono hG
  · cases h
end Go.AM

import Derived.Test.YthbkgikjaiaigaaGreatAmRow
namespace Go.AM
set_option linter.all false
open Go.RowKit
theorem cell_one {P : Program} {w : World} {r : Reach} {base : Nat} {t : TypeId} {v : Value} (h : Cell.okWide P w r base t v) : v.oneCell' = true := by
  cases v <;> first | rfl | skip
  all_goals
    unfold Cell.okWide at h
    split at h <;> try contradiction
    all_goals (unfold Cell.ok at h; split at h <;> simp_all)

theorem undefs : ∀ {vs : List Value} {n : Nat}, vs.length = n → (∀ v ∈ vs, v.oneCell' = true) → RelL Gh.empty true (List.replicate n .undef) vs
  | [], _, rfl, _ => .nil _
  | v :: vs, _, rfl, h => .cons _ _ _ _ _ (.undef _) (fun _ => h v (by simp)) (undefs rfl fun u hu => h u (by simp [hu]))

theorem struct_undef {P : Program} {w : World} {t : TypeId} {v : Value} {fs : Array Field} {n : Nat} (ht : P.underlying t = some (.struct fs)) (hn : P.cellsOf t = n) (h : Value.okWide P w .any 0 t v) :
    RelV Gh.empty (.agg (List.replicate n .undef)) v := by
  unfold Value.okWide at h
  rw [ht] at h
  obtain ⟨cs, rfl, hs, ts, _, _, hc⟩ := h
  refine .agg _ _ (undefs (by simpa [hn] using hs) fun u hu => ?_)
  obtain ⟨i, hi⟩ := List.getElem?_of_mem hu
  obtain ⟨u', _, ho⟩ := hc i u (by simpa using hi)
  exact cell_one ho
end Go.AM

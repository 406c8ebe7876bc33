import Derived.Test.YthbkgikjaiaigaaGreatAmOps12
namespace Go.AM
set_option linter.all false
open Go.RowKit
variable {P : Program} {w0 : Base} {w : World} {G : Gh} {σ : St}

theorem addΓ_same (G : Gh) (b : Nat) (x : List Value × Nat) : (G.addΓ b x).Γ b = some x := if_pos rfl
theorem addΦ_same (G : Gh) (b : Nat) (x : Nat × Nat) : (G.addΦ b x).Φ b = some x := if_pos rfl
theorem addρ_same (G : Gh) (b : Nat) (x : Nat × Nat × Nat) : (G.addρ b x).ρ b = some x := if_pos rfl

theorem made_prefix {z : Array Value} {k n c : Nat} (hk : z.size = k) (h : n ≤ c) : (List.replicate n z.toList).flatten = (madeCells z (c * k)).toList.take (n * k) := by
  have h1 := rep_list z.toList c
  have hl : z.toList.length = k := by simpa using hk
  rw [hl] at h1
  have h2 : (madeCells z (c * k)).toList = (List.replicate c z.toList).flatten := by
    rw [← h1]
    simp only [madeCells, Array.toList_map, Array.toList_range, hk]
    apply List.map_congr_left
    intro x _
    rw [getElem!_def, List.getElem!_eq_getElem?_getD, Array.getElem?_toList]
    cases z[x % k]? <;> rfl
  rw [h2]
  obtain ⟨d, rfl⟩ : ∃ d, c = n + d := ⟨c - n, by omega⟩
  rw [← List.replicate_append_replicate, List.flatten_append, List.take_append_of_le_length (by simp [hl]), List.take_of_length_le (by simp [hl])]

theorem mksl_ok (hW : W w0 G σ w) {t e : TypeId} {i : TypeInfo} {zv : Value} (ht : P.underlying t = some (.slice e)) (hi : P.info? e = some i) (hz : i.zero = some zv) (hzl : zv.cells.size = i.size) (hby : 1 ≤ i.bytes)
    {z : List AV} (hzr : RelL G true z zv.cells.toList) {x y r : AV} {xv yv : Value} {σ' : St} (hx : RelV G x xv) (hy : RelV G y yv)
    (h : mkslS i.size i.bytes z σ x y = some (r, σ')) : ValOk w0 G σ' r ((Instr.makeSlice t xv yv).run P w) := by
  unfold mkslS at h
  split at h
  · rename_i n c hn hc
    split at h
    · rename_i hcond
      obtain ⟨hle, hb⟩ := hcond
      obtain ⟨k1, rfl⟩ := asNat_inv hx hn
      obtain ⟨k2, rfl⟩ := asNat_inv hy hc
      have hbc : c ≤ room := by have := Nat.mul_le_mul_left c hby; omega
      have hb' : (i.bytes : Int) * (c : Int) ≤ 281474976710656 := by
        have h1 : i.bytes * c ≤ 1099511627776 := by rw [Nat.mul_comm]; exact hb
        have h2 : ((i.bytes * c : Nat) : Int) ≤ ((1099511627776 : Nat) : Int) := Int.ofNat_le.2 h1
        rw [Int.natCast_mul] at h2
        omega
      have hrun := run_make (P := P) w t e i zv ht hi hz k1 k2 (n : Int) (c : Int) (by omega) (by omega) hb' (by unfold room at hbc; omega)
      simp only [Int.toNat_natCast] at hrun
      have hsz : (madeCells zv.cells (c * i.size)).size = c * i.size := size_madeCells _ _
      split at h
      · rename_i h0
        subst h0
        cases h
        obtain ⟨hW1, hG1⟩ := hW.newFix (madeCells zv.cells (c * i.size)) e (0, 0) [] (List.nil_prefix)
        obtain ⟨hW2, hG2⟩ := hW1.newFam w.heap.size 0 [] (madeCells zv.cells (c * i.size)).size (madeCells zv.cells (c * i.size)) e (addΓ_same _ _ _) hW.below.size ((heap_new w _ _).trans (if_pos rfl)) (fun l o hl hb => by
          obtain ⟨b', hb', hlt, _⟩ := hW.blk_lt hl
          have : blk G l o = some w.heap.size := by rw [← hb]; cases o <;> rfl
          rw [this] at hb'; cases hb'; omega)
        refine ⟨_, _, _, hrun, hG1.trans hG2, hW2, ?_⟩
        refine .sl _ _ _ _ w.heap.size 0 [] (madeCells zv.cells (c * i.size)).size c (Nat.zero_le _) (by simp) (by rw [hsz]; omega) (addΓ_same _ _ _) (by simpa using RelL.nil true) ?_
        exact ⟨0, w.heap.size, addΦ_same _ _ _, Nat.le_refl _, fun _ => ⟨rfl, by show 0 = 0 + 0 * i.size; omega⟩⟩
      · rename_i h0
        cases h
        have hfr := hW.fresh σ.next (Nat.le_refl _)
        have hzz : z.length = i.size := by rw [hzr.length]; simpa using hzl
        have hrl : (rep z n).length = n * i.size := by rw [rep_length, hzz]
        have hle' : n * i.size ≤ c * i.size := Nat.mul_le_mul_right _ hle
        obtain ⟨hW', hG⟩ := hW.newObj (.cells (rep z n)) (.cells (madeCells zv.cells (c * i.size)) e) (madeCells zv.cells (c * i.size)).size rfl (by
          refine ⟨w.heap.size, 0, _, _, e, addρ_same _ _ _, hW.below.size, (heap_new w _ _).trans (if_pos rfl), rfl, by rw [hsz, hrl]; omega, ?_⟩
          rw [List.drop_zero, hrl, ← made_prefix hzl hle]
          exact (rep_rel hzr n).mono (Gle.addρ (x := (w.heap.size, 0, (madeCells zv.cells (c * i.size)).size)) hfr.2.1))
        exact ⟨_, _, _, hrun, hG, hW', .ms _ _ _ _ w.heap.size 0 _ c (addρ_same _ _ _) hle (by rw [hsz]; omega)⟩
    · cases h
  · cases h
end Go.AM

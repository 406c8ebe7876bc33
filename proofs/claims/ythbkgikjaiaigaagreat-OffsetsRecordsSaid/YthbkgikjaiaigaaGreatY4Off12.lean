import Derived.Test.YthbkgikjaiaigaaGreatY4Off11
namespace Go.AM.P
set_option linter.all false
open Go.AM
set_option linter.all false
variable {P : Program} {σ : St} {K : AV → St → Prop}

theorem str_cut {s : List Nat} {n : Nat} (h : n ≤ s.length) : sslcV (.str s) .none (some (.int .i64 (n : Nat))) = some (.str (s.take n)) := by
  show (if 0 ≤ ((n : Nat) : Int).toNat ∧ ((n : Nat) : Int).toNat ≤ s.length then some (AV.str ((s.drop 0).take (((n : Nat) : Int).toNat - 0))) else none) = _
  rw [if_pos (by simpa using h)]
  simp

theorem j1_ok (H : Has P tab) (hA : Awake P N.towpathlaw14_awake) {l c : Nat} {p o m g t : Int} {key val : List Nat} {gone : Bool} {t2 : Int} (hk : ∀ c ∈ key, c < 256) (hv : ∀ c ∈ val, c < 256)
    (hc : σ.get c = some (.cells (c4 p o m g))) (hct : c < σ.next)
    (hg : σ.get l = some (.cells [.str key, .str val, .bool gone, .int .i64 t2])) (hlt : l < σ.next) (hcl : c ≠ l) (hK : ∀ σ', K (.bool true) σ') :
    j_towpathlaw14_OffsetsRecords_1 P K (.int .i64 t) (.ptr c 0) (.ptr l 0) σ := by
  rw [j_towpathlaw14_OffsetsRecords_1_eq]
  have l1 : load1V σ (.ptr l 1) = some (.str val) := load1_ptr hg rfl
  have e1 : lenV .str σ (.str val) = some (.int .i64 val.length) := rfl
  rw [faddr_ptr, valW_some, l1, valW_some, e1, valW_some, int_gtr, valW_some]
  rw [condW_dec]
  refine ⟨fun h => ?_, fun h => ?_⟩
  · have e3 : sslcV (.str val) .none (some (.int .i64 60)) = some (.str (val.take 60)) := str_cut (n := 60) (by omega)
    have e4 : storeS 1 σ (.ptr l 1) (.str (val.take 60)) = some (σ.put l (.cells [.str key, .str (val.take 60), .bool gone, .int .i64 t2])) := store1_ptr hg rfl (by simp)
    rw [valW_some, l1, valW_some, e3, valW_some, valW_some, e4, stW_some]
    refine j2_ok (p := p) (o := o) (m := m) (g := g) H hA hk (fun x hx => hv x (List.mem_of_mem_take hx)) (by simp; omega) ?_ hct (get_put_same _ _ _) hlt hK
    rw [St.get_put, if_neg (fun e => hcl e.symm)]; exact hc
  · exact j2_ok H hA hk hv (by omega) hc hct hg hlt hK

theorem law_ok (H : Has P tab) (hA : Awake P N.towpathlaw14_awake) {p o m g t : Int} {key val : List Nat} {gone : Bool} {t2 : Int} (hk : ∀ c ∈ key, c < 256) (hv : ∀ c ∈ val, c < 256) (hK : ∀ σ', K (.bool true) σ') :
    Ret P N.towpathlaw14_OffsetsRecords [.agg (c4 p o m g), .int .i64 t, .agg [.str key, .str val, .bool gone, .int .i64 t2]] σ K := by
  refine r_towpathlaw14_OffsetsRecords H ?_
  rw [w_towpathlaw14_OffsetsRecords_eq, cells_agg, csW_some, newW_eq, cells_agg, csW_some, newW_eq]
  obtain ⟨s2, hs2⟩ : ∃ s2, (σ.new (.cells (c4 p o m g))).new (.cells [.str key, .str val, .bool gone, .int .i64 t2]) = s2 := ⟨_, rfl⟩
  have hn : s2.next = σ.next + 2 := by rw [← hs2]; rfl
  have g1 : s2.get σ.next = some (.cells (c4 p o m g)) := by rw [← hs2]; simp [St.get_new]
  have g2 : s2.get (σ.next + 1) = some (.cells [.str key, .str val, .bool gone, .int .i64 t2]) := by rw [← hs2]; simp [St.get_new]
  have e8 : (σ.new (.cells (c4 p o m g))).next = σ.next + 1 := rfl
  have l1 : load1V s2 (.ptr (σ.next + 1) 0) = some (.str key) := load1_ptr g2 rfl
  have e1 : lenV .str s2 (.str key) = some (.int .i64 key.length) := rfl
  rw [hs2, e8]
  rw [faddr_ptr, valW_some, l1, valW_some, e1, valW_some, int_gtr, valW_some]
  rw [condW_dec]
  refine ⟨fun h => ?_, fun h => ?_⟩
  · have e3 : sslcV (.str key) .none (some (.int .i64 40)) = some (.str (key.take 40)) := str_cut (n := 40) (by omega)
    have e4 : storeS 1 s2 (.ptr (σ.next + 1) 0) (.str (key.take 40)) = some (s2.put (σ.next + 1) (.cells [.str (key.take 40), .str val, .bool gone, .int .i64 t2])) := store1_ptr g2 rfl (by simp)
    rw [valW_some, l1, valW_some, e3, valW_some, valW_some, e4, stW_some]
    refine j1_ok (p := p) (o := o) (m := m) (g := g) H hA (fun x hx => hk x (List.mem_of_mem_take hx)) hv ?_ ?_ (get_put_same _ _ _) ?_ (by omega) hK
    · rw [St.get_put, if_neg (by omega)]; exact g1
    · simp only [St.next_put]; omega
    · simp only [St.next_put]; omega
  · exact j1_ok H hA hk hv g1 (by omega) g2 (by omega) (by omega) hK
end Go.AM.P

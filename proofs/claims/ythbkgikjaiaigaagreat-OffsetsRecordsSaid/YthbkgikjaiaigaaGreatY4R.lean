import Derived.Test.YthbkgikjaiaigaaGreatY4A
import Derived.Test.YthbkgikjaiaigaaGreatY4Off12
namespace Go.AM.P
set_option linter.all false
open Go Go.Proofs Go.AM

open Classical in
/-- Calls that are known to answer true. -/
noncomputable def calls : Calls' := fun f args σ => if h : ∃ σ', CallOk Tryz.prog f args σ (.bool true) σ' then some (.bool true, Classical.choose h) else none
theorem calls_sound : SoundC Tryz.prog calls := by
  intro f args σ r σ' h
  unfold calls at h
  split at h
  · rename_i hx
    cases h
    exact Classical.choose_spec hx
  · cases h
theorem calls_true {f : FuncId} {args : List AV} (h : Ret Tryz.prog f args St.empty fun r _ => r = .bool true) : isTrue (calls f args St.empty) = true := by
  obtain ⟨r, σ', h1, rfl⟩ := h
  unfold calls
  rw [dif_pos ⟨σ', h1⟩]
  rfl
theorem awake : Awake Tryz.prog N.towpathlaw14_awake := fun σ => closed_any calls0_sound awake_true σ
theorem nil_true (p o m g t : Int) {key val : List Nat} (hk : ∀ c ∈ key, c < 256) (hv : ∀ c ∈ val, c < 256) (gone : Bool) (t2 : Int) :
    isTrue (calls N.towpathlaw14_OffsetsRecords [.agg [.int .i64 p, .int .i64 o, .int .i64 m, .int .i64 g], .int .i64 t, .agg [.str key, .str val, .bool gone, .int .i64 t2]] St.empty) = true :=
  calls_true (law_ok has awake hk hv fun _ => rfl)
end Go.AM.P

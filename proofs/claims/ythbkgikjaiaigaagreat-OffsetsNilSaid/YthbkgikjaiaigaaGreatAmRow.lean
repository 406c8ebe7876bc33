import Derived.Test.YthbkgikjaiaigaaGreatAmRng
namespace Go.AM
set_option linter.all false
open Go.RowKit

def Gh.empty : Gh := ⟨fun _ => none, fun _ => none, fun _ => none⟩
def St.empty : St := ⟨0, .leaf⟩

theorem W.start (w : World) : W ⟨w, []⟩ Gh.empty St.empty w where
  below := Below.refl _ _
  obj l o h := by simp [St.empty, St.get, Trie.get] at h
  arr b pre tot h := by cases h
  sep l l' o o' b h := by simp [St.empty, St.get, Trie.get] at h
  sepΓ l o b h := by simp [St.empty, St.get, Trie.get] at h
  fresh l _ := ⟨rfl, rfl, rfl⟩
  room b x h := by cases h
  roomΦ l e b h := by cases h
  famLive l e b h := by cases h
  hid b ob h := by cases h

def isTrue : Option (AV × St) → Bool
  | some (.bool true, _) => true
  | _ => false

theorem isTrue_inv {x : Option (AV × St)} (h : isTrue x = true) : ∃ σ, x = some (.bool true, σ) := by
  unfold isTrue at h
  split at h
  · exact ⟨_, rfl⟩
  · cases h

/-- A run that needs nothing of the heap. -/
theorem closed_walk {P : Program} {calls : Calls'} (hC : SoundC P calls) {f : FuncId} {args : List AV} (h : isTrue (calls f args St.empty) = true) {vs : Array Value} (hargs : RelL Gh.empty false args vs.toList) (w : World) :
    Calls P f vs w fun e w' => e = .returned (.bool true) ∧ Below w.heap.size w w' := by
  obtain ⟨σ', hr⟩ := isTrue_inv h
  refine ((hC f args St.empty _ σ' hr).2 ⟨w, []⟩ Gh.empty w vs (W.start w) hargs).mono ?_
  rintro e w' ⟨v, G', rfl, _, hW, hv⟩
  exact ⟨by rw [hv.bool_inv], hW.below⟩

end Go.AM

import Derived.Test.YthbkgikjaiaigaaGreatY6A
namespace Go.AM.P
set_option linter.all false
open Go Go.Proofs Go.AM

def shortS (s : List Nat) : List Nat := if (s.length : Int) > 12 then s.take 12 else s

theorem short_ret (s : List Nat) (σ : St) : Ret Tryz.prog N.towpathlaw13_short [.str s] σ fun r σ' => r = .str (shortS s) ∧ σ' = σ := by
  refine r_towpathlaw13_short has ?_
  rw [w_towpathlaw13_short_eq]
  have e1 : lenV .str σ (.str s) = some (.int .i64 s.length) := rfl
  have e2 : aBin .gtr .num (.int .i64 s.length) (.int .i64 12) = some (.bool (decide ((s.length : Int) > 12))) := rfl
  rw [e1, valW_some, e2, valW_some]
  by_cases h : (s.length : Int) > 12
  · rw [decide_eq_true h, condW_true]
    have hl : 12 ≤ s.length := by omega
    have e3 : sslcV (.str s) .none (some (.int .i64 12)) = some (.str (s.take 12)) := by
      show (if 0 ≤ (12 : Int).toNat ∧ (12 : Int).toNat ≤ s.length then some (AV.str ((s.drop 0).take ((12 : Int).toNat - 0))) else none) = _
      rw [if_pos (by simpa using hl)]
      simp
    rw [e3, valW_some]
    exact ⟨by rw [shortS, if_pos h], rfl⟩
  · rw [decide_eq_false h, condW_false]
    exact ⟨by rw [shortS, if_neg h], rfl⟩

def shortI : Intr := fun _ args σ => match args with
  | [.str s] => some (.str (shortS s), σ)
  | _ => .none

theorem short_ok : IntrOk Tryz.prog N.towpathlaw13_short shortI := by
  intro calls _ args σ r σ' h
  unfold shortI at h
  split at h
  · rename_i s
    cases h
    obtain ⟨r, σ', h1, rfl, rfl⟩ := short_ret s σ
    exact h1
  · cases h

def intr : Trie Intr := Trie.set (Trie.set .leaf N.towpathlaw13_short (some shortI)) N.towpathlaw13_awake (some trueI)
theorem intr_ok : TAll (IntrOk Tryz.prog) intr := intr_set (intr_set (t := .leaf) (show TAll (IntrOk Tryz.prog) .leaf from trivial) short_ok) (trueI_ok calls0_sound awake_true)
def calls : Calls' := callD intr tab 1000 200
theorem calls_sound : SoundC Tryz.prog calls := callD_sound intr_ok tab_ok 200
theorem nil_true (s : List Nat) (n : Int) : isTrue (calls N.towpathlaw13_LedgerNil [.str s, .int .i64 n] St.empty) = true := by kernel_rfl
end Go.AM.P

import Derived.Test.YthbkgikjaiaigaaGreatAmCode
namespace Go.AM
set_option linter.all false
open Go.RowKit
variable {P : Program} {w0 : Base} {w : World} {G : Gh} {σ : St}

theorem initFr_at : ∀ (vs : List AV) (i : Nat) (fr : Fr) (t : Nat), (initFr i vs fr).at t = if i ≤ t ∧ t < i + vs.length then vs.getD (t - i) .undef else fr.at t
  | [], i, fr, t => by
    simp only [initFr, List.length_nil, Nat.add_zero]
    rw [if_neg]; omega
  | v :: r, i, fr, t => by
    simp only [initFr]
    rw [initFr_at r (i + 1) (fr.put i v) t, Fr.at_put]
    simp only [List.length_cons]
    by_cases h1 : i + 1 ≤ t ∧ t < i + 1 + r.length
    · rw [if_pos h1, if_pos (by omega), show t - i = (t - (i + 1)) + 1 by omega]
      simp
    · rw [if_neg h1]
      by_cases h2 : i = t
      · subst h2
        rw [if_pos rfl, if_pos (by omega)]
        simp
      · rw [if_neg h2, if_neg (by omega)]

theorem RelL.at {b : Bool} : ∀ {cs : List AV} {vs : List Value}, RelL G b cs vs → ∀ t, RelV G (cs.getD t .undef) (vs.getD t Go.undef)
  | [], _, .nil _, t => by simpa using RelV.undef _
  | c :: cs, _, .cons _ _ v _ vs hv _ hvs, 0 => by simpa using hv
  | c :: cs, _, .cons _ _ v _ vs hv _ hvs, t + 1 => by simpa using hvs.at t

def AF.exec (F : AF) (calls : Calls') (k : Nat) (args : List AV) (σ : St) : Option (AV × St) :=
  if Nat.ble args.length F.ntmps then F.run calls k args σ else .none

theorem init_rel {G : Gh} {args : List AV} {vs : Array Value} {n m : Nat} (hargs : RelL G false args vs.toList) (h1 : m = n) (hle : args.length ≤ n) :
    RelF G n (initFr 0 args .leaf).at { tmps := vs ++ Array.replicate (m - vs.size) Go.undef, defers := [] } := by
  have hlen : args.length = vs.size := by simpa using hargs.length
  refine ⟨by simp; omega, fun t => ?_⟩
  rw [initFr_at]
  have hat := hargs.at t
  by_cases ht : t < args.length
  · rw [if_pos (by omega)]
    simp only [Nat.sub_zero]
    have e : (vs ++ Array.replicate (m - vs.size) Go.undef).getD t Go.undef = vs.toList.getD t Go.undef := by
      have ht' : t < vs.size := by omega
      simp only [Array.getD_eq_getD_getElem?, List.getD_eq_getElem?_getD, Array.getElem?_append, ht', if_true, Array.getElem?_toList]
    rw [e]; exact hat
  · rw [if_neg (by omega)]
    have e : (vs ++ Array.replicate (m - vs.size) Go.undef).getD t Go.undef = Go.undef := by
      have ht' : ¬ t < vs.size := by omega
      simp only [Array.getD_eq_getD_getElem?, Array.getElem?_append, ht', if_false]
      by_cases hh : t - vs.size < m - vs.size
      · simp [hh]
      · simp [hh]
    rw [e]
    have : (Fr.at Trie.leaf t) = .undef := rfl
    rw [this]
    exact RelV.undef _

theorem fn_ok {calls : Calls'} (hC : SoundC P calls) {f : FuncId} {fn : Func} {F : AF} {k : Nat} (hf : P.funcs[f]? = some fn) (hcall : ∀ vs w, (callFunc f vs).run P w = .ok (.enter f vs) w)
    (hc : fnChk P fn F = true) {args : List AV} {r : AV} {σ' : St} (h : F.exec calls k args σ = some (r, σ')) : CallOk P f args σ r σ' := by
  refine ⟨hcall, fun w0 G w vs hW hargs => ?_⟩
  unfold AF.exec at h
  split at h
  · rename_i hle
    have hle := Nat.le_of_ble_eq_true hle
    unfold fnChk at hc
    split at hc
    · rename_i c hb
      simp only [Bool.and_eq_true, Nat.beq_eq] at hc
      obtain ⟨h1, h2, h3⟩ := hc
      have hF := init_rel hargs h1 hle
      unfold AF.run at h
      refine calls_of_wp hf hb ?_
      split at h
      · rename_i fr σ1 h4
        split at h
        · rename_i v h5
          cases h
          refine exec_ok hC F.body c h3 w0 G σ w _ _ _ _ _ _ h4 hW hF fun a' w' G' hd hG hW' hF' => ?_
          obtain ⟨u, hr, hv⟩ := results_ok hW' hF' h2 h5
          exact ⟨hd, u, hr, u, G', rfl, hG, hW', hv⟩
        · cases h
      · rename_i fr σ1 h4
        split at h
        · rename_i v h5
          cases h
          refine exec_ok hC F.body c h3 w0 G σ w _ _ _ _ _ _ h4 hW hF fun a' w' G' hd hG hW' hF' => ?_
          obtain ⟨u, hr, hv⟩ := results_ok hW' hF' h2 h5
          exact ⟨hd, u, hr, u, G', rfl, hG, hW', hv⟩
        · cases h
      · cases h
    · cases hc
  · cases h

/-- Every entry of a trie. -/
def TAll {α : Type} (p : Nat → α → Prop) : Trie α → Prop
  | .leaf => True
  | .node l v r => (match v with | some x => p 0 x | .none => True) ∧ (TAll (fun m => p (2 * m + 1)) l ∧ TAll (fun m => p (2 * m + 2)) r)

theorem TAll.get {α : Type} : ∀ {t : Trie α} {p : Nat → α → Prop}, TAll p t → ∀ n x, t.get n = some x → p n x
  | .leaf, _, _, _, _, h => by simp [Trie.get] at h
  | .node l v r, p, hp, n, x, h => by
    obtain ⟨h1, h2, h3⟩ := hp
    cases n with
    | zero =>
      simp only [Trie.get] at h
      subst h; exact h1
    | succ m =>
      simp only [Trie.get] at h
      cases hb : (m % 2).beq 0 with
      | true =>
        rw [hb] at h
        have := h2.get (m / 2) x h
        have hm : m % 2 = 0 := Nat.eq_of_beq_eq_true hb
        rwa [show 2 * (m / 2) + 1 = m + 1 by omega] at this
      | false =>
        rw [hb] at h
        have := h3.get (m / 2) x h
        have hm : m % 2 ≠ 0 := fun h => by rw [h] at hb; cases hb
        rwa [show 2 * (m / 2) + 2 = m + 1 by omega] at this

/-- A function of the program and its abstract form. -/
def EntOk (P : Program) (f : Nat) (F : AF) : Prop :=
  ∃ fn, P.funcs[f]? = some fn ∧ (∀ vs w, (callFunc f vs).run P w = .ok (.enter f vs) w) ∧ fnChk P fn F = true

abbrev Intr := Calls' → List AV → St → Option (AV × St)

/-- A summary of a function. -/
def IntrOk (P : Program) (f : Nat) (g : Intr) : Prop :=
  ∀ calls, SoundC P calls → ∀ args σ r σ', g calls args σ = some (r, σ') → CallOk P f args σ r σ'

def callD (intr : Trie Intr) (tab : Trie AF) (k : Nat) : Nat → Calls'
  | 0, _, _, _ => .none
  | d + 1, f, args, σ => match intr.get f with
    | some g => g (callD intr tab k d) args σ
    | .none => match tab.get f with
      | some F => F.exec (callD intr tab k d) k args σ
      | .none => .none

theorem callD_sound {intr : Trie Intr} {tab : Trie AF} {k : Nat} (hI : TAll (IntrOk P) intr) (hT : TAll (EntOk P) tab) : ∀ d, SoundC P (callD intr tab k d)
  | 0 => fun f args σ r σ' h => by simp [callD] at h
  | d + 1 => fun f args σ r σ' h => by
    simp only [callD] at h
    split at h
    · rename_i g hg
      exact hI.get f g hg _ (callD_sound hI hT d) args σ r σ' h
    · split at h
      · rename_i F hF
        obtain ⟨fn, h1, h2, h3⟩ := hT.get f F hF
        exact fn_ok (callD_sound hI hT d) h1 h2 h3 h
      · cases h
end Go.AM

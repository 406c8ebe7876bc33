import Derived.Test.YthbkgikjaiaigaaGreatY4Off6
namespace Go.AM.P
set_option linter.all false
open Go.AM
set_option linter.all false
variable {P : Program} {σ : St} {K : AV → St → Prop}

theorem rdu_uv (n : Nat) : ∀ (i acc : Nat) (rest : List Nat), n * 128 ^ i < 18446744073709551616 → (0 < i → 0 < n) → rdu i acc (uv n ++ rest) = some (acc + n * 128 ^ i, i + (uv n).length) := by
  induction n using Nat.strongRecOn with
  | _ n ih =>
    intro i acc rest hn h0
    have hi : n = 0 ∨ i ≤ 9 := by
      by_cases h : n = 0
      · exact .inl h
      · refine .inr ?_
        by_cases h9 : i ≤ 9
        · exact h9
        · have h1 : (128 : Nat) ^ 10 ≤ 128 ^ i := Nat.pow_le_pow_right (by omega) (by omega)
          have h2 : (128 : Nat) ^ 10 = 1180591620717411303424 := by decide
          have h3 : 1 * 128 ^ i ≤ n * 128 ^ i := Nat.mul_le_mul_right _ (by omega)
          omega
    have hi9 : i = 9 → n ≤ 1 := by
      intro h
      subst h
      have h2 : (128 : Nat) ^ 9 = 9223372036854775808 := by decide
      rw [h2] at hn
      omega
    by_cases h : n < 128
    · rw [uv_small h]
      simp only [List.cons_append, List.nil_append, rdu, List.length_cons, List.length_nil]
      rw [if_neg (by omega), if_neg (by omega), if_neg (by omega), if_neg (by omega)]
    · rw [uv_big h]
      have hc : (n % 128 + 128) % 128 = n % 128 := by omega
      have hlt : i ≠ 9 := by omega
      simp only [List.cons_append, rdu, List.length_cons, hc]
      rw [if_neg (by omega), if_neg (by omega), if_pos (by omega)]
      have e : n * 128 ^ i = n % 128 * 128 ^ i + n / 128 * 128 ^ (i + 1) := by
        have h1 : n = n % 128 + n / 128 * 128 := by omega
        conv => lhs; rw [h1]
        rw [Nat.add_mul, Nat.pow_succ, Nat.mul_assoc, Nat.mul_comm 128]
      rw [ih (n / 128) (by omega) (i + 1) _ rest (by omega) (by omega)]
      congr 1
      rw [Prod.mk.injEq]
      exact ⟨by omega, by omega⟩

theorem rdu_inv : ∀ (bs : List Nat) (i acc n k : Nat), (∀ c ∈ bs, c < 256) → rdu i acc bs = some (n, k) → ∃ x, n = acc + x * 128 ^ i ∧ i ≤ k ∧ bs.take (k - i) = uv x ∧ (0 < i → 0 < x)
  | [], _, _, _, _, _, h => by cases h
  | c :: r, i, acc, n, k, hb, h => by
    have hc := hb c (by simp)
    have hle := rdu_le _ i acc n k h
    simp only [rdu] at h
    split at h
    · cases h
    · split at h
      · cases h
      · split at h
        · rename_i h128
          obtain ⟨x, e1, e2, e3, e4⟩ := rdu_inv r (i + 1) _ n k (fun y hy => hb y (by simp [hy])) h
          refine ⟨c % 128 + 128 * x, ?_, by omega, ?_, fun _ => by omega⟩
          · rw [e1, Nat.pow_succ, Nat.add_mul, Nat.add_assoc]
            congr 2
            rw [Nat.mul_comm (128 ^ i) 128, ← Nat.mul_assoc, Nat.mul_comm x 128]
          · have hx := e4 (by omega)
            rw [uv_big (by omega)]
            have e5 : k - i = (k - (i + 1)) + 1 := by omega
            rw [e5, List.take_succ_cons, e3]
            have e6 : (c % 128 + 128 * x) % 128 + 128 = c := by omega
            have e7 : (c % 128 + 128 * x) / 128 = x := by omega
            rw [e6, e7]
        · split at h
          · cases h
          · cases h
            refine ⟨c, rfl, by omega, ?_, fun _ => by omega⟩
            rw [uv_small (by omega)]
            have : i + 1 - i = 1 := by omega
            rw [this]; rfl

def Good (key val : List Nat) (gone : Bool) (p o m g : Nat) : Prop := p ≤ 255 ∧ o ≤ 1099511627776 ∧ m ≤ 64 ∧ g ≤ 2147483647 ∧ key = keyS p ∧ val = uv o ++ (uv m ++ uv g) ∧ gone = false

theorem uv_cons {o o' : Nat} {x x' : List Nat} (ho : o < 18446744073709551616) (ho' : o' < 18446744073709551616) (h : uv o ++ x = uv o' ++ x') : o = o' ∧ x = x' := by
  have h1 := rdu_uv o 0 0 x (by omega) (by omega)
  have h2 := rdu_uv o' 0 0 x' (by omega) (by omega)
  rw [h, h2] at h1
  simp only [Nat.pow_zero, Nat.mul_one, Nat.zero_add, Option.some.injEq, Prod.mk.injEq] at h1
  obtain ⟨rfl, h1⟩ := h1
  exact ⟨rfl, List.append_cancel_left h⟩

theorem keyS_inj {p q : Nat} (hp : p ≤ 999) (hq : q ≤ 999) (h : keyS p = keyS q) : p = q := by
  simp only [keyS, List.cons.injEq, and_true, true_and] at h
  omega

theorem Good.unique {key val : List Nat} {gone : Bool} {p o m g p' o' m' g' : Nat} (h : Good key val gone p o m g) (h' : Good key val gone p' o' m' g') : p = p' ∧ o = o' ∧ m = m' ∧ g = g' := by
  obtain ⟨a1, a2, a3, a4, a5, a6, a7⟩ := h
  obtain ⟨b1, b2, b3, b4, b5, b6, b7⟩ := h'
  have hp := keyS_inj (by omega) (by omega) (a5.symm.trans b5)
  obtain ⟨ho, hx⟩ := uv_cons (by omega) (by omega) (a6.symm.trans b6)
  obtain ⟨hm, hy⟩ := uv_cons (by omega) (by omega) hx
  have hz : uv g ++ [] = uv g' ++ [] := by simpa using hy
  obtain ⟨hg, _⟩ := uv_cons (by omega) (by omega) hz
  exact ⟨hp, ho, hm, hg⟩

/-- What a reader that read three numbers has seen. -/
theorem three {val : List Nat} (hb : ∀ c ∈ val, c < 256) {o m g k1 k2 k3 : Nat} (h1 : rdu 0 0 val = some (o, k1)) (h2 : rdu 0 0 (val.drop k1) = some (m, k2)) (h3 : rdu 0 0 (val.drop (k1 + k2)) = some (g, k3)) (hl : k1 + k2 + k3 = val.length) :
    val = uv o ++ (uv m ++ uv g) := by
  have hd1 : ∀ c ∈ val.drop k1, c < 256 := fun c hc => hb c (List.mem_of_mem_drop hc)
  have hd2 : ∀ c ∈ val.drop (k1 + k2), c < 256 := fun c hc => hb c (List.mem_of_mem_drop hc)
  obtain ⟨x, e1, _, e2, _⟩ := rdu_inv _ _ _ _ _ hb h1
  obtain ⟨y, f1, _, f2, _⟩ := rdu_inv _ _ _ _ _ hd1 h2
  obtain ⟨z, g1, _, g2, _⟩ := rdu_inv _ _ _ _ _ hd2 h3
  simp only [Nat.pow_zero, Nat.mul_one, Nat.zero_add, Nat.sub_zero] at e1 e2 f1 f2 g1 g2
  subst e1 f1 g1
  rw [← e2, ← f2, ← g2]
  have t3 : (val.drop (k1 + k2)).take k3 = val.drop (k1 + k2) := List.take_of_length_le (by rw [List.length_drop]; omega)
  rw [t3]
  have t2 : (val.drop k1).take k2 ++ val.drop (k1 + k2) = val.drop k1 := by
    rw [← List.drop_drop, List.take_append_drop]
  rw [t2, List.take_append_drop]

theorem three_of {o m g : Nat} (ho : o < 18446744073709551616) (hm : m < 18446744073709551616) (hg : g < 18446744073709551616) :
    rdu 0 0 (uv o ++ (uv m ++ uv g)) = some (o, (uv o).length) ∧ rdu 0 0 ((uv o ++ (uv m ++ uv g)).drop (uv o).length) = some (m, (uv m).length) ∧
    rdu 0 0 ((uv o ++ (uv m ++ uv g)).drop ((uv o).length + (uv m).length)) = some (g, (uv g).length) := by
  have h1 := rdu_uv o 0 0 (uv m ++ uv g) (by omega) (by omega)
  have h2 := rdu_uv m 0 0 (uv g) (by omega) (by omega)
  have h3 := rdu_uv g 0 0 [] (by omega) (by omega)
  simp only [Nat.pow_zero, Nat.mul_one, Nat.zero_add, List.append_nil] at h1 h2 h3
  refine ⟨h1, ?_, ?_⟩
  · rw [List.drop_left]; exact h2
  · rw [← List.drop_drop, List.drop_left, List.drop_left]; exact h3
end Go.AM.P

import Derived.Test.YthbkgikjaiaigaaGreatAmRel
namespace Go.AM
set_option linter.all false

namespace Trie
variable {α : Type}
theorem get_setF_same : ∀ (f n : Nat) (t : Trie α) (x : Option α), n < f → (setF f t n x).get n = x
  | 0, _, _, _, h => absurd h (by omega)
  | f + 1, 0, t, x, _ => by simp [setF, get]
  | f + 1, m + 1, t, x, h => by
    simp only [setF]
    cases hb : (m % 2).beq 0
    · simp only [cond_false, get, hb]; exact get_setF_same f (m / 2) _ x (by omega)
    · simp only [cond_true, get, hb]; exact get_setF_same f (m / 2) _ x (by omega)

theorem get_left (t : Trie α) (n : Nat) : t.left.get n = t.get (2 * n + 1) := by
  cases t with
  | leaf => rfl
  | node l v r =>
    simp only [left, get]
    have h1 : (2 * n % 2).beq 0 = true := by simp
    have h2 : 2 * n / 2 = n := by omega
    simp [h2]

theorem get_right (t : Trie α) (n : Nat) : t.right.get n = t.get (2 * n + 2) := by
  cases t with
  | leaf => rfl
  | node l v r =>
    simp only [right, get]
    have h1 : ((2 * n + 1) % 2).beq 0 = false := by
      have : (2 * n + 1) % 2 = 1 := by omega
      rw [this]; rfl
    have h2 : (2 * n + 1) / 2 = n := by omega
    rw [h1, h2]; rfl

theorem get_val (t : Trie α) : t.val = t.get 0 := by cases t <;> rfl

theorem get_setF_ne : ∀ (f n k : Nat) (t : Trie α) (x : Option α), n ≠ k → (setF f t n x).get k = t.get k
  | 0, _, _, _, _, _ => rfl
  | f + 1, 0, 0, t, x, h => absurd rfl h
  | f + 1, 0, k + 1, t, x, h => by
    simp only [setF, get]
    cases hb : (k % 2).beq 0
    · simp only [cond_false]; rw [get_right]
      have : k % 2 ≠ 0 := by intro e; rw [e] at hb; simp at hb
      congr 1; omega
    · simp only [cond_true]; rw [get_left]
      have : k % 2 = 0 := by simpa using hb
      congr 1; omega
  | f + 1, m + 1, 0, t, x, h => by
    simp only [setF]
    cases hb : (m % 2).beq 0 <;> simp [get, get_val]
  | f + 1, m + 1, k + 1, t, x, h => by
    simp only [setF]
    cases hb : (m % 2).beq 0 <;> cases hk : (k % 2).beq 0 <;> simp only [cond_true, cond_false, get, hk]
    · rw [get_setF_ne f (m / 2) (k / 2) _ x (by
        have : m % 2 ≠ 0 := by intro e; rw [e] at hb; simp at hb
        have : k % 2 ≠ 0 := by intro e; rw [e] at hk; simp at hk
        omega), get_right]
      have : k % 2 ≠ 0 := by intro e; rw [e] at hk; simp at hk
      congr 1; omega
    · rw [get_left]
      have : k % 2 = 0 := by simpa using hk
      congr 1; omega
    · rw [get_right]
      have : k % 2 ≠ 0 := by intro e; rw [e] at hk; simp at hk
      congr 1; omega
    · rw [get_setF_ne f (m / 2) (k / 2) _ x (by
        have : m % 2 = 0 := by simpa using hb
        have : k % 2 = 0 := by simpa using hk
        omega), get_left]
      have : k % 2 = 0 := by simpa using hk
      congr 1; omega

theorem get_set_same (t : Trie α) (n : Nat) (x : Option α) : (t.set n x).get n = x := get_setF_same _ _ _ _ (by omega)
theorem get_set_ne (t : Trie α) (n k : Nat) (x : Option α) (h : n ≠ k) : (t.set n x).get k = t.get k := get_setF_ne _ _ _ _ _ h
theorem get_set (t : Trie α) (n k : Nat) (x : Option α) : (t.set n x).get k = if n = k then x else t.get k := by
  by_cases h : n = k
  · subst h; simp [get_set_same]
  · simp [h, get_set_ne]
end Trie

theorem St.get_put (σ : St) (l k : Nat) (o : AObj) : (σ.put l o).get k = if l = k then some o else σ.get k := by simp [St.put, St.get, Trie.get_set]
theorem St.get_kill (σ : St) (l k : Nat) : (σ.kill l).get k = if l = k then .none else σ.get k := by simp [St.kill, St.get, Trie.get_set]
theorem St.get_new (σ : St) (k : Nat) (o : AObj) : (σ.new o).get k = if σ.next = k then some o else σ.get k := by simp [St.new, St.get, Trie.get_set]
@[simp] theorem St.next_put (σ : St) (l : Nat) (o : AObj) : (σ.put l o).next = σ.next := rfl
@[simp] theorem St.next_kill (σ : St) (l : Nat) : (σ.kill l).next = σ.next := rfl
@[simp] theorem St.next_new (σ : St) (o : AObj) : (σ.new o).next = σ.next + 1 := rfl

theorem Fr.at_put (fr : Fr) (t k : Nat) (v : AV) : (fr.put t v).at k = if t = k then v else fr.at k := by
  simp only [Fr.at, Fr.put, Trie.get_set]
  by_cases h : t = k <;> simp [h]

end Go.AM

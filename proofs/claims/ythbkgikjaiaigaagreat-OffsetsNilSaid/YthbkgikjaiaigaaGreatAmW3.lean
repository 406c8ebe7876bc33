import Derived.Test.YthbkgikjaiaigaaGreatAmW2
namespace Go.AM
set_option linter.all false
open Go.RowKit
variable {w0 : Base} {w : World} {G : Gh} {σ : St}

/-- A live family goes on in another block. -/
theorem W.famMove (hW : W w0 G σ w) {l e e' b tot : Nat} {pre : List Value} {c : Array Value} {el : TypeId} (hl : σ.get l = some (.fam e)) (he : e < e') (hΓ : G.Γ b = some (pre, tot)) (hb : w0.heap.size ≤ b)
    (hc : w.heap[b]? = some (.cells c el (0, 0))) (hno : ∀ l o, σ.get l = some o → blk G l o ≠ some b) :
    W w0 (G.addΦ l (e', b)) (σ.put l (.fam e')) w ∧ Gle G (G.addΦ l (e', b)) := by
  obtain ⟨b0, pre0, tot0, c0, el0, q1, q2, q3, q4⟩ := hW.obj l _ hl
  have hlt := hW.lt hl
  have hG : Gle G (G.addΦ l (e', b)) := by
    refine ⟨fun _ _ h => h, fun _ _ _ h => ⟨[], by simpa [Gh.addΦ] using h⟩, fun k f x hk => ?_⟩
    simp only [Gh.addΦ]
    by_cases hkl : k = l
    · subst hkl; rw [q1] at hk; cases hk; exact ⟨e', b, by simp, by omega, fun h => by omega⟩
    · rw [if_neg hkl]; exact ⟨f, x, hk, Nat.le_refl _, fun _ => ⟨rfl, trivial⟩⟩
  refine ⟨⟨hW.below, ?_, hW.arr, ?_, ?_, ?_, hW.room, ?_, ?_, ?_⟩, hG⟩
  · intro k p hk
    rw [St.get_put] at hk
    split at hk
    · rename_i heq; subst heq; cases hk
      exact ⟨b, pre, tot, c, el, by simp [Gh.addΦ], hb, hΓ, hc⟩
    · rename_i hne
      refine (hW.obj k p hk).mono hG (fun _ _ => rfl) (fun f _ => ⟨?_, fun _ _ => rfl⟩)
      simp only [Gh.addΦ]; rw [if_neg (Ne.symm hne)]
  · intro k k' p p' x h1 h2 hne hx
    rw [St.get_put] at h1 h2
    split at h1 <;> split at h2
    · omega
    · rename_i heq _; subst heq; cases h1
      simp [blk, Gh.addΦ] at hx; subst hx
      rw [blk_addΦ (by omega)]
      exact hno k' p' h2
    · rename_i _ heq; subst heq; cases h2
      rw [blk_addΦ (by omega)] at hx
      simp only [blk, Gh.addΦ, if_true, Option.map_some]
      intro he'; cases he'
      exact hno k p h1 hx
    · rw [blk_addΦ (by omega)] at hx ⊢
      exact hW.sep k k' p p' x h1 h2 hne hx
  · intro k p x h1 hf hx
    rw [St.get_put] at h1
    split at h1
    · cases h1; simp [AObj.isFam] at hf
    · rw [blk_addΦ (by omega)] at hx
      exact hW.sepΓ k p x h1 hf hx
  · intro k hk
    have := hW.fresh k hk
    simp only [St.next_put] at hk
    rw [St.get_put, if_neg (by omega)]
    exact ⟨this.1, this.2.1, by simp only [Gh.addΦ]; rw [if_neg (by omega)]; exact this.2.2⟩
  · intro k f x hx
    simp only [Gh.addΦ] at hx
    split at hx
    · cases hx; exact hW.room _ _ hΓ
    · exact hW.roomΦ k f x hx
  · intro k f x hx
    rw [St.get_put]
    simp only [Gh.addΦ] at hx
    split at hx
    · rename_i heq; subst heq; cases hx; rw [if_pos rfl]
    · rename_i hne
      rw [if_neg (Ne.symm hne)]
      exact hW.famLive k f x hx
  · intro x ob h
    obtain ⟨h1, h2, h3⟩ := hW.hid x ob h
    refine ⟨h1, h2, fun k p hk => ?_⟩
    rw [St.get_put] at hk
    split at hk
    · rename_i heq; subst heq; cases hk
      simp only [blk, Gh.addΦ, if_true, Option.map_some]
      intro he'; cases he'; rw [h2] at hΓ; cases hΓ
    · rename_i hne
      rw [blk_addΦ (Ne.symm hne)]; exact h3 k p hk

/-- An object is forgotten, and another one stands in its block. -/
theorem W.moveObj (hW : W w0 G σ w) {l : Nat} {cs cs' : List AV} {b base base' tot tot' : Nat} (hl : σ.get l = some (.cells cs)) (hρ : G.ρ l = some (b, base, tot)) {w' : World}
    (hbel : Below w0.heap.size w0.toWorld w') (hsz : w.heap.size = w'.heap.size) (hh : ∀ k, k ≠ b → w'.heap[k]? = w.heap[k]?)
    (hok : ObjOk w0.heap.size (G.addρ σ.next (b, base', tot')) w' σ.next (.cells cs')) :
    W w0 (G.addρ σ.next (b, base', tot')) ((σ.kill l).new (.cells cs')) w' ∧ Gle G (G.addρ σ.next (b, base', tot')) := by
  have hfr := hW.fresh σ.next (Nat.le_refl _)
  have hlt := hW.lt hl
  have hb : blk G l (.cells cs) = some b := by simp [blk, hρ]
  have hΓ := hW.sepΓ l _ b hl rfl hb
  have hG : Gle G (G.addρ σ.next (b, base', tot')) := .addρ hfr.2.1
  have hnew : blk (G.addρ σ.next (b, base', tot')) σ.next (.cells cs') = some b := by simp [blk, Gh.addρ]
  have hget : ∀ {k : Nat} {p : AObj}, ((σ.kill l).new (.cells cs')).get k = some p → (k = σ.next ∧ p = .cells cs') ∨ (k ≠ σ.next ∧ k ≠ l ∧ σ.get k = some p) := by
    intro k p hk
    rw [St.get_new, St.get_kill] at hk
    by_cases e1 : (σ.kill l).next = k
    · rw [if_pos e1] at hk; cases hk; exact .inl ⟨e1.symm, rfl⟩
    · rw [if_neg e1] at hk
      by_cases e2 : l = k
      · rw [if_pos e2] at hk; cases hk
      · rw [if_neg e2] at hk
        exact .inr ⟨fun h => e1 h.symm, by omega, hk⟩
  refine ⟨⟨hbel, ?_, ?_, ?_, ?_, ?_, ?_, ?_, ?_, ?_⟩, hG⟩
  · intro k p hk
    rcases hget hk with ⟨rfl, rfl⟩ | ⟨h1, h2, h3⟩
    · exact hok
    · refine (hW.obj k p h3).mono hG (fun x hx => hh x ?_) (fun _ _ => ⟨rfl, fun _ _ => rfl⟩)
      rintro rfl
      exact hW.sep l k _ p x hl h3 (Ne.symm h2) hb hx
  · intro k pre t hk
    rw [hh k (by rintro rfl; have hk' : G.Γ k = some (pre, t) := hk; rw [hΓ] at hk'; cases hk')]
    exact hW.arr k pre t hk
  · intro k k' p p' x h1 h2 hne hx
    rcases hget h1 with ⟨rfl, rfl⟩ | ⟨a1, a2, a3⟩ <;> rcases hget h2 with ⟨rfl, rfl⟩ | ⟨b1, b2, b3⟩
    · omega
    · rw [hnew] at hx; cases hx
      rw [blk_addρ b1]
      exact hW.sep l k' _ p' b hl b3 (Ne.symm b2) hb
    · rw [blk_addρ a1] at hx
      rw [hnew]
      intro he; cases he
      exact hW.sep k l p _ b a3 hl a2 hx hb
    · rw [blk_addρ a1] at hx
      rw [blk_addρ b1]
      exact hW.sep k k' p p' x a3 b3 hne hx
  · intro k p x h1 hf hx
    rcases hget h1 with ⟨rfl, rfl⟩ | ⟨a1, a2, a3⟩
    · rw [hnew] at hx; cases hx; exact hΓ
    · rw [blk_addρ a1] at hx
      exact hW.sepΓ k p x a3 hf hx
  · intro k hk
    simp only [St.next_new, St.next_kill] at hk
    have := hW.fresh k (by omega)
    rw [St.get_new, if_neg (by show σ.next ≠ k; omega), St.get_kill, if_neg (by omega)]
    exact ⟨this.1, by simp only [Gh.addρ]; rw [if_neg (by omega)]; exact this.2.1, this.2.2⟩
  · intro k x hx; rw [← hsz]; exact hW.room k x hx
  · intro k e x hx; rw [← hsz]; exact hW.roomΦ k e x hx
  · intro k e x hx
    have h1 := hW.famLive k e x hx
    have h2 := hW.lt h1
    rw [St.get_new, if_neg (by show σ.next ≠ k; omega), St.get_kill, if_neg (by rintro rfl; rw [hl] at h1; cases h1)]
    exact h1
  · intro x ob h
    obtain ⟨h1, h2, h3⟩ := hW.hid x ob h
    refine ⟨by rw [hh x (by rintro rfl; exact h3 l _ hl hb)]; exact h1, h2, fun k p hk => ?_⟩
    rcases hget hk with ⟨rfl, rfl⟩ | ⟨a1, a2, a3⟩
    · rw [hnew, ← hb]; exact h3 l _ hl
    · rw [blk_addρ a1]; exact h3 k p a3
end Go.AM

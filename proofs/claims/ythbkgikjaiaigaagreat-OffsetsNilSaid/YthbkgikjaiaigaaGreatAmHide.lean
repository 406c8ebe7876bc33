import Derived.Test.YthbkgikjaiaigaaGreatAmDraw
namespace Go.AM
set_option linter.all false
open Go.RowKit
variable {P : Program} {w0 : Base} {w : World} {G : Gh} {σ : St}

def Base.hide (w0 : Base) (b : Nat) (ob : Obj) : Base := { w0 with hid := (b, ob) :: w0.hid }

/-- A new block that is set aside. -/
theorem W.hide (hW : W w0 G σ w) (ob : Obj) : W (w0.hide w.heap.size ob) G σ (w.alloc ob) := by
  have hlt : ∀ {l o b}, σ.get l = some o → blk G l o = some b → b < w.heap.size := by
    intro l o b hl hb
    obtain ⟨b', h1, h2, _⟩ := hW.blk_lt hl
    rw [hb] at h1; cases h1; exact h2
  refine ⟨hW.below.alloc hW.below.size ob, ?_, ?_, hW.sep, hW.sepΓ, hW.fresh, ?_, ?_, hW.famLive, ?_⟩
  · intro l p hl
    refine (hW.obj l p hl).mono (Gle.refl G) (fun b hb => ?_) (fun _ _ => ⟨rfl, fun _ _ => rfl⟩)
    have := hlt hl hb
    rw [heap_new, if_neg (by omega)]
  · intro b pre tot h
    have := hW.room b _ h
    rw [heap_new, if_neg (by omega)]
    exact hW.arr b pre tot h
  · intro b x h
    have := hW.room b x h
    simp; omega
  · intro l e b h
    have := hW.roomΦ l e b h
    simp; omega
  · intro b x h
    rcases List.mem_cons.1 h with h | h
    · cases h
      refine ⟨by rw [heap_new, if_pos rfl], ?_, fun l o hl hb => ?_⟩
      · cases hx : G.Γ w.heap.size with
        | none => rfl
        | some x => have := hW.room _ _ hx; omega
      · have := hlt hl hb; omega
    · have hb := hW.hid_lt h
      obtain ⟨h1, h2, h3⟩ := hW.hid b x h
      exact ⟨by rw [heap_new, if_neg (by omega)]; exact h1, h2, h3⟩

/-- What was set aside becomes an object. -/
theorem W.adopt {b : Nat} {c : Array Value} {el : TypeId} (hW : W (w0.hide b (.cells c el (0, 0))) G σ w) (hb : w0.heap.size ≤ b) (hself : ∀ ob, (b, ob) ∉ w0.hid) {z : List AV} (hz : RelL G true z c.toList) :
    W w0 (G.addρ σ.next (b, 0, c.size)) (σ.new (.cells z)) w ∧ Gle G (G.addρ σ.next (b, 0, c.size)) := by
  have hfr := hW.fresh σ.next (Nat.le_refl _)
  have hG : Gle G (G.addρ σ.next (b, 0, c.size)) := .addρ hfr.2.1
  obtain ⟨g1, g2, g3⟩ := hW.hid b _ (List.mem_cons_self ..)
  have hnew : blk (G.addρ σ.next (b, 0, c.size)) σ.next (.cells z) = some b := by simp [blk, Gh.addρ]
  refine ⟨⟨hW.below, ?_, hW.arr, ?_, ?_, ?_, hW.room, hW.roomΦ, ?_, ?_⟩, hG⟩
  · intro l p hl
    rw [St.get_new] at hl
    split at hl
    · rename_i heq; subst heq; cases hl
      refine ⟨b, 0, c.size, c, el, by simp [Gh.addρ], hb, g1, rfl, ?_, ?_⟩
      · rw [Nat.zero_add, hz.length]; simp
      · rw [List.drop_zero, List.take_of_length_le (by rw [hz.length]; exact Nat.le_refl _)]
        exact hz.mono hG
    · exact (hW.obj l p hl).mono hG (fun b' _ => rfl) (fun e he => ⟨rfl, fun _ _ => rfl⟩)
  · intro l l' p p' b' h1 h2 hne hb'
    rw [St.get_new] at h1 h2
    split at h1 <;> split at h2
    · omega
    · rename_i heq _; subst heq; cases h1
      rw [hnew] at hb'; cases hb'
      rw [blk_addρ (by omega)]
      exact g3 l' p' h2
    · rename_i _ heq; subst heq; cases h2
      rw [blk_addρ (by omega)] at hb'
      rw [hnew]
      intro he; cases he
      exact g3 l p h1 hb'
    · rw [blk_addρ (by omega)] at hb' ⊢
      exact hW.sep l l' p p' b' h1 h2 hne hb'
  · intro l p b' h1 hf' hb'
    rw [St.get_new] at h1
    split at h1
    · rename_i heq; subst heq; cases h1
      rw [hnew] at hb'; cases hb'
      exact g2
    · rw [blk_addρ (by omega)] at hb'
      exact hW.sepΓ l p b' h1 hf' hb'
  · intro l hl
    simp only [St.next_new] at hl
    have := hW.fresh l (by omega)
    rw [St.get_new, if_neg (by omega)]
    exact ⟨this.1, by simp only [Gh.addρ]; rw [if_neg (by omega)]; exact this.2.1, this.2.2⟩
  · intro l e b' h
    have := hW.famLive l e b' h
    rw [St.get_new, if_neg (by rintro rfl; rw [hfr.1] at this; cases this)]
    exact this
  · intro b' x h
    obtain ⟨h1, h2, h3⟩ := hW.hid b' x (List.mem_cons_of_mem _ h)
    refine ⟨h1, h2, fun l p hl => ?_⟩
    rw [St.get_new] at hl
    split at hl
    · rename_i heq; subst heq; cases hl
      rw [hnew]
      intro he; cases he; exact hself x h
    · rw [blk_addρ (by omega)]; exact h3 l p hl
end Go.AM

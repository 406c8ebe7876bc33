import Derived.Test.YthbkgikjaiaigaaGreatAmW
namespace Go.AM
set_option linter.all false
open Go.RowKit
variable {w0 : Base} {w : World} {G : Gh} {σ : St}

theorem Below.setRow {B : Nat} {a w : World} (h : Below B a w) {g : Nat} (hg : B ≤ g) (cs : Array Value) : Below B a (w.setRow g cs) :=
  h.trans ⟨rfl, rfl, rfl, by simp, fun k hk => setRow_other w g k cs (by omega)⟩

/-- A store into an object: its block alone turns. -/
theorem W.setObj (hW : W w0 G σ w) {l : Nat} {o o' : AObj} {b : Nat} (hl : σ.get l = some o) (hf : o.isFam = false) (hf' : o'.isFam = false) (hb : blk G l o = some b) {w' : World}
    (hbel : Below w0.heap.size w0.toWorld w') (hsz : w.heap.size = w'.heap.size) (hh : ∀ k, k ≠ b → w'.heap[k]? = w.heap[k]?) (hok : ObjOk w0.heap.size G w' l o') : W w0 G (σ.put l o') w' := by
  have hb' : blk G l o' = some b := by cases o <;> cases o' <;> simp_all [blk, AObj.isFam]
  have hΓ := hW.sepΓ l o b hl hf hb
  refine ⟨hbel, ?_, ?_, ?_, ?_, ?_, ?_, ?_, ?_, ?_⟩
  · intro k p hk
    rw [St.get_put] at hk
    split at hk
    · rename_i heq; subst heq; cases hk; exact hok
    · rename_i hne
      refine (hW.obj k p hk).mono (Gle.refl G) (fun b' hb'' => hh b' ?_) (fun _ _ => ⟨rfl, fun _ _ => rfl⟩)
      rintro rfl
      exact hW.sep l k o p b' hl hk hne hb hb''
  · intro k pre tot hk
    rw [hh k (by rintro rfl; rw [hΓ] at hk; cases hk)]
    exact hW.arr k pre tot hk
  · intro k k' p p' x h1 h2 hne hx
    rw [St.get_put] at h1 h2
    split at h1 <;> split at h2
    · omega
    · rename_i heq _; subst heq; cases h1
      rw [hb'] at hx; cases hx
      exact hW.sep _ k' o p' b hl h2 hne hb
    · rename_i _ heq; subst heq; cases h2
      rw [hb']
      intro he; cases he
      exact hW.sep k _ p o b h1 hl hne hx hb
    · exact hW.sep k k' p p' x h1 h2 hne hx
  · intro k p x h1 hf1 hx
    rw [St.get_put] at h1
    split at h1
    · rename_i heq; subst heq; cases h1
      rw [hb'] at hx; cases hx; exact hΓ
    · exact hW.sepΓ k p x h1 hf1 hx
  · intro k hk
    have := hW.fresh k hk
    rw [St.get_put, if_neg (by rintro rfl; rw [this.1] at hl; cases hl)]
    exact this
  · intro k x hx; rw [← hsz]; exact hW.room k x hx
  · intro k e x hx; rw [← hsz]; exact hW.roomΦ k e x hx
  · intro k e x hx
    have := hW.famLive k e x hx
    rw [St.get_put, if_neg (by rintro rfl; rw [hl] at this; cases this; simp [AObj.isFam] at hf)]
    exact this
  · intro x ob h
    obtain ⟨h1, h2, h3⟩ := hW.hid x ob h
    refine ⟨by rw [hh x (by rintro rfl; exact h3 l o hl hb)]; exact h1, h2, fun k p hk => ?_⟩
    rw [St.get_put] at hk
    split at hk
    · rename_i heq; subst heq; cases hk
      rw [hb', ← hb]; exact h3 l o hl
    · exact h3 k p hk

/-- An object is forgotten. -/
theorem W.kill (hW : W w0 G σ w) {l : Nat} {o : AObj} (hl : σ.get l = some o) (hf : o.isFam = false) : W w0 G (σ.kill l) w := by
  refine ⟨hW.below, ?_, hW.arr, ?_, ?_, ?_, hW.room, hW.roomΦ, ?_, ?_⟩
  · intro k p hk
    rw [St.get_kill] at hk
    split at hk
    · cases hk
    · exact hW.obj k p hk
  · intro k k' p p' x h1 h2
    rw [St.get_kill] at h1 h2
    split at h1
    · cases h1
    · split at h2
      · cases h2
      · exact hW.sep k k' p p' x h1 h2
  · intro k p x h1
    rw [St.get_kill] at h1
    split at h1
    · cases h1
    · exact hW.sepΓ k p x h1
  · intro k hk
    have := hW.fresh k hk
    rw [St.get_kill]
    split
    · exact ⟨rfl, this.2⟩
    · exact this
  · intro k e x hx
    have := hW.famLive k e x hx
    rw [St.get_kill, if_neg (by rintro rfl; rw [hl] at this; cases this; simp [AObj.isFam] at hf)]
    exact this
  · intro x ob h
    obtain ⟨h1, h2, h3⟩ := hW.hid x ob h
    refine ⟨h1, h2, fun k p hk => ?_⟩
    rw [St.get_kill] at hk
    split at hk
    · cases hk
    · exact h3 k p hk

/-- The frontier of a live family's block goes on. -/
theorem W.famOn (hW : W w0 G σ w) {l e e' b tot : Nat} {pre ext : List Value} {c c' : Array Value} {el : TypeId} (hl : σ.get l = some (.fam e)) (hΦ : G.Φ l = some (e, b)) (hΓ : G.Γ b = some (pre, tot))
    (he : e < e') (hc : w.heap[b]? = some (.cells c el (0, 0))) (hsz : c'.size = tot) (hpre : (pre ++ ext) <+: c'.toList) :
    W w0 ((G.addΓ b (pre ++ ext, tot)).addΦ l (e', b)) (σ.put l (.fam e')) (w.setRow b c') ∧ Gle G ((G.addΓ b (pre ++ ext, tot)).addΦ l (e', b)) := by
  have hlt := hW.lt hl
  obtain ⟨b0, pre0, tot0, c0, el0, q1, q2, q3, q4⟩ := hW.obj l _ hl
  rw [hΦ] at q1; cases q1
  have hb : blk G l (.fam e) = some b := by simp [blk, hΦ]
  have hothers : ∀ k p x, σ.get k = some p → k ≠ l → blk G k p = some x → x ≠ b := by
    intro k p x hk hne hx he
    subst he
    exact hW.sep k l p _ x hk hl hne hx hb
  have hG : Gle G ((G.addΓ b (pre ++ ext, tot)).addΦ l (e', b)) := by
    refine ⟨fun _ _ h => h, fun k p t hk => ?_, fun k f x hk => ?_⟩
    · simp only [Gh.addΓ, Gh.addΦ]
      by_cases hkb : k = b
      · subst hkb; rw [hΓ] at hk; cases hk; exact ⟨ext, by simp⟩
      · exact ⟨[], by rw [if_neg hkb]; simpa using hk⟩
    · simp only [Gh.addΓ, Gh.addΦ]
      by_cases hkl : k = l
      · subst hkl; rw [hΦ] at hk; cases hk
        exact ⟨e', b, by simp, by omega, fun h => by omega⟩
      · rw [if_neg hkl]
        refine ⟨f, x, hk, Nat.le_refl _, fun _ => ⟨rfl, ?_⟩⟩
        rw [if_neg (hothers k _ x (hW.famLive k f x hk) hkl (by simp [blk, hk]))]
  have hsz' : (w.setRow b c').heap.size = w.heap.size := by simp
  refine ⟨⟨Below.setRow hW.below q2 c', ?_, ?_, ?_, ?_, ?_, ?_, ?_, ?_, ?_⟩, hG⟩
  · intro k p hk
    rw [St.get_put] at hk
    split at hk
    · rename_i heq; subst heq; cases hk
      exact ⟨b, pre ++ ext, tot, c', el, by simp [Gh.addΦ], q2, by simp [Gh.addΓ, Gh.addΦ], setRow_heap w b c c' el _ hc⟩
    · rename_i hne
      refine (hW.obj k p hk).mono hG (fun x hx => setRow_other w b x c' (hothers k p x hk (Ne.symm hne) hx)) (fun f hf => ⟨?_, fun x hx => ?_⟩)
      · simp only [Gh.addΦ]; rw [if_neg (Ne.symm hne)]; rfl
      · simp only [Gh.addΓ, Gh.addΦ]; rw [if_neg (hothers k p x hk (Ne.symm hne) hx)]
  · intro k p t hk
    simp only [Gh.addΓ, Gh.addΦ] at hk
    split at hk
    · rename_i heq; subst heq; cases hk
      exact ⟨c', el, _, setRow_heap w _ c c' el _ hc, hsz, hpre⟩
    · rename_i hne
      rw [setRow_other w b k c' hne]
      exact hW.arr k p t hk
  · intro k k' p p' x h1 h2 hne hx
    rw [St.get_put] at h1 h2
    have key : ∀ {k : Nat} {p : AObj}, (if l = k then some (AObj.fam e') else σ.get k) = some p → ∃ p0, σ.get k = some p0 ∧ blk ((G.addΓ b (pre ++ ext, tot)).addΦ l (e', b)) k p = blk G k p0 := by
      intro k p h
      split at h
      · rename_i heq; subst heq; cases h
        exact ⟨_, hl, by simp [blk, Gh.addΦ, hΦ]⟩
      · rename_i hne
        refine ⟨p, h, ?_⟩
        cases p <;> simp [blk, Gh.addΦ, Gh.addΓ, Ne.symm hne]
    obtain ⟨p0, a1, a2⟩ := key h1
    obtain ⟨p0', a1', a2'⟩ := key h2
    rw [a2] at hx; rw [a2']
    exact hW.sep k k' p0 p0' x a1 a1' hne hx
  · intro k p x h1 hf hx
    rw [St.get_put] at h1
    split at h1
    · cases h1; simp [AObj.isFam] at hf
    · rename_i hne
      have hx' : blk G k p = some x := by
        cases p <;> simp_all [blk, Gh.addΦ, Gh.addΓ, AObj.isFam]
      simp only [Gh.addΓ, Gh.addΦ]
      rw [if_neg (hothers k p x h1 (Ne.symm hne) hx')]
      exact hW.sepΓ k p x h1 hf hx'
  · intro k hk
    have := hW.fresh k hk
    simp only [St.next_put] at hk
    rw [St.get_put, if_neg (by omega)]
    exact ⟨this.1, this.2.1, by simp only [Gh.addΦ]; rw [if_neg (by omega)]; exact this.2.2⟩
  · intro k x hx
    rw [hsz']
    simp only [Gh.addΓ, Gh.addΦ] at hx
    split at hx
    · rename_i heq; subst heq; exact hW.room _ _ hΓ
    · exact hW.room k x hx
  · intro k f x hx
    rw [hsz']
    simp only [Gh.addΦ] at hx
    split at hx
    · cases hx; exact hW.room _ _ hΓ
    · exact hW.roomΦ k f x hx
  · intro k f x hx
    rw [St.get_put]
    simp only [Gh.addΦ] at hx
    split at hx
    · rename_i heq; subst heq; cases hx; rw [if_pos rfl]
    · rename_i hne
      rw [if_neg (Ne.symm hne)]
      exact hW.famLive k f x hx
  · intro x ob h
    obtain ⟨h1, h2, h3⟩ := hW.hid x ob h
    have hxb : x ≠ b := by rintro rfl; rw [h2] at hΓ; cases hΓ
    refine ⟨by rw [setRow_other w b x c' hxb]; exact h1, by simp only [Gh.addΓ, Gh.addΦ]; rw [if_neg hxb]; exact h2, fun k p hk => ?_⟩
    rw [St.get_put] at hk
    split at hk
    · rename_i heq; subst heq; cases hk
      simp only [blk, Gh.addΦ, if_true, Option.map_some]
      intro he; cases he; exact hxb rfl
    · rename_i hne
      have e : blk ((G.addΓ b (pre ++ ext, tot)).addΦ l (e', b)) k p = blk G k p := by cases p <;> simp [blk, Gh.addΦ, Gh.addΓ, Ne.symm hne]
      rw [e]; exact h3 k p hk
end Go.AM

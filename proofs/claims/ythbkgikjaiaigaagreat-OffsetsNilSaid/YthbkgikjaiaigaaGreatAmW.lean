import Derived.Test.YthbkgikjaiaigaaGreatAmSt
namespace Go.AM
set_option linter.all false
open Go.RowKit

def Gh.addρ (G : Gh) (l : Nat) (x : Nat × Nat × Nat) : Gh := { G with ρ := fun k => if k = l then some x else G.ρ k }
def Gh.addΓ (G : Gh) (b : Nat) (x : List Value × Nat) : Gh := { G with Γ := fun k => if k = b then some x else G.Γ k }
def Gh.addΦ (G : Gh) (l : Nat) (x : Nat × Nat) : Gh := { G with Φ := fun k => if k = l then some x else G.Φ k }

theorem Gle.addρ {G : Gh} {l : Nat} {x : Nat × Nat × Nat} (h : G.ρ l = none) : Gle G (G.addρ l x) :=
  ⟨fun k y hk => by simp only [Gh.addρ]; rw [if_neg (by rintro rfl; rw [h] at hk; cases hk)]; exact hk,
   fun _ _ _ h => ⟨[], by simpa [Gh.addρ] using h⟩, fun _ _ _ h => ⟨_, _, h, Nat.le_refl _, fun _ => ⟨rfl, rfl⟩⟩⟩

variable {w0 : Base} {w : World} {G : Gh} {σ : St}

theorem heap_new (w : World) (o : Obj) (i : Nat) : (w.alloc o).heap[i]? = if i = w.heap.size then some o else w.heap[i]? := by
  simp only [World.alloc, Array.getElem?_push]

theorem Gle.addΓ (hW : W w0 G σ w) {b : Nat} {x : List Value × Nat} (h : w.heap.size ≤ b) : Gle G (G.addΓ b x) :=
  ⟨fun _ _ h => h, fun k pre tot hk => ⟨[], by
      simp only [Gh.addΓ, List.append_nil]; rw [if_neg (by rintro rfl; have := hW.room _ _ hk; omega)]; exact hk⟩,
   fun l e k hk => ⟨e, k, hk, Nat.le_refl _, fun _ => ⟨rfl, by
      simp only [Gh.addΓ]; rw [if_neg (by rintro rfl; have := hW.roomΦ _ _ _ hk; omega)]⟩⟩⟩

theorem Gle.addΦ {l : Nat} {x : Nat × Nat} (h : G.Φ l = none) : Gle G (G.addΦ l x) :=
  ⟨fun _ _ h => h, fun _ _ _ h => ⟨[], by simpa [Gh.addΦ] using h⟩, fun k e b hk => ⟨e, b, by
    simp only [Gh.addΦ]; rw [if_neg (by rintro rfl; rw [h] at hk; cases hk)]; exact hk, Nat.le_refl _, fun _ => ⟨rfl, rfl⟩⟩⟩

/-- What an object asks, in a world that has grown or changed elsewhere. -/
theorem ObjOk.mono {N : Nat} {G G' : Gh} {w w' : World} {l : Nat} {o : AObj} (h : ObjOk N G w l o) (hG : Gle G G')
    (hh : ∀ b, blk G l o = some b → w'.heap[b]? = w.heap[b]? ) (hΦ : ∀ e, o = .fam e → G'.Φ l = G.Φ l ∧ ∀ b, blk G l o = some b → G'.Γ b = G.Γ b) : ObjOk N G' w' l o := by
  cases o with
  | cells cs =>
    obtain ⟨b, base, tot, c, el, h1, h2, h3, h4, h5, h6⟩ := h
    exact ⟨b, base, tot, c, el, hG.ρ _ _ h1, h2, by rw [hh b (by simp [blk, h1])]; exact h3, h4, h5, h6.mono hG⟩
  | map kvs bs ck =>
    obtain ⟨b, base, tot, es, h1, h2, h3, h4, h5⟩ := h
    exact ⟨b, base, tot, es, hG.ρ _ _ h1, h2, by rw [hh b (by simp [blk, h1])]; exact h3, h4.mono hG, h5⟩
  | iter m since seen last =>
    obtain ⟨b, mm, h1, h2, h3, h4⟩ := h
    refine ⟨b, mm, hG.ρ _ _ h1, h2, by rw [hh b (by simp [blk, h1])]; exact h3, ?_⟩
    cases m with
    | none => exact h4
    | some lm =>
      obtain ⟨bm, base, tot, e, h5⟩ := h4
      exact ⟨bm, base, tot, e, hG.ρ _ _ h5⟩
  | fam e =>
    obtain ⟨b, pre, tot, c, el, h1, h2, h3, h4⟩ := h
    obtain ⟨q1, q2⟩ := hΦ e rfl
    exact ⟨b, pre, tot, c, el, by rw [q1]; exact h1, h2, by rw [q2 b (by simp [blk, h1])]; exact h3, by rw [hh b (by simp [blk, h1])]; exact h4⟩

theorem ObjOk.blk_lt {N : Nat} {l : Nat} {o : AObj} (h : ObjOk N G w l o) : ∃ b, blk G l o = some b ∧ b < w.heap.size ∧ N ≤ b := by
  cases o with
  | cells cs =>
    obtain ⟨b, base, tot, c, el, h1, h2, h3, _⟩ := h
    exact ⟨b, by simp [blk, h1], (Array.getElem?_eq_some_iff.1 h3).1, h2⟩
  | map kvs bs ck =>
    obtain ⟨b, base, tot, es, h1, h2, h3, _⟩ := h
    exact ⟨b, by simp [blk, h1], (Array.getElem?_eq_some_iff.1 h3).1, h2⟩
  | iter m since seen last =>
    obtain ⟨b, mm, h1, h2, h3, _⟩ := h
    exact ⟨b, by simp [blk, h1], (Array.getElem?_eq_some_iff.1 h3).1, h2⟩
  | fam e =>
    obtain ⟨b, pre, tot, c, el, h1, h2, h3, h4⟩ := h
    exact ⟨b, by simp [blk, h1], (Array.getElem?_eq_some_iff.1 h4).1, h2⟩

/-- The heap alone matters (a draw). -/
theorem W.same (hW : W w0 G σ w) {w' : World} (hh : w'.heap = w.heap) (ho : w'.os = w.os) (ht : w'.tape = w.tape) (hu : w'.output = w.output) : W w0 G σ w' where
  below := hW.below.trans ⟨ho, ht, hu, by rw [hh]; exact Nat.le_refl _, fun k _ => by rw [hh]⟩
  obj l o h := (hW.obj l o h).mono (Gle.refl G) (fun b _ => by rw [hh]) (fun _ _ => ⟨rfl, fun _ _ => rfl⟩)
  arr b pre tot h := by rw [hh]; exact hW.arr b pre tot h
  sep := hW.sep
  sepΓ := hW.sepΓ
  fresh := hW.fresh
  room b x h := by rw [hh]; exact hW.room b x h
  roomΦ l e b h := by rw [hh]; exact hW.roomΦ l e b h
  famLive := hW.famLive
  hid b ob h := by rw [hh]; exact hW.hid b ob h

theorem W.hid_lt (hW : W w0 G σ w) {b : Nat} {ob : Obj} (h : (b, ob) ∈ w0.hid) : b < w.heap.size := (Array.getElem?_eq_some_iff.1 (hW.hid b ob h).1).1

theorem W.drew (hW : W w0 G σ w) : W w0 G σ { w with drawn := w.drawn + 1 } := hW.same rfl rfl rfl rfl

theorem W.blk_lt (hW : W w0 G σ w) {l : Nat} {o : AObj} (h : σ.get l = some o) : ∃ b, blk G l o = some b ∧ b < w.heap.size ∧ w0.heap.size ≤ b := (hW.obj l o h).blk_lt

theorem W.lt (hW : W w0 G σ w) {l : Nat} {o : AObj} (h : σ.get l = some o) : l < σ.next := by
  rcases Nat.lt_or_ge l σ.next with h' | h'
  · exact h'
  · rw [(hW.fresh l h').1] at h; cases h

theorem blk_addρ {l l' : Nat} {o : AObj} {x : Nat × Nat × Nat} (h : l' ≠ l) : blk (G.addρ l x) l' o = blk G l' o := by
  cases o <;> simp [blk, Gh.addρ, h]

theorem blk_addΦ {l l' : Nat} {o : AObj} {x : Nat × Nat} (h : l' ≠ l) : blk (G.addΦ l x) l' o = blk G l' o := by
  cases o <;> simp [blk, Gh.addΦ, h]

/-- A new object (cells or a map) in a new block. -/
theorem W.newObj (hW : W w0 G σ w) (o : AObj) (ob : Obj) (tot : Nat) (hf : o.isFam = false)
    (hok : ObjOk w0.heap.size (G.addρ σ.next (w.heap.size, 0, tot)) (w.alloc ob) σ.next o) :
    W w0 (G.addρ σ.next (w.heap.size, 0, tot)) (σ.new o) (w.alloc ob) ∧ Gle G (G.addρ σ.next (w.heap.size, 0, tot)) := by
  have hfr := hW.fresh σ.next (Nat.le_refl _)
  have hG : Gle G (G.addρ σ.next (w.heap.size, 0, tot)) := .addρ hfr.2.1
  have hnew : blk (G.addρ σ.next (w.heap.size, 0, tot)) σ.next o = some w.heap.size := by
    cases o with
    | fam e => simp [AObj.isFam] at hf
    | cells cs => simp [blk, Gh.addρ]
    | map kvs bs ck => simp [blk, Gh.addρ]
    | iter m since seen last => simp [blk, Gh.addρ]
  refine ⟨⟨?_, ?_, ?_, ?_, ?_, ?_, ?_, ?_, ?_, ?_⟩, hG⟩
  · exact hW.below.alloc hW.below.size ob
  · intro l p hl
    rw [St.get_new] at hl
    split at hl
    · rename_i heq; subst heq; cases hl; exact hok
    · obtain ⟨b, hb, hlt, _⟩ := hW.blk_lt hl
      refine (hW.obj l p hl).mono hG (fun b' hb' => ?_) (fun e he => ⟨rfl, fun _ _ => rfl⟩)
      rw [hb] at hb'; cases hb'
      rw [heap_new, if_neg (by omega)]
  · intro b pre tot' h
    have := hW.room b _ h
    rw [heap_new, if_neg (by omega)]
    exact hW.arr b pre tot' h
  · intro l l' p p' b h1 h2 hne hb
    rw [St.get_new] at h1 h2
    split at h1 <;> split at h2
    · omega
    · rename_i heq _; subst heq; cases h1
      rw [hnew] at hb; cases hb
      obtain ⟨b', hb', hlt, _⟩ := hW.blk_lt h2
      rw [blk_addρ (by omega), hb']; simp; omega
    · rename_i _ heq; subst heq; cases h2
      rw [blk_addρ (by omega)] at hb
      obtain ⟨b', hb', hlt, _⟩ := hW.blk_lt h1
      rw [hb] at hb'; cases hb'
      rw [hnew]; simp; omega
    · rw [blk_addρ (by omega)] at hb ⊢
      exact hW.sep l l' p p' b h1 h2 hne hb
  · intro l p b h1 hf' hb
    rw [St.get_new] at h1
    split at h1
    · rename_i heq; subst heq; cases h1
      rw [hnew] at hb; cases hb
      cases hx : G.Γ w.heap.size with
      | none => exact hx
      | some x => have := hW.room _ _ hx; omega
    · rw [blk_addρ (by omega)] at hb
      exact hW.sepΓ l p b h1 hf' hb
  · intro l hl
    simp only [St.next_new] at hl
    have := hW.fresh l (by omega)
    rw [St.get_new, if_neg (by omega)]
    exact ⟨this.1, by simp only [Gh.addρ]; rw [if_neg (by omega)]; exact this.2.1, this.2.2⟩
  · intro b x h
    have := hW.room b x h
    simp; omega
  · intro l e b h
    have := hW.roomΦ l e b h
    simp; omega
  · intro l e b h
    have := hW.famLive l e b h
    rw [St.get_new, if_neg (by rintro rfl; rw [hfr.1] at this; cases this)]
    exact this
  · intro b x h
    have hlt := hW.hid_lt h
    obtain ⟨h1, h2, h3⟩ := hW.hid b x h
    refine ⟨by rw [heap_new, if_neg (by omega)]; exact h1, h2, fun l p hl => ?_⟩
    rw [St.get_new] at hl
    split at hl
    · rename_i heq; subst heq; cases hl
      rw [hnew]; simp; omega
    · rw [blk_addρ (by omega)]; exact h3 l p hl

/-- A new block that is fixed from its beginning. -/
theorem W.newFix (hW : W w0 G σ w) (c : Array Value) (el : TypeId) (fz : Nat × Nat) (pre : List Value) (hp : pre <+: c.toList) :
    W w0 (G.addΓ w.heap.size (pre, c.size)) σ (w.alloc (.cells c el fz)) ∧ Gle G (G.addΓ w.heap.size (pre, c.size)) := by
  have hG : Gle G (G.addΓ w.heap.size (pre, c.size)) := .addΓ hW (Nat.le_refl _)
  refine ⟨⟨?_, ?_, ?_, ?_, ?_, ?_, ?_, ?_, hW.famLive, ?_⟩, hG⟩
  · exact hW.below.alloc hW.below.size _
  · intro l p hl
    obtain ⟨b, hb, hlt, _⟩ := hW.blk_lt hl
    refine (hW.obj l p hl).mono hG (fun b' hb' => ?_) (fun e he => ⟨rfl, fun b' hb' => ?_⟩)
    · rw [hb] at hb'; cases hb'
      rw [heap_new, if_neg (by omega)]
    · rw [hb] at hb'; cases hb'
      simp only [Gh.addΓ]; rw [if_neg (by omega)]
  · intro b pre' tot' h
    simp only [Gh.addΓ] at h
    split at h
    · rename_i heq; subst heq; cases h
      exact ⟨c, el, fz, by rw [heap_new, if_pos rfl], rfl, hp⟩
    · have := hW.room b _ h
      rw [heap_new, if_neg (by omega)]
      exact hW.arr b pre' tot' h
  · exact hW.sep
  · intro l p b h1 hf' hb
    obtain ⟨b', hb', hlt, _⟩ := hW.blk_lt h1
    have hq : b < w.heap.size := by
      have e : blk G l p = some b := hb
      rw [e] at hb'; cases hb'; exact hlt
    simp only [Gh.addΓ]
    rw [if_neg (by omega)]
    exact hW.sepΓ l p b h1 hf' hb
  · exact hW.fresh
  · intro b x h
    simp only [Gh.addΓ] at h
    split at h
    · rename_i heq; subst heq; simp
    · have := hW.room b x h; simp; omega
  · intro l e b h
    have := hW.roomΦ l e b h
    simp; omega
  · intro b x h
    have hlt := hW.hid_lt h
    obtain ⟨h1, h2, h3⟩ := hW.hid b x h
    exact ⟨by rw [heap_new, if_neg (by omega)]; exact h1, by simp only [Gh.addΓ]; rw [if_neg (by omega)]; exact h2, fun l p hl => h3 l p hl⟩

/-- A new family over a fixed block that no live object has. -/
theorem W.newFam (hW : W w0 G σ w) (b e : Nat) (pre : List Value) (tot : Nat) (c : Array Value) (el : TypeId) (hΓ : G.Γ b = some (pre, tot)) (hb : w0.heap.size ≤ b)
    (hc : w.heap[b]? = some (.cells c el (0, 0))) (hno : ∀ l o, σ.get l = some o → blk G l o ≠ some b) :
    W w0 (G.addΦ σ.next (e, b)) (σ.new (.fam e)) w ∧ Gle G (G.addΦ σ.next (e, b)) := by
  have hfr := hW.fresh σ.next (Nat.le_refl _)
  have hG : Gle G (G.addΦ σ.next (e, b)) := .addΦ hfr.2.2
  refine ⟨⟨hW.below, ?_, hW.arr, ?_, ?_, ?_, hW.room, ?_, ?_, ?_⟩, hG⟩
  · intro l p hl
    rw [St.get_new] at hl
    split at hl
    · rename_i heq; subst heq; cases hl
      exact ⟨b, pre, tot, c, el, by simp [Gh.addΦ], hb, hΓ, hc⟩
    · refine (hW.obj l p hl).mono hG (fun _ _ => rfl) (fun e' he => ⟨?_, fun _ _ => rfl⟩)
      simp only [Gh.addΦ]; rw [if_neg (by omega)]
  · intro l l' p p' b' h1 h2 hne hb'
    rw [St.get_new] at h1 h2
    split at h1 <;> split at h2
    · omega
    · rename_i heq _; subst heq; cases h1
      simp [blk, Gh.addΦ] at hb'; subst hb'
      rw [blk_addΦ (by omega)]
      exact hno l' p' h2
    · rename_i _ heq; subst heq; cases h2
      rw [blk_addΦ (by omega)] at hb'
      simp only [blk, Gh.addΦ, if_true, Option.map_some]
      intro he; cases he
      exact hno l p h1 hb'
    · rw [blk_addΦ (by omega)] at hb' ⊢
      exact hW.sep l l' p p' b' h1 h2 hne hb'
  · intro l p b' h1 hf' hb'
    rw [St.get_new] at h1
    split at h1
    · cases h1; simp [AObj.isFam] at hf'
    · rw [blk_addΦ (by omega)] at hb'
      exact hW.sepΓ l p b' h1 hf' hb'
  · intro l hl
    simp only [St.next_new] at hl
    have := hW.fresh l (by omega)
    rw [St.get_new, if_neg (by omega)]
    exact ⟨this.1, this.2.1, by simp only [Gh.addΦ]; rw [if_neg (by omega)]; exact this.2.2⟩
  · intro l e' b' h
    simp only [Gh.addΦ] at h
    split at h
    · cases h; exact hW.room _ _ hΓ
    · exact hW.roomΦ l e' b' h
  · intro l e' b' h
    simp only [Gh.addΦ] at h
    rw [St.get_new]
    split at h
    · rename_i heq; subst heq; cases h; rw [if_pos rfl]
    · rw [if_neg (by omega)]; exact hW.famLive l e' b' h
  · intro b' x h
    obtain ⟨h1, h2, h3⟩ := hW.hid b' x h
    refine ⟨h1, h2, fun l p hl => ?_⟩
    rw [St.get_new] at hl
    split at hl
    · rename_i heq; subst heq; cases hl
      simp only [blk, Gh.addΦ, if_true, Option.map_some]
      intro he; cases he; rw [h2] at hΓ; cases hΓ
    · rw [blk_addΦ (by omega)]; exact h3 l p hl

end Go.AM

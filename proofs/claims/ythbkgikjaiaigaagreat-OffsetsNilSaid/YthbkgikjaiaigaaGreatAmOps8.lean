import Derived.Test.YthbkgikjaiaigaaGreatAmOps7
namespace Go.AM
set_option linter.all false
open Go.RowKit
variable {P : Program} {w0 : Base} {w : World} {G : Gh} {σ : St}

/-- A loop over fields whose rounds all leave the world alone. -/
theorem fields_run {fs : List Field} {f : Field → PUnit → Sem (ForInStep PUnit)} (h : ∀ x ∈ fs, (f x ⟨⟩).run P w = .ok (.yield ⟨⟩) w) : (forIn fs (⟨⟩ : PUnit) f).run P w = .ok ⟨⟩ w := by
  induction fs with
  | nil => simp
  | cons x fs ih =>
    simp only [List.forIn_cons, Sem.run_bind, h x (by simp), Result.andThen_ok]
    exact ih fun y hy => h y (by simp [hy])

mutual
theorem checkT_run : ∀ (f : Nat) {t : TypeId} {ks : List EK}, flatT P f t = some ks → ∀ {xs : List Value}, xs.length = ks.length → ∀ (e : Bool) (d : Nat), f ≤ d →
    (∀ fs, P.underlying t = some (.struct fs) → (Instr.checkKey e d t (.agg xs.toArray)).run P w = .ok () w) ∧
    (∀ dd, P.underlying t = some dd → aggD dd = false → ∀ x, (Instr.checkKey e d t x).run P w = .ok () w)
  | 0, t, ks, h => by simp [flatT] at h
  | f + 1, t, ks, h => by
    rename_i xs
    intro hl e d hd
    obtain ⟨d, rfl⟩ : ∃ m, d = m + 1 := ⟨d - 1, by omega⟩
    simp only [flatT] at h
    split at h
    · cases h
    · rename_i i hi
      split at h
      · rename_i k hu
        refine ⟨fun fs h' => (by rw [hu] at h'; cases h'), fun dd h' _ x => ?_⟩
        rw [hu] at h'; cases h'
        cases x <;> simp [Instr.checkKey, run_underlying hu]
      · rename_i hu
        refine ⟨fun fs h' => (by rw [hu] at h'; cases h'), fun dd h' _ x => ?_⟩
        rw [hu] at h'; cases h'
        cases x <;> simp [Instr.checkKey, run_underlying hu]
      · rename_i hu
        refine ⟨fun fs h' => (by rw [hu] at h'; cases h'), fun dd h' _ x => ?_⟩
        rw [hu] at h'; cases h'
        cases x <;> simp [Instr.checkKey, run_underlying hu]
      · rename_i fs hu
        refine ⟨fun fs' h' => ?_, fun dd h' hag => (by rw [hu] at h'; cases h'; simp [aggD] at hag)⟩
        split at h
        · have hfs := checkFs_run f h (xs := xs) (by omega) e d (by omega)
          simp only [Instr.checkKey, Sem.run_bind, run_underlying hu, Result.andThen_ok]
          rw [← Array.forIn_toList]
          rw [fields_run (P := P) (w := w)]
          · rfl
          · intro fd hfd
            obtain ⟨v, hp, hc⟩ := hfs fd hfd
            simp only [Sem.run_ite, Sem.run_bind, Sem.run_pure, hp, hc, Result.andThen_ok]
            split <;> rfl
        · cases h
      · cases h
theorem checkFs_run : ∀ (f : Nat) {off : Nat} {fs : List Field} {ks : List EK}, flatFs P f off fs = some ks → ∀ {xs : List Value}, off + ks.length ≤ xs.length → ∀ (e : Bool) (d : Nat), f ≤ d →
    ∀ fd ∈ fs, ∃ v, (part fd.type xs.toArray fd.offset).run P w = .ok v w ∧ (Instr.checkKey e d fd.type v).run P w = .ok () w
  | f, off, [], ks, h => by
    intro _ e d _ fd hfd; simp at hfd
  | 0, off, _ :: _, ks, h => by simp [flatFs] at h
  | f + 1, off, fd :: r, ks, h => by
    rename_i xs
    intro hl e d hd g hg
    simp only [flatFs] at h
    split at h
    · rename_i hn
      obtain ⟨hname, hoff⟩ := hn
      split at h
      · rename_i i k1 hi hT
        split at h
        · rename_i hlen
          split at h
          · rename_i k2 hr
            cases h
            simp only [List.length_append] at hl
            rcases List.mem_cons.1 hg with rfl | hg
            · obtain ⟨c1, c2⟩ := checkT_run f hT (xs := (xs.drop off).take i.size) (by simp only [List.length_take, List.length_drop]; omega) e d (by omega)
              have hT' := hT
              obtain ⟨f', rfl⟩ : ∃ m, f = m + 1 := by cases f with | zero => simp [flatT] at hT | succ m => exact ⟨m, rfl⟩
              simp only [flatT, hi] at hT'
              have leaf : ∀ dd, P.underlying g.type = some dd → aggD dd = false → i.size = 1 → ∃ v, (part g.type xs.toArray g.offset).run P w = .ok v w ∧ (Instr.checkKey e d g.type v).run P w = .ok () w := by
                intro dd hu hag h1
                obtain ⟨v, hv⟩ : ∃ v, xs[off]? = some v := ⟨_, List.getElem?_eq_getElem (by omega)⟩
                exact ⟨v, by rw [hoff]; exact part_leaf hu hag xs off v hv, c2 dd hu hag v⟩
              split at hT'
              · rename_i k hu; split at hT' <;> cases hT'; exact leaf _ hu rfl ‹_›
              · rename_i hu; split at hT' <;> cases hT'; exact leaf _ hu rfl ‹_›
              · rename_i hu; split at hT' <;> cases hT'; exact leaf _ hu rfl ‹_›
              · rename_i fs' hu
                exact ⟨_, by rw [hoff]; exact part_agg hu rfl hi xs off, c1 fs' hu⟩
              · cases hT'
            · exact checkFs_run f hr (xs := xs) (by omega) e d (by omega) g hg
          · cases h
        · cases h
      · cases h
    · cases h
end

def keyFit : EK → AV → Prop
  | .agg ks, .agg cs => cs.length = ks.length
  | .agg _, _ => False
  | _, _ => True

theorem check_run {t : TypeId} {ek : EK} (ht : keyT P t ek = true) {k : AV} {kv : Value} (hk : RelV G k kv) {e : Bool} (hfit : keyFit ek k) :
    (Instr.checkKey e 10000 t kv).run P w = .ok () w := by
  cases ek <;> simp only [keyT, Bool.false_eq_true] at ht
  case num =>
    split at ht
    · rename_i kk hu
      have : ∀ d, (Instr.checkKey e (d + 1) t kv).run P w = .ok () w := fun d => by cases kv <;> simp [Instr.checkKey, run_underlying hu]
      exact this 9999
    · cases ht
  case str =>
    split at ht
    · rename_i hu
      have : ∀ d, (Instr.checkKey e (d + 1) t kv).run P w = .ok () w := fun d => by cases kv <;> simp [Instr.checkKey, run_underlying hu]
      exact this 9999
    · cases ht
  case agg ks =>
    simp only [Bool.and_eq_true] at ht
    obtain ⟨h1, h3⟩ := ht
    cases k <;> simp only [keyFit] at hfit
    case agg cs =>
      obtain ⟨us, rfl, r1⟩ := hk.agg_inv
      split at h3
      · rename_i ks' hf
        obtain rfl := ekL_eq h3
        split at h1
        · rename_i fs hu
          have := (checkT_run (P := P) (w := w) 20 hf (xs := us.toList) (by rw [← r1.length]; exact hfit) e 10000 (by omega)).1 fs hu
          simpa using this
        · cases h1
      · cases h3
end Go.AM

import Derived.Test.YthbkgikjaiaigaaGreatAmOps5
namespace Go.AM
set_option linter.all false
open Go.RowKit
variable {P : Program} {w0 : Base} {w : World} {G : Gh} {σ : St}

theorem asNat_inv {x : AV} {n : Nat} {v : Value} (hx : RelV G x v) (h : asNat x = some n) : ∃ k, v = .int k (n : Int) := by
  cases x <;> simp only [asNat, reduceCtorEq] at h
  case int k m =>
    split at h
    · rename_i h0
      cases h
      obtain rfl := hx.int_inv
      exact ⟨k, by congr; omega⟩
    · cases h

theorem sliceBound_run {k : IntKind} {n y : Nat} {code : BoundsCode} (h : n ≤ y) : (Instr.sliceBound (.int k (n : Int)) y code).run P w = .ok n w := by
  simp [Instr.sliceBound, asIntOf, h]

/-- The bounds of a slice expression. -/
theorem sliceBounds_run {isSlice : Bool} {len cap : Nat} {lo hi mx : Option Value} {l h m : Nat} (h1 : l ≤ h) (h2 : h ≤ m) (h3 : m ≤ cap)
    (hlo : match lo with | some v => ∃ k, v = .int k (l : Int) | none => l = 0)
    (hhi : match hi with | some v => ∃ k, v = .int k (h : Int) | none => h = len)
    (hmx : match mx with | some v => hi.isSome = true ∧ ∃ k, v = .int k (m : Int) | none => m = cap) :
    (Instr.sliceBounds isSlice len cap lo hi mx).run P w = .ok (l, h, m) w := by
  cases lo <;> cases hi <;> cases mx <;> simp only at hlo hhi hmx
  case none.none.none => subst hlo hhi hmx; simp [Instr.sliceBounds]
  case none.some.none =>
    obtain ⟨k, rfl⟩ := hhi; subst hlo hmx
    simp [Instr.sliceBounds, sliceBound_run (P := P) (w := w) h2]
  case some.none.none =>
    obtain ⟨k, rfl⟩ := hlo; subst hhi hmx
    simp [Instr.sliceBounds, sliceBound_run (P := P) (w := w) h1]
  case some.some.none =>
    obtain ⟨k, rfl⟩ := hlo; obtain ⟨k', rfl⟩ := hhi; subst hmx
    simp [Instr.sliceBounds, sliceBound_run (P := P) (w := w) h1, sliceBound_run (P := P) (w := w) h2]
  case none.some.some =>
    obtain ⟨k', rfl⟩ := hhi; obtain ⟨_, k'', rfl⟩ := hmx; subst hlo
    simp [Instr.sliceBounds, sliceBound_run (P := P) (w := w) h2, sliceBound_run (P := P) (w := w) h3]
  case some.some.some =>
    obtain ⟨k, rfl⟩ := hlo; obtain ⟨k', rfl⟩ := hhi; obtain ⟨_, k'', rfl⟩ := hmx
    simp [Instr.sliceBounds, sliceBound_run (P := P) (w := w) h1, sliceBound_run (P := P) (w := w) h2, sliceBound_run (P := P) (w := w) h3]
  case none.none.some => simp at hmx
  case some.none.some => simp at hmx

def xoChk : Option Operand → Option AX → Bool
  | none, none => true
  | some o, some x => xChk o x
  | _, _ => false

theorem optNat_inv {n : Nat} {fr : Env} {a : Act} (hF : RelF G n fr a) {o : Option Operand} {x : Option AX} {d r : Nat} (hc : xoChk o x = true) (h : optNat fr d x = some r) :
    match o.map a.eval with | some v => ∃ k, v = .int k (r : Int) | none => r = d := by
  cases o <;> cases x <;> simp only [xoChk, Bool.false_eq_true] at hc <;> simp only [optNat] at h
  · cases h; rfl
  · exact asNat_inv (xChk_rel hF hc) h

theorem slc_ok (hW : W w0 G σ w) {n : Nat} {fr : Env} {a : Act} (hF : RelF G n fr a) {t e : TypeId} {i : TypeInfo} (ht : P.underlying t = some (.slice e)) (hi : P.info? e = some i)
    {x r : AV} {v : Value} {lo hi' mx : Option Operand} {lo' hi'' mx' : Option AX} (c1 : xoChk lo lo' = true) (c2 : xoChk hi' hi'' = true) (c3 : xoChk mx mx' = true) (c4 : mx'.isSome = true → hi''.isSome = true)
    (hx : RelV G x v) (h : aSlc i.size fr x lo' hi'' mx' = some r) : ValOk w0 G σ r ((Instr.sliceAt t v (lo.map a.eval) (hi'.map a.eval) (mx.map a.eval)).run P w) := by
  have hmxhi : ∀ q, mx.map a.eval = some q → (hi'.map a.eval).isSome = true := by
    intro q hq
    cases mx <;> cases mx' <;> simp [xoChk] at c3 hq
    have := c4 rfl
    cases hi' <;> cases hi'' <;> simp_all [xoChk]
  cases x <;> simp only [aSlc, reduceCtorEq] at h
  case nils =>
    cases hx
    split at h
    · rename_i e1 e2 e3
      cases h
      have b1 := optNat_inv hF c1 e1
      have b2 := optNat_inv hF c2 e2
      have b3 := optNat_inv hF c3 e3
      have hb := sliceBounds_run (P := P) (w := w) (isSlice := true) (len := 0) (cap := 0) (lo := lo.map a.eval) (hi := hi'.map a.eval) (mx := mx.map a.eval) (l := 0) (h := 0) (m := 0) (by omega) (by omega) (by omega) b1 b2
        (by cases hm : mx.map a.eval with | none => rfl | some q => rw [hm] at b3; exact ⟨hmxhi q hm, b3⟩)
      refine ValOk.pure (u := .slice none 0 0) hW ?_ .nils
      simp [Instr.sliceAt, run_underlying ht, Instr.slice, hb, size_run hi]
    · cases h
  case sl k' own len cs =>
    split at h
    · rename_i l hh m e1 e2 e3
      split at h
      · rename_i hc
        obtain ⟨rfl, hlh, hhm, hml⟩ := hc
        cases h
        have b1 := optNat_inv hF c1 e1
        have b2 := optNat_inv hF c2 e2
        have b3 := optNat_inv hF c3 e3
        have conc : ∃ ad cap, v = .slice (some ad) len cap ∧ len ≤ cap := by
          cases hx with
          | sl0 => exact ⟨_, _, rfl, Nat.zero_le _⟩
          | slx => exact ⟨_, _, rfl, Nat.zero_le _⟩
          | sl _ _ _ _ _ _ _ _ _ q => exact ⟨_, _, rfl, q⟩
        obtain ⟨ad, cap, rfl, hcap⟩ := conc
        obtain ⟨M, hM1, hM2, hM3, hb⟩ : ∃ M, hh ≤ M ∧ M ≤ cap ∧ (mx' = none ∧ M = cap ∨ (∃ q, mx' = some q) ∧ M = m) ∧ (Instr.sliceBounds true len cap (lo.map a.eval) (hi'.map a.eval) (mx.map a.eval)).run P w = .ok (l, hh, M) w := by
          cases mx' with
          | none =>
            have hmn : mx = none := by cases mx <;> simp [xoChk] at c3 ⊢
            subst hmn
            exact ⟨cap, by omega, Nat.le_refl _, .inl ⟨rfl, rfl⟩, sliceBounds_run hlh (by omega) (Nat.le_refl _) b1 b2 rfl⟩
          | some q =>
            obtain ⟨o, rfl⟩ : ∃ o, mx = some o := by cases mx <;> simp [xoChk] at c3 ⊢
            exact ⟨m, hhm, by omega, .inr ⟨⟨q, rfl⟩, rfl⟩, sliceBounds_run hlh hhm (by omega) b1 b2 ⟨hmxhi _ rfl, b3⟩⟩
        have hrun : (Instr.sliceAt t (.slice (some ad) len cap) (lo.map a.eval) (hi'.map a.eval) (mx.map a.eval)).run P w = .ok (.slice (some (if M = l then ad else ad.add (l * i.size))) (hh - l) (M - l)) w := by
          simp only [Instr.sliceAt, Sem.run_bind, run_underlying ht, Result.andThen_ok, Instr.slice, hb, size_run hi, Sem.run_pure]
          split <;> rfl
        refine ValOk.pure hW hrun ?_
        by_cases hMl : M = l
        · have hz : hh - l = 0 := by omega
          have hz2 : M - l = 0 := by omega
          rw [hz, hz2, if_pos hMl]
          simp only [Nat.zero_mul, List.take_zero]
          rcases hM3 with ⟨rfl, hMc⟩ | ⟨⟨q, rfl⟩, hMm⟩
          · simp only
            rw [if_pos (by omega)]
            cases own with
            | none => exact .sl0 _ _ _
            | exact => exact .slx _ _
            | fam f e => simp only [cutOwn]; rw [if_neg (by omega)]; exact .sl0 _ _ _
          · simp only
            rw [if_pos (by omega)]
            exact .slx _ _
        · rw [if_neg hMl]
          cases hx with
          | sl0 =>
            obtain rfl : l = 0 := by omega
            obtain rfl : hh = 0 := by omega
            rcases hM3 with ⟨rfl, hMc⟩ | ⟨⟨q, rfl⟩, hMm⟩
            · simpa [cutOwn] using RelV.sl0 _ _ _
            · exfalso; omega
          | slx => exfalso; omega
          | sl _ _ _ _ b off pre tot _ q1 q2 q3 q4 q5 q6 =>
            rw [add_lit]
            have hle : l * i.size + (hh - l) * i.size ≤ len * i.size := by
              rw [← Nat.add_mul]; exact Nat.mul_le_mul_right _ (by omega)
            have hlen : ((cs.drop (l * i.size)).take ((hh - l) * i.size)).length = (hh - l) * i.size := by
              simp only [List.length_take, List.length_drop]; omega
            refine .sl _ _ _ _ b (off + l * i.size) pre tot _ (by omega) hlen ?_ q4 ?_ ?_
            · have : l * i.size + (M - l) * i.size ≤ cap * i.size := by rw [← Nat.add_mul]; exact Nat.mul_le_mul_right _ (by omega)
              omega
            · have hR := (q5.drop (l * i.size)).take ((hh - l) * i.size)
              rw [List.drop_take, List.drop_drop, List.take_take] at hR
              rw [hlen]
              rwa [Nat.min_eq_left (by rw [q2]; omega)] at hR
            · rcases hM3 with ⟨rfl, hMc⟩ | ⟨⟨q, rfl⟩, hMm⟩
              · simp only
                split
                · rename_i hhl
                  subst hhl hMc
                  cases own with
                  | none => trivial
                  | exact => simp only [cutOwn, Gh.ownOk] at q6 ⊢; omega
                  | fam f e =>
                    simp only [cutOwn]
                    split
                    · obtain ⟨e', b', z1, z2, z3⟩ := q6
                      refine ⟨e', b', z1, z2, fun z => ?_⟩
                      obtain ⟨z4, z5⟩ := z3 z
                      refine ⟨z4, ?_⟩
                      have : l * i.size + (hh - l) * i.size = hh * i.size := by rw [← Nat.add_mul]; congr 1; omega
                      omega
                    · trivial
                · trivial
              · simp only
                split
                · simp only [Gh.ownOk]; omega
                · trivial
      · cases h
    · cases h
  case ms k' b off len =>
    split at h
    · rename_i hk
      simp at hk; subst hk
      split at h
      · rename_i l hh e1 e2
        have b1 := optNat_inv hF c1 e1
        have b2 := optNat_inv hF c2 e2
        have hmn : mx = none := by cases mx <;> simp [xoChk] at c3 ⊢
        subst hmn
        split at h
        · rename_i hc
          cases h
          cases hx with
          | ms _ _ _ _ bb base tot cap q1 q2 q3 =>
            have hb := sliceBounds_run (P := P) (w := w) (isSlice := true) (len := len) (cap := cap) (lo := lo.map a.eval) (hi := hi'.map a.eval) (mx := none) (l := l) (h := hh) (m := cap) (by omega) (by omega) (by omega) b1 b2 rfl
            have hrun : (Instr.sliceAt t (.slice (some ⟨bb, base + off, none⟩) len cap) (lo.map a.eval) (hi'.map a.eval) none).run P w = .ok (.slice (some ⟨bb, base + (off + l * i.size), none⟩) (hh - l) (cap - l)) w := by
              simp only [Instr.sliceAt, Sem.run_bind, run_underlying ht, Result.andThen_ok, Instr.slice, hb, size_run hi, Sem.run_pure]
              by_cases hcl : cap = l
              · have : l = 0 := by omega
                subst this
                simp [hcl]
              · rw [if_neg hcl, Option.map_some, add_lit, Nat.add_assoc]
            refine ValOk.pure hW hrun (.ms _ _ _ _ _ _ _ _ q1 (by omega) ?_)
            have : l * i.size + (cap - l) * i.size = cap * i.size := by rw [← Nat.add_mul]; congr 1; omega
            omega
        · cases h
      · cases h
    · cases h

theorem sslc_ok (hW : W w0 G σ w) {n : Nat} {fr : Env} {a : Act} (hF : RelF G n fr a) {t : TypeId} (ht : P.underlying t = some .string)
    {x r : AV} {v : Value} {lo hi' : Option Operand} {lo' hi'' : Option AX} (c1 : xoChk lo lo' = true) (c2 : xoChk hi' hi'' = true)
    (hx : RelV G x v) (h : aSslc fr x lo' hi'' = some r) : ValOk w0 G σ r ((Instr.sliceAt t v (lo.map a.eval) (hi'.map a.eval) none).run P w) := by
  cases x <;> simp only [aSslc, reduceCtorEq] at h
  case str s =>
    obtain ⟨b, rfl, hb⟩ := hx.str_inv
    have hsz : b.size = s.length := by rw [← hb, List.length_map, Array.length_toList]; rfl
    split at h
    · rename_i l hh e1 e2
      have b1 := optNat_inv hF c1 e1
      have b2 := optNat_inv hF c2 e2
      split at h
      · rename_i hc
        cases h
        have hbd := sliceBounds_run (P := P) (w := w) (isSlice := false) (len := b.size) (cap := b.size) (lo := lo.map a.eval) (hi := hi'.map a.eval) (mx := none) (l := l) (h := hh) (m := b.size) hc.1 (by omega) (by omega) b1 (by rw [hsz]; exact b2) rfl
        refine ValOk.pure (u := .string (b.extract l hh)) hW ?_ (.str _ _ ?_)
        · simp [Instr.sliceAt, run_underlying ht, Instr.slice, hbd]
        · subst hb
          simp only [ByteArray.data_extract, Array.toList_extract, List.extract_eq_take_drop, List.map_take, List.map_drop]
      · cases h
    · cases h
end Go.AM

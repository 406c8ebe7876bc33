import Derived.Test.YthbkgikjaiaigaaGreatAmEq
namespace Go.AM
set_option linter.all false
open Go.RowKit
variable {P : Program} {w0 : Base} {w : World} {G : Gh} {σ : St}

theorem eqGuard_other {op : BinOp} {t : TypeId} {x y : Operand} {a b : Value} (h : ∀ u v, a = .agg u → b = .agg v → False) (h2 : a ≠ .nilIface) : (eqGuard op t x y a b).run P w = .ok () w := by
  unfold eqGuard
  cases a <;> cases b <;> simp_all <;> (split <;> simp)

theorem bin_int (op : BinOp) (ek : EK) (k k' : IntKind) (a b : Int) (t : TypeId) (r : AV) (hx : aBin op ek (.int k a) (.int k' b) = some r) : ∃ u, RelV G r u ∧ (binOp op t (.int k a) (.int k' b)).run P w = .ok u w := by
  cases op <;> simp only [aBin] at hx
  case shl => split at hx <;> cases hx; exact ⟨_, .int _ _, by simp [binOp, Op.shift, *]⟩
  case shr => split at hx <;> cases hx; exact ⟨_, .int _ _, by simp [binOp, Op.shift, *]⟩
  all_goals
    split at hx
    case isFalse => cases hx
    case isTrue hk =>
      obtain rfl := kindEq_eq hk
      first
        | (cases hx; done)
        | (cases hx; first | exact ⟨_, .int _ _, by simp [binOp, Op.intArith, Op.intBits, Op.intCmp]⟩ | exact ⟨_, .bool _, by simp [binOp, Op.intArith, Op.intBits, Op.intCmp]⟩)
        | (split at hx <;> cases hx; exact ⟨_, .int _ _, by simp [binOp, Op.intDiv, *]⟩)

theorem str_rel {a b : ByteArray} {x y : List Nat} (h : a.data.toList.map UInt8.toNat = x) (h' : b.data.toList.map UInt8.toNat = y) : (a.toList == b.toList) = listEq x y ∧ Op.bytesLess a.toList b.toList = listLt x y := by
  rw [ba_toList, ba_toList, listEq_bytes, listLt_bytes, h, h']
  exact ⟨rfl, rfl⟩

theorem ba_app (a b : ByteArray) : (a ++ b).data.toList = a.data.toList ++ b.data.toList := by
  simp

theorem bin_str (op : BinOp) (ek : EK) (s s' : List Nat) (x y : ByteArray) (h : x.data.toList.map UInt8.toNat = s) (h' : y.data.toList.map UInt8.toNat = s') (t : TypeId) (r : AV) (hx : aBin op ek (.str s) (.str s') = some r) :
    ∃ u, RelV G r u ∧ (binOp op t (.string x) (.string y)).run P w = .ok u w := by
  obtain ⟨e1, e2⟩ := str_rel h h'
  cases op <;> simp only [aBin, reduceCtorEq] at hx
  case add =>
    split at hx
    · rename_i hl
      cases hx
      have l1 : x.size = s.length := by rw [← h, List.length_map, Array.length_toList]; rfl
      have l2 : y.size = s'.length := by rw [← h', List.length_map, Array.length_toList]; rfl
      refine ⟨_, .str _ (x ++ y) (by rw [ba_app, List.map_append, h, h']), ?_⟩
      have : ¬ ((x.size + y.size : Nat) : Int) > IntKind.i64.max := by
        rw [l1, l2, show IntKind.i64.max = 9223372036854775807 from rfl]; omega
      simp only [binOp, Op.stringOp, if_neg this, Sem.run_pure]
    · cases hx
  all_goals (cases hx; exact ⟨_, .bool _, by simp [binOp, Op.stringOp, e1, e2]⟩)

theorem eql_of {t : TypeId} {u v : Value} {p : Bool} (hbe : binOp .eql t u v = (do pure (.bool (← Op.equal t u v)))) (hbn : binOp .neq t u v = (do pure (.bool (!(← Op.equal t u v)))))
    (he : ∀ d, (Op.equalIn (d + 1) t u v).run P w = .ok p w) : (binOp .eql t u v).run P w = .ok (.bool p) w ∧ (binOp .neq t u v).run P w = .ok (.bool !p) w := by
  have he' : (Op.equal t u v).run P w = .ok p w := he 9999
  rw [hbe, hbn]
  constructor <;> simp [he']

set_option maxHeartbeats 2000000 in
theorem aEq_run {ek : EK} {t : TypeId} {x y : AV} {u v : Value} {p : Bool} (ht : kindT P t ek = true) (hx : RelV G x u) (hy : RelV G y v) (h : aEq ek x y = some p) :
    (binOp .eql t u v).run P w = .ok (.bool p) w ∧ (binOp .neq t u v).run P w = .ok (.bool !p) w := by
  by_cases hag : ∃ ks as bs, ek = .agg ks ∧ x = .agg as ∧ y = .agg bs
  · obtain ⟨ks, as, bs, rfl, rfl, rfl⟩ := hag
    simp only [aEq] at h
    simp only [kindT, Bool.and_eq_true] at ht
    obtain ⟨⟨h1, h2⟩, h3⟩ := ht
    obtain ⟨us, rfl, r1⟩ := hx.agg_inv
    obtain ⟨vs, rfl, r2⟩ := hy.agg_inv
    split at h3
    · rename_i ks' hf
      obtain rfl := ekL_eq h3
      rcases flat_run (P := P) 20 hf r1 r2 h Op.maxDepth (by simp [Op.maxDepth]) with ⟨fs, hu, hrun⟩ | ⟨dd, a, b, hu, hag, _⟩
      · have hrun' : (Op.equalIn 10000 t (.agg us) (.agg vs)).run P w = .ok p w := by simpa [Op.maxDepth] using hrun
        rw [run_eql_struct, run_neq_struct, hrun']
        exact ⟨rfl, rfl⟩
      · split at h1
        · rename_i hu'; rw [hu'] at hu; cases hu; simp [aggD] at hag
        · cases h1
    · cases h3
  · unfold aEq at h
    split at h <;> (try simp only [Option.some.injEq, reduceCtorEq] at h)
    all_goals first
      | (exact absurd ⟨_, _, _, rfl, rfl, rfl⟩ hag)
      | (subst h; simp only [kindT] at ht; split at ht <;> first
          | (cases ht; done)
          | (rename_i hu; cases hx <;> cases hy <;> refine eql_of rfl rfl (fun d => ?_) <;> simp [Op.equalIn, run_underlying hu]; done))

theorem bin_ok (hW : W w0 G σ w) {op : BinOp} {ek : EK} {t : TypeId} {a b : Operand} {x y r : AV} {u v : Value} (ht : kindT P t ek = true) (hx : RelV G x u) (hy : RelV G y v) (h : aBin op ek x y = some r) :
    ValOk w0 G σ r ((do eqGuard op t a b u v; binOp op t u v : Sem Value).run P w) := by
  have fin : ∀ {w1 : Value}, RelV G r w1 → (eqGuard op t a b u v).run P w = .ok () w → (binOp op t u v).run P w = .ok w1 w → ValOk w0 G σ r ((do eqGuard op t a b u v; binOp op t u v : Sem Value).run P w) := by
    intro w1 h1 h2 h3
    exact ValOk.pure hW (by simp [h2, h3]) h1
  by_cases hint : ∃ k n k' m, x = .int k n ∧ y = .int k' m
  · obtain ⟨k, n, k', m, rfl, rfl⟩ := hint
    obtain rfl := hx.int_inv; obtain rfl := hy.int_inv
    obtain ⟨q, hq, hrun⟩ := bin_int (P := P) (w := w) (G := G) op ek k k' n m t r h
    exact fin hq (eqGuard_other (by simp) (by simp)) hrun
  · by_cases hstr : ∃ s s', x = .str s ∧ y = .str s'
    · obtain ⟨s, s', rfl, rfl⟩ := hstr
      obtain ⟨bx, rfl, e1⟩ := hx.str_inv; obtain ⟨by_, rfl, e2⟩ := hy.str_inv
      obtain ⟨q, hq, hrun⟩ := bin_str (P := P) (w := w) (G := G) op ek s s' bx by_ e1 e2 t r h
      exact fin hq (eqGuard_other (by simp) (by simp)) hrun
    · have h' : eqOp op (aEq ek x y) = some r := by
        unfold aBin at h
        split at h
        · exact absurd ⟨_, _, _, _, rfl, rfl⟩ hint
        · exact absurd ⟨_, _, rfl, rfl⟩ hstr
        · exact h
      clear fin h
      obtain ⟨p, hp⟩ : ∃ p, aEq ek x y = some p := by
        cases hq : aEq ek x y with
        | none => rw [hq] at h'; cases op <;> simp [eqOp] at h'
        | some p => exact ⟨p, rfl⟩
      rw [hp] at h'
      have hne : u ≠ .nilIface := by
        rintro rfl
        cases hx
        simp [aEq] at hp
      have hguard : (eqGuard op t a b u v).run P w = .ok () w := by
        by_cases hag : ∃ p q, u = .agg p ∧ v = .agg q
        · obtain ⟨p, q, rfl, rfl⟩ := hag
          cases hx with
          | undef => simp [aEq] at hp
          | agg cs _ hcs =>
            have : P.eqGuardType P.depth t = false := by
              cases ek <;> first | (simp [kindT] at ht; exact ht.1.2) | (simp [aEq] at hp)
            exact run_eqGuard_agg w op t a b p q this
        · exact eqGuard_other (fun p q e1 e2 => hag ⟨p, q, e1, e2⟩) hne
      obtain ⟨e1, e2⟩ := aEq_run (P := P) (w := w) ht hx hy hp
      cases op <;> simp only [eqOp, reduceCtorEq, Option.some.injEq] at h'
      case eql => subst h'; exact ValOk.pure hW (by simp [hguard, e1]) (.bool _)
      case neq => subst h'; exact ValOk.pure hW (by simp [hguard, e2]) (.bool _)

end Go.AM

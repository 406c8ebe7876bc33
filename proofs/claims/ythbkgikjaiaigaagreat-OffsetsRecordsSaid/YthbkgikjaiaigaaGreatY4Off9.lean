import Derived.Test.YthbkgikjaiaigaaGreatY4Off8
namespace Go.AM.P
set_option linter.all false
open Go.AM
set_option linter.all false
variable {P : Program} {σ : St} {K : AV → St → Prop}

theorem reads3r (H : Has P tab) {l : Nat} {val : List Nat} {F : AV → AV → AV → St → Prop} (h : RdAt σ l val 0 0) (hl : val.length < 4611686018427387904) (hb : ∀ c ∈ val, c < 256)
    (hok : ∀ (o m g : Nat) s, (∀ o' m' g' : Nat, o' < 18446744073709551616 → m' < 18446744073709551616 → g' < 18446744073709551616 → val = uv o' ++ (uv m' ++ uv g') → o' = o ∧ m' = m ∧ g' = g) → Only l σ s → F (.int .u64 (o : Nat)) (.int .u64 (m : Nat)) (.int .u64 (g : Nat)) s) :
    Ret P N.towpathref01_Reader_Uint [.ptr l 0] σ fun v1 s1 => Ret P N.towpathref01_Reader_Uint [.ptr l 0] s1 fun v2 s2 => Ret P N.towpathref01_Reader_Uint [.ptr l 0] s2 fun v3 s3 => F v1 v2 v3 s3 := by
  refine refUint_ret H h (Nat.zero_le _) hl hb (fun e => absurd rfl e) (fun o k1 s1 _ r1 hr1 o1 n1 b1 => ?_) (fun s1 _ r1 hr1 o1 => ?_)
  · simp only [Nat.zero_add] at hr1 b1
    rw [List.drop_zero] at r1
    refine refUint_ret H hr1 b1 hl hb (fun e => absurd rfl e) (fun m k2 s2 _ r2 hr2 o2 n2 b2 => ?_) (fun s2 _ r2 hr2 o2 => ?_)
    · refine refUint_ret H hr2 b2 hl hb (fun e => absurd rfl e) (fun g k3 s3 _ r3 hr3 o3 n3 b3 => ?_) (fun s3 _ r3 hr3 o3 => ?_)
      · refine hok o m g s3 ?_ ((o1.trans o2).trans o3)
        intro o' m' g' t1 t2 t3 t4
        obtain ⟨u1, u2, u3⟩ := three_of t1 t2 t3
        rw [← t4] at u1 u2 u3
        rw [u1] at r1; cases r1
        rw [u2] at r2; cases r2
        rw [u3] at r3; cases r3
        exact ⟨rfl, rfl, rfl⟩
      · refine hok o m 0 s3 ?_ ((o1.trans o2).trans o3)
        intro o' m' g' t1 t2 t3 t4
        obtain ⟨u1, u2, u3⟩ := three_of t1 t2 t3
        rw [← t4] at u1 u2 u3
        rw [u1] at r1; cases r1
        rw [u2] at r2; cases r2
        rw [u3] at r3; cases r3
    · have no : ∀ o' m' g' : Nat, o' < 18446744073709551616 → m' < 18446744073709551616 → g' < 18446744073709551616 → val = uv o' ++ (uv m' ++ uv g') → False := by
        intro o' m' g' t1 t2 t3 t4
        obtain ⟨u1, u2, u3⟩ := three_of t1 t2 t3
        rw [← t4] at u1 u2 u3
        rw [u1] at r1; cases r1
        rw [u2] at r2; cases r2
      refine refUint_ret H hr2 b1 hl hb (fun _ => hok o 0 0 _ (fun o' m' g' t1 t2 t3 t4 => (no o' m' g' t1 t2 t3 t4).elim) (o1.trans o2)) (fun _ _ _ e => by cases e) (fun _ e => by cases e)
  · have no : ∀ o' m' g' : Nat, o' < 18446744073709551616 → m' < 18446744073709551616 → g' < 18446744073709551616 → val = uv o' ++ (uv m' ++ uv g') → False := by
      intro o' m' g' t1 t2 t3 t4
      obtain ⟨u1, u2, u3⟩ := three_of t1 t2 t3
      rw [← t4] at u1
      rw [List.drop_zero, u1] at r1; cases r1
    refine refUint_ret H hr1 (Nat.zero_le _) hl hb (fun _ => ?_) (fun _ _ _ e => by cases e) (fun _ e => by cases e)
    refine refUint_ret H hr1 (Nat.zero_le _) hl hb (fun _ => hok 0 0 0 _ (fun o' m' g' t1 t2 t3 t4 => (no o' m' g' t1 t2 t3 t4).elim) o1) (fun _ _ _ e => by cases e) (fun _ e => by cases e)

theorem refParse_ret (H : Has P tab) {key val : List Nat} {gone : Bool} {t : Int} (hv : ∀ c ∈ val, c < 256) (hl : val.length ≤ 1099511627776)
    (h1 : ∀ p o m g σ', Good key val gone p o m g → Kept σ.next σ σ' → K (.tup [comAV p o m g, .int .i64 0]) σ')
    (h2 : (¬ ∃ p o m g, Good key val gone p o m g) → ∀ σ', Kept σ.next σ σ' → K (.tup [comAV 0 0 0 0, .int .i64 6]) σ') :
    Ret P N.towpathref14_Parse [.agg [.str key, .str val, .bool gone, .int .i64 t]] σ K := by
  refine r_towpathref14_Parse H ?_
  rw [w_towpathref14_Parse_eq]
  have hfail : (¬ ∃ p o m g, Good key val gone p o m g) → ∀ (s : St) (cs : List AV), cs.length = 4 → s.get (σ.next + 1) = some (.cells cs) → Kept σ.next σ s →
      (csW (fillV [(.int .i64 0), (.int .i64 0), (.int .i64 0), (.int .i64 0)] []) fun c13 =>
      stW (storeS 4 s (.ptr (σ.next + 1) 0) (.agg c13)) fun s5 =>
      valW (loadnV s5 4 (.ptr (σ.next + 1) 0)) fun v14 =>
      K (.tup [v14, (.int .i64 6)]) s5) := by
    intro hno s cs hcs hg hkp
    have e5 : fillV [(.int .i64 0), (.int .i64 0), (.int .i64 0), (.int .i64 0)] [] = some [(.int .i64 0), (.int .i64 0), (.int .i64 0), (.int .i64 0)] := rfl
    have e6 : storeS 4 s (.ptr (σ.next + 1) 0) (.agg [(.int .i64 0), (.int .i64 0), (.int .i64 0), (.int .i64 0)]) = some (s.put (σ.next + 1) (.cells [(.int .i64 0), (.int .i64 0), (.int .i64 0), (.int .i64 0)])) := by
      have := store_ptr (n := 4) (off := 0) (vs := [(.int .i64 0), (.int .i64 0), (.int .i64 0), (.int .i64 0)]) (y := .agg [(.int .i64 0), (.int .i64 0), (.int .i64 0), (.int .i64 0)]) hg rfl rfl (by omega)
      rw [this]
      congr 3
      simp [fillAt, hcs]
    have e7 : loadnV (s.put (σ.next + 1) (.cells [(.int .i64 0), (.int .i64 0), (.int .i64 0), (.int .i64 0)])) 4 (.ptr (σ.next + 1) 0) = some (comAV 0 0 0 0) := loadn_ptr (get_put_same _ _ _) (by simp)
    rw [e5, csW_some, e6, stW_some, e7, valW_some]
    exact h2 hno _ (hkp.put (by omega) (by omega) _)
  simp only [valW_some, stW_some, csW_some, optW_some, condW_true, condW_false, guardW_t, guardW_f, guardT_mv, guardT_true, guardT_false, gv_true, gv_false, pick_and, pick_or, pick_t, pick_f, nilck_ptr, faddr_ptr, ext_0, ext_1, ext_2, not_bool, cells_agg, newW_eq, mapW_eq, int_lss, int_leq, int_gtr, int_geq, int_eql, int_neq, ptr_eq_nil, ptr_ne_nil, nil_eq_nil, nil_ne_nil, Nat.zero_add, gT_load1, gT_loadn, gT_faddr, gT_nilck, gT_bin1, gT_bin2, gT_un, gT_len, gT_conv, gT_iaddr1, gT_iaddr2, gT_ext, gT_field, gT_pick1, gT_pick2, guardT_mvg, Bool.not_true, Bool.not_false, Bool.true_and, Bool.false_and, Bool.and_true, Bool.and_false, Bool.true_or, Bool.false_or, Bool.or_true, Bool.or_false, Bool.not_not, decide_true, decide_false, pick_orn]
  obtain ⟨s2, hs2⟩ : ∃ s2, (σ.new (.cells [.str key, .str val, .bool gone, .int .i64 t])).new (.cells [.int .i64 0, .int .i64 0, .int .i64 0, .int .i64 0]) = s2 := ⟨_, rfl⟩
  have hn : s2.next = σ.next + 2 := by rw [← hs2]; rfl
  have hE : Ext σ s2 := by rw [← hs2]; exact ((Ext.refl σ).new _).new _
  have g1 : s2.get σ.next = some (.cells [.str key, .str val, .bool gone, .int .i64 t]) := by rw [← hs2]; simp [St.get_new]
  have g2 : s2.get (σ.next + 1) = some (.cells [.int .i64 0, .int .i64 0, .int .i64 0, .int .i64 0]) := by rw [← hs2]; simp [St.get_new]
  have e8 : (σ.new (.cells [.str key, .str val, .bool gone, .int .i64 t])).next = σ.next + 1 := rfl
  rw [hs2, e8]
  have hK2 : Kept σ.next σ s2 := hE.kept (Nat.le_refl _)
  have c1 : load1V s2 (.ptr σ.next 1) = some (.str val) := load1_ptr g1 rfl
  have etb : aConv .toBytes s2 (.str val) = some (.sl 1 .none val.length (byteCells val)) := rfl
  have ef : fillV [.nils, (.int .i64 0), (.int .i64 0)] [(0, 1, .sl 1 .none val.length (byteCells val))] = some [.sl 1 .none val.length (byteCells val), .int .i64 0, .int .i64 0] := rfl
  simp only [c1, etb, ef, valW_some, stW_some, csW_some, optW_some, condW_true, condW_false, guardW_t, guardW_f, guardT_mv, guardT_true, guardT_false, gv_true, gv_false, pick_and, pick_or, pick_t, pick_f, nilck_ptr, faddr_ptr, ext_0, ext_1, ext_2, not_bool, cells_agg, newW_eq, mapW_eq, int_lss, int_leq, int_gtr, int_geq, int_eql, int_neq, ptr_eq_nil, ptr_ne_nil, nil_eq_nil, nil_ne_nil, Nat.zero_add, gT_load1, gT_loadn, gT_faddr, gT_nilck, gT_bin1, gT_bin2, gT_un, gT_len, gT_conv, gT_iaddr1, gT_iaddr2, gT_ext, gT_field, gT_pick1, gT_pick2, guardT_mvg, Bool.not_true, Bool.not_false, Bool.true_and, Bool.false_and, Bool.and_true, Bool.and_false, Bool.true_or, Bool.false_or, Bool.or_true, Bool.or_false, Bool.not_not, decide_true, decide_false, pick_orn]
  obtain ⟨s3, hs3⟩ : ∃ x, s2.new (.cells [.sl 1 .none val.length (byteCells val), .int .i64 0, .int .i64 0]) = x := ⟨_, rfl⟩
  have hn3 : s3.next = σ.next + 3 := by rw [← hs3]; simp [hn]
  have i1 : s3.get σ.next = some (.cells [.str key, .str val, .bool gone, .int .i64 t]) := by rw [← hs3, St.get_new, if_neg (by omega)]; exact g1
  have i2 : s3.get (σ.next + 1) = some (.cells [.int .i64 0, .int .i64 0, .int .i64 0, .int .i64 0]) := by rw [← hs3, St.get_new, if_neg (by omega)]; exact g2
  have i3 : RdAt s3 (σ.next + 2) val 0 0 := ⟨_, by rw [← hs3, ← hn, get_new_same]; rfl, Flat.sl .none val⟩
  have hK3 : Kept σ.next σ s3 := by rw [← hs3]; exact hK2.new (by omega) _
  rw [hs3, hn]
  refine reads3r H i3 (by omega) hv fun o m g s10 hthree on => ?_
  have b1 : s10.get σ.next = some (.cells [.str key, .str val, .bool gone, .int .i64 t]) := (on.get _ (by omega)).trans i1
  have b2 : s10.get (σ.next + 1) = some (.cells [.int .i64 0, .int .i64 0, .int .i64 0, .int .i64 0]) := (on.get _ (by omega)).trans i2
  have hn10 : s10.next = σ.next + 3 := by rw [on.next]; exact hn3
  have hk10 : Kept σ.next σ s10 := ⟨by rw [on.next]; exact hK3.next, fun l hl => (on.get l (by omega)).trans (hK3.low l hl), fun l o' h1 h2 h3 => (on.get l (by omega)).trans (hK3.cells l o' h1 h2 h3)⟩
  simp only [valW_some, stW_some, csW_some, optW_some, condW_true, condW_false, guardW_t, guardW_f, guardT_mv, guardT_true, guardT_false, gv_true, gv_false, pick_and, pick_or, pick_t, pick_f, nilck_ptr, faddr_ptr, ext_0, ext_1, ext_2, not_bool, cells_agg, newW_eq, mapW_eq, int_lss, int_leq, int_gtr, int_geq, int_eql, int_neq, ptr_eq_nil, ptr_ne_nil, nil_eq_nil, nil_ne_nil, Nat.zero_add, gT_load1, gT_loadn, gT_faddr, gT_nilck, gT_bin1, gT_bin2, gT_un, gT_len, gT_conv, gT_iaddr1, gT_iaddr2, gT_ext, gT_field, gT_pick1, gT_pick2, guardT_mvg, Bool.not_true, Bool.not_false, Bool.true_and, Bool.false_and, Bool.and_true, Bool.and_false, Bool.true_or, Bool.false_or, Bool.or_true, Bool.or_false, Bool.not_not, decide_true, decide_false, pick_orn]
  rw [condW_bool]
  refine ⟨fun hbig => ?_, fun hsmall => ?_⟩
  · simp only [Bool.or_eq_true, decide_eq_true_eq] at hbig
    refine hfail ?_ s10 _ rfl b2 hk10
    rintro ⟨p', o', m', g', c1, c2, c3, c4, c5, c6, c7⟩
    obtain ⟨e1, e2, e3⟩ := hthree o' m' g' (by omega) (by omega) (by omega) c6
    omega
  · simp only [Bool.or_eq_false_iff, decide_eq_false_iff_not] at hsmall
    refine l_towpathref14_Parse_1_of (fun k x1 x2 x5 x6 x7 x8 s => ∃ p, k = 256 - p ∧ p ≤ 256 ∧ x1 = .ptr σ.next 0 ∧ x2 = .ptr (σ.next + 1) 0 ∧ x5 = .int .u64 (o : Nat) ∧ x6 = .int .u64 (m : Nat) ∧ x7 = .int .u64 (g : Nat) ∧ x8 = .int .i64 (p : Nat) ∧
      s.get σ.next = some (.cells [.str key, .str val, .bool gone, .int .i64 t]) ∧ s.get (σ.next + 1) = some (.cells [.int .i64 0, .int .i64 0, .int .i64 0, .int .i64 0]) ∧ σ.next + 3 ≤ s.next ∧ Kept σ.next σ s ∧
      ∀ q, q < p → ¬ Good key val gone q o m g) 256 ⟨0, rfl, by omega, rfl, rfl, rfl, rfl, rfl, rfl, b1, b2, by omega, hk10, fun q hq => by omega⟩ ?_
    rintro k x1 x2 x5 x6 x7 x8 s ⟨p, rfl, hp, rfl, rfl, rfl, rfl, rfl, rfl, q1, q2, qn, qk, qno⟩
    generalize hN : (fun (x1 x2 x5 x6 x7 x8 : AV) (s : St) => ∃ m', m' < 256 - p ∧ ∃ p, m' = 256 - p ∧ p ≤ 256 ∧ x1 = AV.ptr σ.next 0 ∧ x2 = AV.ptr (σ.next + 1) 0 ∧ x5 = AV.int .u64 (o : Nat) ∧ x6 = AV.int .u64 (m : Nat) ∧ x7 = AV.int .u64 (g : Nat) ∧ x8 = AV.int .i64 (p : Nat) ∧
      s.get σ.next = some (.cells [.str key, .str val, .bool gone, .int .i64 t]) ∧ s.get (σ.next + 1) = some (.cells [.int .i64 0, .int .i64 0, .int .i64 0, .int .i64 0]) ∧ σ.next + 3 ≤ s.next ∧ Kept σ.next σ s ∧
      ∀ q, q < p → ¬ Good key val gone q o m g) = N1
    have hN1 : ∀ s', p ≤ 255 → s'.get σ.next = some (.cells [.str key, .str val, .bool gone, .int .i64 t]) → s'.get (σ.next + 1) = some (.cells [.int .i64 0, .int .i64 0, .int .i64 0, .int .i64 0]) → σ.next + 3 ≤ s'.next → Kept σ.next σ s' → ¬ Good key val gone p o m g →
        N1 (.ptr σ.next 0) (.ptr (σ.next + 1) 0) (.int .u64 (o : Nat)) (.int .u64 (m : Nat)) (.int .u64 (g : Nat)) (.int .i64 ((p : Int) + 1)) s' := by
      intro s' z0 z1 z2 z3 z4 z5
      rw [← hN]
      refine ⟨256 - (p + 1), by omega, p + 1, rfl, by omega, rfl, rfl, rfl, rfl, rfl, rfl, z1, z2, z3, z4, fun q hq => ?_⟩
      by_cases hqp : q = p
      · subst hqp; exact z5
      · exact qno q (by omega)
    clear hN
    rw [b_towpathref14_Parse_1_eq]
    simp only [valW_some, stW_some, csW_some, optW_some, condW_true, condW_false, guardW_t, guardW_f, guardT_mv, guardT_true, guardT_false, gv_true, gv_false, pick_and, pick_or, pick_t, pick_f, nilck_ptr, faddr_ptr, ext_0, ext_1, ext_2, not_bool, cells_agg, newW_eq, mapW_eq, int_lss, int_leq, int_gtr, int_geq, int_eql, int_neq, ptr_eq_nil, ptr_ne_nil, nil_eq_nil, nil_ne_nil, Nat.zero_add, gT_load1, gT_loadn, gT_faddr, gT_nilck, gT_bin1, gT_bin2, gT_un, gT_len, gT_conv, gT_iaddr1, gT_iaddr2, gT_ext, gT_field, gT_pick1, gT_pick2, guardT_mvg, Bool.not_true, Bool.not_false, Bool.true_and, Bool.false_and, Bool.and_true, Bool.and_false, Bool.true_or, Bool.false_or, Bool.or_true, Bool.or_false, Bool.not_not, decide_true, decide_false, pick_orn]
    rw [condW_dec]
    refine ⟨fun hle => ?_, fun hgt => ?_⟩
    · have hp255 : p ≤ 255 := by omega
      have ho : o < 9223372036854775808 := by omega
      have hm : m < 9223372036854775808 := by omega
      have hg : g < 9223372036854775808 := by omega
      have ef4 : fillV [(.int .i64 0), (.int .i64 0), (.int .i64 0), (.int .i64 0)] [(0, 1, .int .i64 (p : Nat)), (1, 1, .int .i64 (o : Nat)), (2, 1, .int .i64 (m : Nat)), (3, 1, .int .i64 (g : Nat))] = some [.int .i64 (p : Nat), .int .i64 (o : Nat), .int .i64 (m : Nat), .int .i64 (g : Nat)] := rfl
      have st4 : storeS 4 (s.new (.cells [.int .i64 0, .int .i64 0, .int .i64 0, .int .i64 0])) (.ptr s.next 0) (.agg [.int .i64 (p : Nat), .int .i64 (o : Nat), .int .i64 (m : Nat), .int .i64 (g : Nat)]) = some ((s.new (.cells [.int .i64 0, .int .i64 0, .int .i64 0, .int .i64 0])).put s.next (.cells [.int .i64 (p : Nat), .int .i64 (o : Nat), .int .i64 (m : Nat), .int .i64 (g : Nat)])) :=
        store_ptr (n := 4) (vs := [.int .i64 (p : Nat), .int .i64 (o : Nat), .int .i64 (m : Nat), .int .i64 (g : Nat)]) (get_new_same _ _) rfl rfl (by simp)
      rw [u64_i64 ho, valW_some, u64_i64 hm, valW_some, u64_i64 hg, valW_some, ef4, csW_some, st4, stW_some]
      obtain ⟨s13, hs13⟩ : ∃ x, (s.new (.cells [.int .i64 0, .int .i64 0, .int .i64 0, .int .i64 0])).put s.next (.cells [.int .i64 (p : Nat), .int .i64 (o : Nat), .int .i64 (m : Nat), .int .i64 (g : Nat)]) = x := ⟨_, rfl⟩
      have j0 : s13.get s.next = some (.cells [.int .i64 (p : Nat), .int .i64 (o : Nat), .int .i64 (m : Nat), .int .i64 (g : Nat)]) := by rw [← hs13, get_put_same]
      have j1 : s13.get σ.next = some (.cells [.str key, .str val, .bool gone, .int .i64 t]) := by rw [← hs13, St.get_put, if_neg (by omega), St.get_new, if_neg (by omega)]; exact q1
      have j2 : s13.get (σ.next + 1) = some (.cells [.int .i64 0, .int .i64 0, .int .i64 0, .int .i64 0]) := by rw [← hs13, St.get_put, if_neg (by omega), St.get_new, if_neg (by omega)]; exact q2
      have jk : Kept σ.next σ s13 := by rw [← hs13]; exact (qk.new (by omega) _).put (by omega) (by omega) _
      have jn : s13.next = s.next + 1 := by rw [← hs13]; rfl
      have jl : loadnV s13 4 (.ptr s.next 0) = some (.agg [.int .i64 (p : Nat), .int .i64 (o : Nat), .int .i64 (m : Nat), .int .i64 (g : Nat)]) := loadn_ptr j0 (by simp)
      rw [hs13, jl, valW_some]
      have add1 : aBin .add .num (.int .i64 (p : Nat)) (.int .i64 1) = some (.int .i64 ((p : Int) + 1)) := i64_add (by omega) (by omega)
      have hval : ∀ {o' m' g' : Nat}, o' < 18446744073709551616 → m' < 18446744073709551616 → g' < 18446744073709551616 → val = uv o' ++ (uv m' ++ uv g') → o' = o ∧ m' = m ∧ g' = g := fun h1 h2 h3 h4 => hthree _ _ _ h1 h2 h3 h4
      refine refRecord_ret H (fun hok s14 hk14 => ?_) (fun hok s14 hk14 => ?_)
      · have l0 := hk14.at (l := s.next) (by omega) j0
        have l1 := hk14.at (l := σ.next) (by omega) j1
        have l2 := hk14.at (l := σ.next + 1) (by omega) j2
        have lk : Kept σ.next σ s14 := jk.trans (hk14.lower (by omega))
        have ln := hk14.next
        have st5 : storeS 4 (s14.new (.cells [.str [], .str [], .bool false, .int .i64 0])) (.ptr s14.next 0) (recAV (keyS p) (valueS o m g) 0) = some ((s14.new (.cells [.str [], .str [], .bool false, .int .i64 0])).put s14.next (.cells [.str (keyS p), .str (valueS o m g), .bool false, .int .i64 0])) :=
          store_ptr (n := 4) (vs := [.str (keyS p), .str (valueS o m g), .bool false, .int .i64 0]) (get_new_same _ _) rfl rfl (by simp)
        have d0 : decide ((0 : Int) = 0) = true := rfl
        simp only [Int.toNat_natCast, st5, d0, valW_some, stW_some, csW_some, optW_some, condW_true, condW_false, guardW_t, guardW_f, guardT_mv, guardT_true, guardT_false, gv_true, gv_false, pick_and, pick_or, pick_t, pick_f, nilck_ptr, faddr_ptr, ext_0, ext_1, ext_2, not_bool, cells_agg, newW_eq, mapW_eq, int_lss, int_leq, int_gtr, int_geq, int_eql, int_neq, ptr_eq_nil, ptr_ne_nil, nil_eq_nil, nil_ne_nil, Nat.zero_add, gT_load1, gT_loadn, gT_faddr, gT_nilck, gT_bin1, gT_bin2, gT_un, gT_len, gT_conv, gT_iaddr1, gT_iaddr2, gT_ext, gT_field, gT_pick1, gT_pick2, guardT_mvg, Bool.not_true, Bool.not_false, Bool.true_and, Bool.false_and, Bool.and_true, Bool.and_false, Bool.true_or, Bool.false_or, Bool.or_true, Bool.or_false, Bool.not_not, decide_true, decide_false, pick_orn]
        obtain ⟨s16, hs16⟩ : ∃ x, (s14.new (.cells [.str [], .str [], .bool false, .int .i64 0])).put s14.next (.cells [.str (keyS p), .str (valueS o m g), .bool false, .int .i64 0]) = x := ⟨_, rfl⟩
        have r34 : s16.get s14.next = some (.cells [.str (keyS p), .str (valueS o m g), .bool false, .int .i64 0]) := by rw [← hs16, get_put_same]
        have r0 : s16.get s.next = some (.cells [.int .i64 (p : Nat), .int .i64 (o : Nat), .int .i64 (m : Nat), .int .i64 (g : Nat)]) := by rw [← hs16, St.get_put, if_neg (by omega), St.get_new, if_neg (by omega)]; exact l0
        have r1 : s16.get σ.next = some (.cells [.str key, .str val, .bool gone, .int .i64 t]) := by rw [← hs16, St.get_put, if_neg (by omega), St.get_new, if_neg (by omega)]; exact l1
        have r2 : s16.get (σ.next + 1) = some (.cells [.int .i64 0, .int .i64 0, .int .i64 0, .int .i64 0]) := by rw [← hs16, St.get_put, if_neg (by omega), St.get_new, if_neg (by omega)]; exact l2
        have rk : Kept σ.next σ s16 := by rw [← hs16]; exact (lk.new (by omega) _).put (by omega) (by omega) _
        have rn : s16.next = s14.next + 1 := by rw [← hs16]; rfl
        have k0 : load1V s16 (.ptr s14.next 0) = some (.str (keyS p)) := load1_ptr r34 rfl
        have k1 : load1V s16 (.ptr s14.next 1) = some (.str (valueS o m g)) := load1_ptr r34 rfl
        have k2 : load1V s16 (.ptr σ.next 0) = some (.str key) := load1_ptr r1 rfl
        have k3 : load1V s16 (.ptr σ.next 1) = some (.str val) := load1_ptr r1 rfl
        have k4 : load1V s16 (.ptr σ.next 2) = some (.bool gone) := load1_ptr r1 rfl
        have k5 : loadnV s16 4 (.ptr s.next 0) = some (comAV p o m g) := loadn_ptr r0 (by simp)
        simp only [hs16, k0, k1, k2, k3, k4, k5, str_eql, valW_some, stW_some, csW_some, optW_some, condW_true, condW_false, guardW_t, guardW_f, guardT_mv, guardT_true, guardT_false, gv_true, gv_false, pick_and, pick_or, pick_t, pick_f, nilck_ptr, faddr_ptr, ext_0, ext_1, ext_2, not_bool, cells_agg, newW_eq, mapW_eq, int_lss, int_leq, int_gtr, int_geq, int_eql, int_neq, ptr_eq_nil, ptr_ne_nil, nil_eq_nil, nil_ne_nil, Nat.zero_add, gT_load1, gT_loadn, gT_faddr, gT_nilck, gT_bin1, gT_bin2, gT_un, gT_len, gT_conv, gT_iaddr1, gT_iaddr2, gT_ext, gT_field, gT_pick1, gT_pick2, guardT_mvg, Bool.not_true, Bool.not_false, Bool.true_and, Bool.false_and, Bool.and_true, Bool.and_false, Bool.true_or, Bool.false_or, Bool.or_true, Bool.or_false, Bool.not_not, decide_true, decide_false, pick_orn]
        have hmay : mayB (p : Nat) (o : Nat) (m : Nat) (g : Nat) = true := by
          unfold okB at hok; simp only [Bool.and_eq_true] at hok; exact hok.1
        rw [mayB_iff] at hmay
        have hvs : valueS (o : Nat) (m : Nat) (g : Nat) = uv o ++ (uv m ++ uv g) := by simp [valueS]
        rw [condW_bool]
        refine ⟨fun hc => ?_, fun hc => ?_⟩
        · simp only [Bool.and_eq_true, decide_eq_true_eq, Bool.not_eq_true'] at hc
          obtain ⟨⟨x1, x2⟩, x3⟩ := hc
          have te : storeS 4 s16 (.ptr (σ.next + 1) 0) (comAV p o m g) = some (s16.put (σ.next + 1) (.cells [.int .i64 (p : Nat), .int .i64 (o : Nat), .int .i64 (m : Nat), .int .i64 (g : Nat)])) :=
            store_ptr (n := 4) (vs := [.int .i64 (p : Nat), .int .i64 (o : Nat), .int .i64 (m : Nat), .int .i64 (g : Nat)]) r2 rfl rfl (by simp)
          have tf : loadnV (s16.put (σ.next + 1) (.cells [.int .i64 (p : Nat), .int .i64 (o : Nat), .int .i64 (m : Nat), .int .i64 (g : Nat)])) 4 (.ptr (σ.next + 1) 0) = some (comAV p o m g) := loadn_ptr (get_put_same _ _ _) (by simp)
          simp only [te, tf, valW_some, stW_some, csW_some, optW_some, condW_true, condW_false, guardW_t, guardW_f, guardT_mv, guardT_true, guardT_false, gv_true, gv_false, pick_and, pick_or, pick_t, pick_f, nilck_ptr, faddr_ptr, ext_0, ext_1, ext_2, not_bool, cells_agg, newW_eq, mapW_eq, int_lss, int_leq, int_gtr, int_geq, int_eql, int_neq, ptr_eq_nil, ptr_ne_nil, nil_eq_nil, nil_ne_nil, Nat.zero_add, gT_load1, gT_loadn, gT_faddr, gT_nilck, gT_bin1, gT_bin2, gT_un, gT_len, gT_conv, gT_iaddr1, gT_iaddr2, gT_ext, gT_field, gT_pick1, gT_pick2, guardT_mvg, Bool.not_true, Bool.not_false, Bool.true_and, Bool.false_and, Bool.and_true, Bool.and_false, Bool.true_or, Bool.false_or, Bool.or_true, Bool.or_false, Bool.not_not, decide_true, decide_false, pick_orn]
          exact h1 p o m g _ ⟨by omega, by omega, by omega, by omega, x1.symm, by rw [← x2, hvs], x3⟩ (rk.put (by omega) (by omega) _)
        · simp only [add1, valW_some, stW_some, csW_some, optW_some, condW_true, condW_false, guardW_t, guardW_f, guardT_mv, guardT_true, guardT_false, gv_true, gv_false, pick_and, pick_or, pick_t, pick_f, nilck_ptr, faddr_ptr, ext_0, ext_1, ext_2, not_bool, cells_agg, newW_eq, mapW_eq, int_lss, int_leq, int_gtr, int_geq, int_eql, int_neq, ptr_eq_nil, ptr_ne_nil, nil_eq_nil, nil_ne_nil, Nat.zero_add, gT_load1, gT_loadn, gT_faddr, gT_nilck, gT_bin1, gT_bin2, gT_un, gT_len, gT_conv, gT_iaddr1, gT_iaddr2, gT_ext, gT_field, gT_pick1, gT_pick2, guardT_mvg, Bool.not_true, Bool.not_false, Bool.true_and, Bool.false_and, Bool.and_true, Bool.and_false, Bool.true_or, Bool.false_or, Bool.or_true, Bool.or_false, Bool.not_not, decide_true, decide_false, pick_orn]
          refine hN1 _ hp255 r1 r2 (by omega) rk ?_
          rintro ⟨c1, c2, c3, c4, c5, c6, c7⟩
          subst c5 c6 c7
          rw [hvs] at hc
          simp at hc
      · have l1 := hk14.at (l := σ.next) (by omega) j1
        have l2 := hk14.at (l := σ.next + 1) (by omega) j2
        have lk : Kept σ.next σ s14 := jk.trans (hk14.lower (by omega))
        have ln := hk14.next
        have st5 : storeS 4 (s14.new (.cells [.str [], .str [], .bool false, .int .i64 0])) (.ptr s14.next 0) (recAV [] [] 0) = some ((s14.new (.cells [.str [], .str [], .bool false, .int .i64 0])).put s14.next (.cells [.str [], .str [], .bool false, .int .i64 0])) :=
          store_ptr (n := 4) (vs := [.str [], .str [], .bool false, .int .i64 0]) (get_new_same _ _) rfl rfl (by simp)
        have d0 : decide ((2 : Int) = 0) = false := rfl
        simp only [st5, d0, add1, valW_some, stW_some, csW_some, optW_some, condW_true, condW_false, guardW_t, guardW_f, guardT_mv, guardT_true, guardT_false, gv_true, gv_false, pick_and, pick_or, pick_t, pick_f, nilck_ptr, faddr_ptr, ext_0, ext_1, ext_2, not_bool, cells_agg, newW_eq, mapW_eq, int_lss, int_leq, int_gtr, int_geq, int_eql, int_neq, ptr_eq_nil, ptr_ne_nil, nil_eq_nil, nil_ne_nil, Nat.zero_add, gT_load1, gT_loadn, gT_faddr, gT_nilck, gT_bin1, gT_bin2, gT_un, gT_len, gT_conv, gT_iaddr1, gT_iaddr2, gT_ext, gT_field, gT_pick1, gT_pick2, guardT_mvg, Bool.not_true, Bool.not_false, Bool.true_and, Bool.false_and, Bool.and_true, Bool.and_false, Bool.true_or, Bool.false_or, Bool.or_true, Bool.or_false, Bool.not_not, decide_true, decide_false, pick_orn]
        refine hN1 _ hp255 ?_ ?_ ?_ ((lk.new (by omega) _).put (by omega) (by omega) _) ?_
        · rw [St.get_put, if_neg (by omega), St.get_new, if_neg (by omega)]; exact l1
        · rw [St.get_put, if_neg (by omega), St.get_new, if_neg (by omega)]; exact l2
        · simp only [St.next_put, St.next_new]; omega
        · rintro ⟨c1, c2, c3, c4, c5, c6, c7⟩
          have : okB (p : Nat) (o : Nat) (m : Nat) (g : Nat) 0 = true := by
            unfold okB
            have : mayB (p : Nat) (o : Nat) (m : Nat) (g : Nat) = true := by rw [mayB_iff]; omega
            rw [this]; rfl
          rw [hok] at this; cases this
    · refine hfail ?_ s _ rfl q2 qk
      rintro ⟨p', o', m', g', hgd⟩
      have hgd' := hgd
      obtain ⟨c1, c2, c3, c4, c5, c6, c7⟩ := hgd'
      obtain ⟨rfl, rfl, rfl⟩ := hthree o' m' g' (by omega) (by omega) (by omega) c6
      exact qno p' (by omega) hgd
end Go.AM.P

import Derived.Test.YthbkgikjaiaigaaGreatY4Off3
namespace Go.AM.P
set_option linter.all false
open Go.AM
set_option linter.all false
variable {P : Program} {σ : St} {K : AV → St → Prop}

theorem dig_one {q : Nat} (hq : q < 10) : sslcV (.str [48, 49, 50, 51, 52, 53, 54, 55, 56, 57]) (some (.int .i64 (q : Nat))) (some (.int .i64 ((q + 1 : Nat) : Int))) = some (.str [48 + q]) := by
  match q, hq with
  | 0, _ | 1, _ | 2, _ | 3, _ | 4, _ | 5, _ | 6, _ | 7, _ | 8, _ | 9, _ => rfl

theorem str_add {a b : List Nat} (h : a.length + b.length ≤ 1099511627776) : aBin .add .str (.str a) (.str b) = some (.str (a ++ b)) := by
  simp only [aBin]
  rw [if_pos h]

theorem digits_ret (H : Has P tab) {p : Nat} (hp : p ≤ 999) (hK : K (.str [48 + p / 100, 48 + p / 10 % 10, 48 + p % 10]) σ) : Ret P N.towpathref14_digits [.int .i64 (p : Nat)] σ K := by
  refine r_towpathref14_digits H ?_
  rw [w_towpathref14_digits_eq]
  have e1 : aBin .quo .num (.int .i64 (p : Nat)) (.int .i64 100) = some (.int .i64 ((p / 100 : Nat) : Int)) := i64_quo (b := 100) (by omega) (by omega)
  have e2 : aBin .quo .num (.int .i64 (p : Nat)) (.int .i64 10) = some (.int .i64 ((p / 10 : Nat) : Int)) := i64_quo (b := 10) (by omega) (by omega)
  have e3 : aBin .rem .num (.int .i64 ((p / 10 : Nat) : Int)) (.int .i64 10) = some (.int .i64 ((p / 10 % 10 : Nat) : Int)) := i64_rem (b := 10) (by omega)
  have e4 : aBin .rem .num (.int .i64 (p : Nat)) (.int .i64 10) = some (.int .i64 ((p % 10 : Nat) : Int)) := i64_rem (b := 10) (by omega)
  have a1 : ∀ q : Nat, q < 10 → aBin .add .num (.int .i64 (q : Nat)) (.int .i64 1) = some (.int .i64 ((q + 1 : Nat) : Int)) := fun q hq => i64_addn (b := 1) (by omega)
  have s1 : aBin .add .str (.str [48 + p / 100]) (.str [48 + p / 10 % 10]) = some (.str [48 + p / 100, 48 + p / 10 % 10]) := str_add (by simp)
  have s2 : aBin .add .str (.str [48 + p / 100, 48 + p / 10 % 10]) (.str [48 + p % 10]) = some (.str [48 + p / 100, 48 + p / 10 % 10, 48 + p % 10]) := str_add (by simp)
  simp only [e1, e2, e3, e4, a1 _ (by omega : p / 100 < 10), a1 _ (by omega : p / 10 % 10 < 10), a1 _ (by omega : p % 10 < 10), dig_one (by omega : p / 100 < 10), dig_one (by omega : p / 10 % 10 < 10), dig_one (by omega : p % 10 < 10), s1, s2, valW_some, stW_some, csW_some, optW_some, condW_true, condW_false, guardW_t, guardW_f, guardT_mv, guardT_true, guardT_false, gv_true, gv_false, pick_and, pick_or, pick_t, pick_f, nilck_ptr, faddr_ptr, ext_0, ext_1, ext_2, not_bool, cells_agg, newW_eq, mapW_eq, int_lss, int_leq, int_gtr, int_geq, int_eql, int_neq, ptr_eq_nil, ptr_ne_nil, nil_eq_nil, nil_ne_nil, Nat.zero_add, gT_load1, gT_loadn, gT_faddr, gT_nilck, gT_bin1, gT_bin2, gT_un, gT_len, gT_conv, gT_iaddr1, gT_iaddr2, gT_ext, gT_field, gT_pick1, gT_pick2, guardT_mvg, Bool.not_true, Bool.not_false, Bool.true_and, Bool.false_and, Bool.and_true, Bool.and_false, Bool.true_or, Bool.false_or, Bool.or_true, Bool.or_false, Bool.not_not, decide_true, decide_false, pick_orn]
  exact ⟨trivial, hK⟩

theorem refRecord_ret (H : Has P tab) {p o m g t : Int}
    (h1 : okB p o m g t = true → ∀ σ', Kept σ.next σ σ' → K (.tup [recAV (keyS p.toNat) (valueS o m g) t, .int .i64 0]) σ')
    (h2 : okB p o m g t = false → ∀ σ', Kept σ.next σ σ' → K (.tup [recAV [] [] 0, .int .i64 2]) σ') :
    Ret P N.towpathref14_Record [.agg [.int .i64 p, .int .i64 o, .int .i64 m, .int .i64 g], .int .i64 t] σ K := by
  refine r_towpathref14_Record H ?_
  rw [w_towpathref14_Record_eq]
  simp only [valW_some, stW_some, csW_some, optW_some, condW_true, condW_false, guardW_t, guardW_f, guardT_mv, guardT_true, guardT_false, gv_true, gv_false, pick_and, pick_or, pick_t, pick_f, nilck_ptr, faddr_ptr, ext_0, ext_1, ext_2, not_bool, cells_agg, newW_eq, mapW_eq, int_lss, int_leq, int_gtr, int_geq, int_eql, int_neq, ptr_eq_nil, ptr_ne_nil, nil_eq_nil, nil_ne_nil, Nat.zero_add, gT_load1, gT_loadn, gT_faddr, gT_nilck, gT_bin1, gT_bin2, gT_un, gT_len, gT_conv, gT_iaddr1, gT_iaddr2, gT_ext, gT_field, gT_pick1, gT_pick2, guardT_mvg, Bool.not_true, Bool.not_false, Bool.true_and, Bool.false_and, Bool.and_true, Bool.and_false, Bool.true_or, Bool.false_or, Bool.or_true, Bool.or_false, Bool.not_not, decide_true, decide_false, pick_orn]
  obtain ⟨s3, hs2⟩ : ∃ s2, (σ.new (.cells [.int .i64 p, .int .i64 o, .int .i64 m, .int .i64 g])).new (.cells [.str [], .str [], .bool false, .int .i64 0]) = s2 := ⟨_, rfl⟩
  have hn : s3.next = σ.next + 2 := by rw [← hs2]; rfl
  have hE : Ext σ s3 := by rw [← hs2]; exact ((Ext.refl σ).new _).new _
  have g2' : s3.get σ.next = some (.cells [.int .i64 p, .int .i64 o, .int .i64 m, .int .i64 g]) := by
    rw [← hs2]; simp [St.get_new]
  have g3' : s3.get (σ.next + 1) = some (.cells [.str [], .str [], .bool false, .int .i64 0]) := by
    rw [← hs2]; simp [St.get_new]
  rw [hs2]
  have c0 : load1V s3 (.ptr σ.next 0) = some (.int .i64 p) := load1_ptr g2' rfl
  have c1 : load1V s3 (.ptr σ.next 1) = some (.int .i64 o) := load1_ptr g2' rfl
  have c2 : load1V s3 (.ptr σ.next 2) = some (.int .i64 m) := load1_ptr g2' rfl
  have c3 : load1V s3 (.ptr σ.next 3) = some (.int .i64 g) := load1_ptr g2' rfl
  have e8 : (σ.new (.cells [.int .i64 p, .int .i64 o, .int .i64 m, .int .i64 g])).next = σ.next + 1 := rfl
  simp only [e8, c0, c1, c2, c3, valW_some, stW_some, csW_some, optW_some, condW_true, condW_false, guardW_t, guardW_f, guardT_mv, guardT_true, guardT_false, gv_true, gv_false, pick_and, pick_or, pick_t, pick_f, nilck_ptr, faddr_ptr, ext_0, ext_1, ext_2, not_bool, cells_agg, newW_eq, mapW_eq, int_lss, int_leq, int_gtr, int_geq, int_eql, int_neq, ptr_eq_nil, ptr_ne_nil, nil_eq_nil, nil_ne_nil, Nat.zero_add, gT_load1, gT_loadn, gT_faddr, gT_nilck, gT_bin1, gT_bin2, gT_un, gT_len, gT_conv, gT_iaddr1, gT_iaddr2, gT_ext, gT_field, gT_pick1, gT_pick2, guardT_mvg, Bool.not_true, Bool.not_false, Bool.true_and, Bool.false_and, Bool.and_true, Bool.and_false, Bool.true_or, Bool.false_or, Bool.or_true, Bool.or_false, Bool.not_not, decide_true, decide_false, pick_orn]
  rw [condW_bool]
  have hcond : (decide (p < 0) || decide (p > 255) || decide (o < 0) || decide (o > 1099511627776) || decide (m < 0) || decide (m > 64) || decide (g < 0) || decide (g > 2147483647) || decide (t < 0) || decide (t > 1099511627776)) = !okB p o m g t := by
    rw [Bool.eq_iff_iff]
    simp only [okB, mayB, Bool.or_eq_true, decide_eq_true_eq, Bool.not_eq_true', Bool.and_eq_false_iff, decide_eq_false_iff_not]
    omega
  rw [hcond]
  have hK3 : Kept σ.next σ s3 := hE.kept (Nat.le_refl _)
  refine ⟨fun hok => ?_, fun hok => ?_⟩
  · have e5 : fillV [(.str []), (.str []), (.bool false), (.int .i64 0)] [] = some [(.str []), (.str []), (.bool false), (.int .i64 0)] := rfl
    have e6 : storeS 4 s3 (.ptr (σ.next + 1) 0) (.agg [(.str []), (.str []), (.bool false), (.int .i64 0)]) = some (s3.put (σ.next + 1) (.cells [(.str []), (.str []), (.bool false), (.int .i64 0)])) := store_ptr (n := 4) (vs := [(.str []), (.str []), (.bool false), (.int .i64 0)]) g3' rfl rfl (by simp)
    have e7 : loadnV (s3.put (σ.next + 1) (.cells [(.str []), (.str []), (.bool false), (.int .i64 0)])) 4 (.ptr (σ.next + 1) 0) = some (.agg [(.str []), (.str []), (.bool false), (.int .i64 0)]) := loadn_ptr (get_put_same _ _ _) (by simp)
    simp only [e5, e6, e7, valW_some, stW_some, csW_some, optW_some, condW_true, condW_false, guardW_t, guardW_f, guardT_mv, guardT_true, guardT_false, gv_true, gv_false, pick_and, pick_or, pick_t, pick_f, nilck_ptr, faddr_ptr, ext_0, ext_1, ext_2, not_bool, cells_agg, newW_eq, mapW_eq, int_lss, int_leq, int_gtr, int_geq, int_eql, int_neq, ptr_eq_nil, ptr_ne_nil, nil_eq_nil, nil_ne_nil, Nat.zero_add, gT_load1, gT_loadn, gT_faddr, gT_nilck, gT_bin1, gT_bin2, gT_un, gT_len, gT_conv, gT_iaddr1, gT_iaddr2, gT_ext, gT_field, gT_pick1, gT_pick2, guardT_mvg, Bool.not_true, Bool.not_false, Bool.true_and, Bool.false_and, Bool.and_true, Bool.and_false, Bool.true_or, Bool.false_or, Bool.or_true, Bool.or_false, Bool.not_not, decide_true, decide_false, pick_orn]
    exact h2 (by simpa using hok) _ (hK3.put (by omega) (by omega) _)
  · have hok' : okB p o m g t = true := by simpa using hok
    have hm := hok'
    unfold okB at hm
    simp only [Bool.and_eq_true, decide_eq_true_eq] at hm
    obtain ⟨hm, ht0, ht1⟩ := hm
    rw [mayB_iff] at hm
    obtain ⟨p0, p1, o0, o1, m0, m1, q0, q1⟩ := hm
    have hL1 := uv_len10 (n := o.toNat) (by omega)
    have hL2 := uv_len10 (n := m.toNat) (by omega)
    have hL3 := uv_len10 (n := g.toNat) (by omega)
    simp only [i64_u64 o0 (by omega), valW_some, stW_some, csW_some, optW_some, condW_true, condW_false, guardW_t, guardW_f, guardT_mv, guardT_true, guardT_false, gv_true, gv_false, pick_and, pick_or, pick_t, pick_f, nilck_ptr, faddr_ptr, ext_0, ext_1, ext_2, not_bool, cells_agg, newW_eq, mapW_eq, int_lss, int_leq, int_gtr, int_geq, int_eql, int_neq, ptr_eq_nil, ptr_ne_nil, nil_eq_nil, nil_ne_nil, Nat.zero_add, gT_load1, gT_loadn, gT_faddr, gT_nilck, gT_bin1, gT_bin2, gT_un, gT_len, gT_conv, gT_iaddr1, gT_iaddr2, gT_ext, gT_field, gT_pick1, gT_pick2, guardT_mvg, Bool.not_true, Bool.not_false, Bool.true_and, Bool.false_and, Bool.and_true, Bool.and_false, Bool.true_or, Bool.false_or, Bool.or_true, Bool.or_false, Bool.not_not, decide_true, decide_false, pick_orn]
    refine (ref_Uint_ret H o.toNat _ (by omega)).mono ?_
    rintro v20 s9 ⟨w1, k1⟩
    have g2a := Kept.at k1 (l := σ.next) (by omega) g2'
    have g3a := Kept.at k1 (l := σ.next + 1) (by omega) g3'
    have hlt9 : s3.next ≤ s9.next := k1.next
    have l2 : load1V s9 (.ptr σ.next 2) = some (.int .i64 m) := load1_ptr g2a rfl
    simp only [l2, i64_u64 m0 (by omega), valW_some, stW_some, csW_some, optW_some, condW_true, condW_false, guardW_t, guardW_f, guardT_mv, guardT_true, guardT_false, gv_true, gv_false, pick_and, pick_or, pick_t, pick_f, nilck_ptr, faddr_ptr, ext_0, ext_1, ext_2, not_bool, cells_agg, newW_eq, mapW_eq, int_lss, int_leq, int_gtr, int_geq, int_eql, int_neq, ptr_eq_nil, ptr_ne_nil, nil_eq_nil, nil_ne_nil, Nat.zero_add, gT_load1, gT_loadn, gT_faddr, gT_nilck, gT_bin1, gT_bin2, gT_un, gT_len, gT_conv, gT_iaddr1, gT_iaddr2, gT_ext, gT_field, gT_pick1, gT_pick2, guardT_mvg, Bool.not_true, Bool.not_false, Bool.true_and, Bool.false_and, Bool.and_true, Bool.and_false, Bool.true_or, Bool.false_or, Bool.or_true, Bool.or_false, Bool.not_not, decide_true, decide_false, pick_orn]
    refine (ref_Uint_ret H m.toNat _ (by omega)).mono ?_
    rintro v24 s10 ⟨w2, k2⟩
    have g2b := Kept.at k2 (l := σ.next) (by omega) g2a
    have g3b := Kept.at k2 (l := σ.next + 1) (by omega) g3a
    have hlt10 : s9.next ≤ s10.next := k2.next
    obtain ⟨v74, s31, a1, a2, a3⟩ := app_bytes (w1.kept k2) (w2.flat.bytes s10) (by omega) (by omega)
    have g2c := Kept.at a3 (l := σ.next) (by omega) g2b
    have g3c := Kept.at a3 (l := σ.next + 1) (by omega) g3b
    have hlt31 : s10.next ≤ s31.next := a3.next
    have l3 : load1V s31 (.ptr σ.next 3) = some (.int .i64 g) := load1_ptr g2c rfl
    simp only [a1, l3, i64_u64 q0 (by omega), valW_some, stW_some, csW_some, optW_some, condW_true, condW_false, guardW_t, guardW_f, guardT_mv, guardT_true, guardT_false, gv_true, gv_false, pick_and, pick_or, pick_t, pick_f, nilck_ptr, faddr_ptr, ext_0, ext_1, ext_2, not_bool, cells_agg, newW_eq, mapW_eq, int_lss, int_leq, int_gtr, int_geq, int_eql, int_neq, ptr_eq_nil, ptr_ne_nil, nil_eq_nil, nil_ne_nil, Nat.zero_add, gT_load1, gT_loadn, gT_faddr, gT_nilck, gT_bin1, gT_bin2, gT_un, gT_len, gT_conv, gT_iaddr1, gT_iaddr2, gT_ext, gT_field, gT_pick1, gT_pick2, guardT_mvg, Bool.not_true, Bool.not_false, Bool.true_and, Bool.false_and, Bool.and_true, Bool.and_false, Bool.true_or, Bool.false_or, Bool.or_true, Bool.or_false, Bool.not_not, decide_true, decide_false, pick_orn]
    refine (ref_Uint_ret H g.toNat _ (by omega)).mono ?_
    rintro v28 s32 ⟨w3, k3⟩
    have g2d := Kept.at k3 (l := σ.next) (by omega) g2c
    have g3d := Kept.at k3 (l := σ.next + 1) (by omega) g3c
    have hlt32 : s31.next ≤ s32.next := k3.next
    obtain ⟨v79, s33, b1, b2, b3⟩ := app_bytes (a2.kept k3) (w3.flat.bytes s32) (by simp only [List.length_append]; omega) (by omega)
    have g2e := Kept.at b3 (l := σ.next) (by omega) g2d
    have g3e := Kept.at b3 (l := σ.next + 1) (by omega) g3d
    have l4 : load1V s33 (.ptr σ.next 0) = some (.int .i64 p) := load1_ptr g2e rfl
    have hp : p = ((p.toNat : Nat) : Int) := by omega
    simp only [b1, l4, valW_some, stW_some, csW_some, optW_some, condW_true, condW_false, guardW_t, guardW_f, guardT_mv, guardT_true, guardT_false, gv_true, gv_false, pick_and, pick_or, pick_t, pick_f, nilck_ptr, faddr_ptr, ext_0, ext_1, ext_2, not_bool, cells_agg, newW_eq, mapW_eq, int_lss, int_leq, int_gtr, int_geq, int_eql, int_neq, ptr_eq_nil, ptr_ne_nil, nil_eq_nil, nil_ne_nil, Nat.zero_add, gT_load1, gT_loadn, gT_faddr, gT_nilck, gT_bin1, gT_bin2, gT_un, gT_len, gT_conv, gT_iaddr1, gT_iaddr2, gT_ext, gT_field, gT_pick1, gT_pick2, guardT_mvg, Bool.not_true, Bool.not_false, Bool.true_and, Bool.false_and, Bool.and_true, Bool.and_false, Bool.true_or, Bool.false_or, Bool.or_true, Bool.or_false, Bool.not_not, decide_true, decide_false, pick_orn]
    rw [hp]
    refine digits_ret H (by omega) ?_
    have hval : uv o.toNat ++ uv m.toNat ++ uv g.toNat = valueS o m g := by simp [valueS]
    rw [hval] at b2
    have e34 := toStr_flat b2.flat valueS_lt s33
    have s1 : aBin .add .str (.str [111]) (.str [48 + p.toNat / 100, 48 + p.toNat / 10 % 10, 48 + p.toNat % 10]) = some (.str (keyS p.toNat)) := str_add (by simp)
    have e35 : fillV [(.str []), (.str []), (.bool false), (.int .i64 0)] [(0, 1, .str (keyS p.toNat)), (1, 1, .str (valueS o m g)), (3, 1, .int .i64 t)] = some [.str (keyS p.toNat), .str (valueS o m g), .bool false, .int .i64 t] := by
      simp [fillV, AV.cellsO, fillAt]
    have e36 : storeS 4 s33 (.ptr (σ.next + 1) 0) (.agg [.str (keyS p.toNat), .str (valueS o m g), .bool false, .int .i64 t]) = some (s33.put (σ.next + 1) (.cells [.str (keyS p.toNat), .str (valueS o m g), .bool false, .int .i64 t])) :=
      store_ptr (n := 4) (vs := [.str (keyS p.toNat), .str (valueS o m g), .bool false, .int .i64 t]) g3e rfl rfl (by simp)
    have e37 : loadnV (s33.put (σ.next + 1) (.cells [.str (keyS p.toNat), .str (valueS o m g), .bool false, .int .i64 t])) 4 (.ptr (σ.next + 1) 0) = some (recAV (keyS p.toNat) (valueS o m g) t) := loadn_ptr (get_put_same _ _ _) (by simp)
    simp only [s1, e34, e35, e36, valW_some, stW_some, csW_some, optW_some, condW_true, condW_false, guardW_t, guardW_f, guardT_mv, guardT_true, guardT_false, gv_true, gv_false, pick_and, pick_or, pick_t, pick_f, nilck_ptr, faddr_ptr, ext_0, ext_1, ext_2, not_bool, cells_agg, newW_eq, mapW_eq, int_lss, int_leq, int_gtr, int_geq, int_eql, int_neq, ptr_eq_nil, ptr_ne_nil, nil_eq_nil, nil_ne_nil, Nat.zero_add, gT_load1, gT_loadn, gT_faddr, gT_nilck, gT_bin1, gT_bin2, gT_un, gT_len, gT_conv, gT_iaddr1, gT_iaddr2, gT_ext, gT_field, gT_pick1, gT_pick2, guardT_mvg, Bool.not_true, Bool.not_false, Bool.true_and, Bool.false_and, Bool.and_true, Bool.and_false, Bool.true_or, Bool.false_or, Bool.or_true, Bool.or_false, Bool.not_not, decide_true, decide_false, pick_orn]
    refine ⟨by simp, ?_⟩
    simp only [e37, valW_some]
    exact h1 hok' _ ((((((hK3.trans (k1.lower (by omega))).trans (k2.lower (by omega))).trans (a3.lower (by omega))).trans (k3.lower (by omega))).trans (b3.lower (by omega))).put (by omega) (by omega) _)
end Go.AM.P

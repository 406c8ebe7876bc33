import Derived.Test.YthbkgikjaiaigaaGreatY4Off2
namespace Go.AM.P
set_option linter.all false
open Go.AM
set_option linter.all false
variable {P : Program} {σ : St} {K : AV → St → Prop}

def okB (p o m g t : Int) : Bool := mayB p o m g && (decide (t ≥ 0) && decide (t ≤ 1099511627776))

def valueS (o m g : Int) : List Nat := uv o.toNat ++ (uv m.toNat ++ uv g.toNat)

theorem i64_u64 {a : Int} (h0 : 0 ≤ a) (h : a < 18446744073709551616) (τ : St) : aConv (.int .u64) τ (.int .i64 a) = some (.int .u64 ((a.toNat : Nat) : Int)) := by
  show some (AV.int .u64 (IntKind.u64.wrap a)) = _
  rw [wrap_u64]; congr 2; omega

def recAV (k v : List Nat) (t : Int) : AV := .agg [.str k, .str v, .bool false, .int .i64 t]

theorem valueS_lt {o m g : Int} : ∀ c ∈ valueS o m g, c < 256 := by
  intro c hc
  simp only [valueS, List.mem_append] at hc
  rcases hc with h | h | h <;> exact uv_lt _ c h

theorem record_ret (H : Has P tab) {p o m g t : Int}
    (h1 : okB p o m g t = true → ∀ σ', Kept σ.next σ σ' → K (.tup [recAV (keyS p.toNat) (valueS o m g) t, .int .i64 0]) σ')
    (h2 : okB p o m g t = false → ∀ σ', Kept σ.next σ σ' → K (.tup [recAV [] [] 0, .int .i64 2]) σ') :
    Ret P N.offsets_Record [.agg [.int .i64 p, .int .i64 o, .int .i64 m, .int .i64 g], .int .i64 t] σ K := by
  refine r_offsets_Record H ?_
  rw [w_offsets_Record_eq]
  simp only [valW_some, stW_some, csW_some, optW_some, condW_true, condW_false, guardW_t, guardW_f, guardT_mv, guardT_true, guardT_false, gv_true, gv_false, pick_and, pick_or, pick_t, pick_f, nilck_ptr, faddr_ptr, ext_0, ext_1, ext_2, not_bool, cells_agg, newW_eq, mapW_eq, int_lss, int_leq, int_gtr, int_geq, int_eql, int_neq, ptr_eq_nil, ptr_ne_nil, nil_eq_nil, nil_ne_nil, Nat.zero_add, gT_load1, gT_loadn, gT_faddr, gT_nilck, gT_bin1, gT_bin2, gT_un, gT_len, gT_conv, gT_iaddr1, gT_iaddr2, gT_ext, gT_field, gT_pick1, gT_pick2, guardT_mvg, Bool.not_true, Bool.not_false, Bool.true_and, Bool.false_and, Bool.and_true, Bool.and_false, Bool.true_or, Bool.false_or, Bool.or_true, Bool.or_false, Bool.not_not, decide_true, decide_false, pick_orn]
  obtain ⟨s2, hs2⟩ : ∃ s2, (σ.new (.cells [.int .i64 p, .int .i64 o, .int .i64 m, .int .i64 g])).new (.cells [.str [], .str [], .bool false, .int .i64 0]) = s2 := ⟨_, rfl⟩
  have hn : s2.next = σ.next + 2 := by rw [← hs2]; rfl
  have hE : Ext σ s2 := by rw [← hs2]; exact ((Ext.refl σ).new _).new _
  have g2 : s2.get σ.next = some (.cells [.int .i64 p, .int .i64 o, .int .i64 m, .int .i64 g]) := by
    rw [← hs2]; simp [St.get_new]
  have g3 : s2.get (σ.next + 1) = some (.cells [.str [], .str [], .bool false, .int .i64 0]) := by
    rw [← hs2]; simp [St.get_new]
  rw [hs2]
  have e4 : loadnV s2 4 (.ptr σ.next 0) = some (.agg [.int .i64 p, .int .i64 o, .int .i64 m, .int .i64 g]) := loadn_ptr g2 (by simp)
  simp only [e4, valW_some, stW_some, csW_some, optW_some, condW_true, condW_false, guardW_t, guardW_f, guardT_mv, guardT_true, guardT_false, gv_true, gv_false, pick_and, pick_or, pick_t, pick_f, nilck_ptr, faddr_ptr, ext_0, ext_1, ext_2, not_bool, cells_agg, newW_eq, mapW_eq, int_lss, int_leq, int_gtr, int_geq, int_eql, int_neq, ptr_eq_nil, ptr_ne_nil, nil_eq_nil, nil_ne_nil, Nat.zero_add, gT_load1, gT_loadn, gT_faddr, gT_nilck, gT_bin1, gT_bin2, gT_un, gT_len, gT_conv, gT_iaddr1, gT_iaddr2, gT_ext, gT_field, gT_pick1, gT_pick2, guardT_mvg, Bool.not_true, Bool.not_false, Bool.true_and, Bool.false_and, Bool.and_true, Bool.and_false, Bool.true_or, Bool.false_or, Bool.or_true, Bool.or_false, Bool.not_not, decide_true, decide_false, pick_orn]
  refine may_ret H fun s3 hE3 => ?_
  have g2' := hE3.keep (by omega) g2
  have g3' := hE3.keep (l := σ.next + 1) (by omega) g3
  simp only [valW_some, stW_some, csW_some, optW_some, condW_true, condW_false, guardW_t, guardW_f, guardT_mv, guardT_true, guardT_false, gv_true, gv_false, pick_and, pick_or, pick_t, pick_f, nilck_ptr, faddr_ptr, ext_0, ext_1, ext_2, not_bool, cells_agg, newW_eq, mapW_eq, int_lss, int_leq, int_gtr, int_geq, int_eql, int_neq, ptr_eq_nil, ptr_ne_nil, nil_eq_nil, nil_ne_nil, Nat.zero_add, gT_load1, gT_loadn, gT_faddr, gT_nilck, gT_bin1, gT_bin2, gT_un, gT_len, gT_conv, gT_iaddr1, gT_iaddr2, gT_ext, gT_field, gT_pick1, gT_pick2, guardT_mvg, Bool.not_true, Bool.not_false, Bool.true_and, Bool.false_and, Bool.and_true, Bool.and_false, Bool.true_or, Bool.false_or, Bool.or_true, Bool.or_false, Bool.not_not, decide_true, decide_false, pick_orn]
  rw [condW_bool]
  have hcond : (!mayB p o m g || decide (t < 0) || decide (t > 1099511627776)) = !okB p o m g t := by
    unfold okB
    cases mayB p o m g
    · simp
    · simp only [Bool.not_true, Bool.false_or, Bool.true_and]
      by_cases h0 : t < 0
      · simp [h0] <;> omega
      · by_cases h3 : t > 1099511627776
        · simp [h0, h3] <;> omega
        · simp [h0, h3] <;> omega
  rw [hcond]
  have hK3 : Kept σ.next σ s3 := (hE.trans hE3).kept (Nat.le_refl _)
  refine ⟨fun hok => ?_, fun hok => ?_⟩
  · have e5 : fillV [(.str []), (.str []), (.bool false), (.int .i64 0)] [] = some [(.str []), (.str []), (.bool false), (.int .i64 0)] := rfl
    have e6 : storeS 4 s3 (.ptr (σ.next + 1) 0) (.agg [(.str []), (.str []), (.bool false), (.int .i64 0)]) = some (s3.put (σ.next + 1) (.cells [(.str []), (.str []), (.bool false), (.int .i64 0)])) := store_ptr (n := 4) (vs := [(.str []), (.str []), (.bool false), (.int .i64 0)]) g3' rfl rfl (by simp)
    have e7 : loadnV (s3.put (σ.next + 1) (.cells [(.str []), (.str []), (.bool false), (.int .i64 0)])) 4 (.ptr (σ.next + 1) 0) = some (.agg [(.str []), (.str []), (.bool false), (.int .i64 0)]) := loadn_ptr (get_put_same _ _ _) (by simp)
    have e8 : (σ.new (.cells [.int .i64 p, .int .i64 o, .int .i64 m, .int .i64 g])).next = σ.next + 1 := rfl
    simp only [e5, e6, e7, e8, valW_some, stW_some, csW_some, optW_some, condW_true, condW_false, guardW_t, guardW_f, guardT_mv, guardT_true, guardT_false, gv_true, gv_false, pick_and, pick_or, pick_t, pick_f, nilck_ptr, faddr_ptr, ext_0, ext_1, ext_2, not_bool, cells_agg, newW_eq, mapW_eq, int_lss, int_leq, int_gtr, int_geq, int_eql, int_neq, ptr_eq_nil, ptr_ne_nil, nil_eq_nil, nil_ne_nil, Nat.zero_add, gT_load1, gT_loadn, gT_faddr, gT_nilck, gT_bin1, gT_bin2, gT_un, gT_len, gT_conv, gT_iaddr1, gT_iaddr2, gT_ext, gT_field, gT_pick1, gT_pick2, guardT_mvg, Bool.not_true, Bool.not_false, Bool.true_and, Bool.false_and, Bool.and_true, Bool.and_false, Bool.true_or, Bool.false_or, Bool.or_true, Bool.or_false, Bool.not_not, decide_true, decide_false, pick_orn]
    exact h2 (by simpa using hok) _ (hK3.put (by omega) (by omega) _)
  · have hok' : okB p o m g t = true := by simpa using hok
    have hm := hok'
    unfold okB at hm
    simp only [Bool.and_eq_true, decide_eq_true_eq] at hm
    obtain ⟨hm, ht0, ht1⟩ := hm
    rw [mayB_iff] at hm
    obtain ⟨p0, p1, o0, o1, m0, m1, q0, q1⟩ := hm
    have l1 : load1V s3 (.ptr σ.next 1) = some (.int .i64 o) := load1_ptr g2' rfl
    simp only [l1, i64_u64 o0 (by omega), valW_some, stW_some, csW_some, optW_some, condW_true, condW_false, guardW_t, guardW_f, guardT_mv, guardT_true, guardT_false, gv_true, gv_false, pick_and, pick_or, pick_t, pick_f, nilck_ptr, faddr_ptr, ext_0, ext_1, ext_2, not_bool, cells_agg, newW_eq, mapW_eq, int_lss, int_leq, int_gtr, int_geq, int_eql, int_neq, ptr_eq_nil, ptr_ne_nil, nil_eq_nil, nil_ne_nil, Nat.zero_add, gT_load1, gT_loadn, gT_faddr, gT_nilck, gT_bin1, gT_bin2, gT_un, gT_len, gT_conv, gT_iaddr1, gT_iaddr2, gT_ext, gT_field, gT_pick1, gT_pick2, guardT_mvg, Bool.not_true, Bool.not_false, Bool.true_and, Bool.false_and, Bool.and_true, Bool.and_false, Bool.true_or, Bool.false_or, Bool.or_true, Bool.or_false, Bool.not_not, decide_true, decide_false, pick_orn]
    refine (wire_Uint_ret H (n := o.toNat) (by omega)).mono ?_
    rintro v20 s9 ⟨w1, k1, n1⟩
    have hlt2 : σ.next + 2 ≤ s3.next := by have := hE3.next; omega
    have g2a := Kept.at k1 (l := σ.next) (by omega) g2'
    have g3a := Kept.at k1 (l := σ.next + 1) (by omega) g3'
    have hlt9 : s3.next ≤ s9.next := k1.next
    have l2 : load1V s9 (.ptr σ.next 2) = some (.int .i64 m) := load1_ptr g2a rfl
    have l2' : load1V s3 (.ptr σ.next 2) = some (.int .i64 m) := load1_ptr g2' rfl
    simp only [l2, i64_u64 m0 (by omega), valW_some, stW_some, csW_some, optW_some, condW_true, condW_false, guardW_t, guardW_f, guardT_mv, guardT_true, guardT_false, gv_true, gv_false, pick_and, pick_or, pick_t, pick_f, nilck_ptr, faddr_ptr, ext_0, ext_1, ext_2, not_bool, cells_agg, newW_eq, mapW_eq, int_lss, int_leq, int_gtr, int_geq, int_eql, int_neq, ptr_eq_nil, ptr_ne_nil, nil_eq_nil, nil_ne_nil, Nat.zero_add, gT_load1, gT_loadn, gT_faddr, gT_nilck, gT_bin1, gT_bin2, gT_un, gT_len, gT_conv, gT_iaddr1, gT_iaddr2, gT_ext, gT_field, gT_pick1, gT_pick2, guardT_mvg, Bool.not_true, Bool.not_false, Bool.true_and, Bool.false_and, Bool.and_true, Bool.and_false, Bool.true_or, Bool.false_or, Bool.or_true, Bool.or_false, Bool.not_not, decide_true, decide_false, pick_orn]
    refine (wire_Uint_ret H (n := m.toNat) (by omega)).mono ?_
    rintro v24 s10 ⟨w2, k2, n2⟩
    have g2b := Kept.at k2 (l := σ.next) (by omega) g2a
    have g3b := Kept.at k2 (l := σ.next + 1) (by omega) g3a
    have hlt10 : s9.next ≤ s10.next := k2.next
    have l3 : load1V s10 (.ptr σ.next 3) = some (.int .i64 g) := load1_ptr g2b rfl
    have l3' : load1V s9 (.ptr σ.next 3) = some (.int .i64 g) := load1_ptr g2a rfl
    have l3'' : load1V s3 (.ptr σ.next 3) = some (.int .i64 g) := load1_ptr g2' rfl
    refine ⟨fun _ _ _ e => absurd (congrArg St.next e) (by omega), ?_⟩
    simp only [l3, i64_u64 q0 (by omega), valW_some, stW_some, csW_some, optW_some, condW_true, condW_false, guardW_t, guardW_f, guardT_mv, guardT_true, guardT_false, gv_true, gv_false, pick_and, pick_or, pick_t, pick_f, nilck_ptr, faddr_ptr, ext_0, ext_1, ext_2, not_bool, cells_agg, newW_eq, mapW_eq, int_lss, int_leq, int_gtr, int_geq, int_eql, int_neq, ptr_eq_nil, ptr_ne_nil, nil_eq_nil, nil_ne_nil, Nat.zero_add, gT_load1, gT_loadn, gT_faddr, gT_nilck, gT_bin1, gT_bin2, gT_un, gT_len, gT_conv, gT_iaddr1, gT_iaddr2, gT_ext, gT_field, gT_pick1, gT_pick2, guardT_mvg, Bool.not_true, Bool.not_false, Bool.true_and, Bool.false_and, Bool.and_true, Bool.and_false, Bool.true_or, Bool.false_or, Bool.or_true, Bool.or_false, Bool.not_not, decide_true, decide_false, pick_orn]
    refine (wire_Uint_ret H (n := g.toNat) (by omega)).mono ?_
    rintro v28 s11 ⟨w3, k3, n3⟩
    have g2c := Kept.at k3 (l := σ.next) (by omega) g2b
    have g3c := Kept.at k3 (l := σ.next + 1) (by omega) g3b
    refine ⟨fun _ _ _ e => absurd (congrArg St.next e) (by omega), fun _ _ _ e => absurd (congrArg St.next e) (by omega), ?_⟩
    have c20 : v20.cellsO = some [v20] := w1.flat.cellsO
    have c24 : v24.cellsO = some [v24] := w2.flat.cellsO
    have c28 : v28.cellsO = some [v28] := w3.flat.cellsO
    have e29 : ∀ K', bslW false 1 3 [.nils] s11 [(0, 1, v20), (1, 1, v24), (2, 1, v28)] K' = K' (.sl 1 .exact 3 [v20, v24, v28]) s11 := by
      intro K'
      simp [bslW, fillV, c20, c24, c28, rep, fillAt, csW]
    rw [e29]
    have hparts : PartsF (.sl 1 .exact 3 [v20, v24, v28]) [uv o.toNat, uv m.toNat, uv g.toNat] := fun τ => by
      refine ⟨[v20, v24, v28], by simp [slView, view], rfl, fun i x q hx hq => ?_⟩
      match i with
      | 0 => simp at hx hq; subst hx hq; exact w1.flat.bytes τ
      | 1 => simp at hx hq; subst hx hq; exact w2.flat.bytes τ
      | 2 => simp at hx hq; subst hx hq; exact w3.flat.bytes τ
      | i + 3 => simp at hx
    have hL1 := uv_len10 (n := o.toNat) (by omega)
    have hL2 := uv_len10 (n := m.toNat) (by omega)
    have hL3 := uv_len10 (n := g.toNat) (by omega)
    refine (wire_Join_ret H hparts (by simp only [lens]; omega) (by simp)).mono ?_
    rintro v30 s13 ⟨w4, k4⟩
    have hval : [uv o.toNat, uv m.toNat, uv g.toNat].flatten = valueS o m g := by simp [valueS]
    rw [hval] at w4
    have g2d := Kept.at k4 (l := σ.next) (by omega) g2c
    have g3d := Kept.at k4 (l := σ.next + 1) (by omega) g3c
    have l4 : load1V s13 (.ptr σ.next 0) = some (.int .i64 p) := load1_ptr g2d rfl
    have hp : p = ((p.toNat : Nat) : Int) := by omega
    refine ⟨⟨l2', l3'', l3', trivial⟩, ?_⟩
    simp only [l4, valW_some, stW_some, csW_some, optW_some, condW_true, condW_false, guardW_t, guardW_f, guardT_mv, guardT_true, guardT_false, gv_true, gv_false, pick_and, pick_or, pick_t, pick_f, nilck_ptr, faddr_ptr, ext_0, ext_1, ext_2, not_bool, cells_agg, newW_eq, mapW_eq, int_lss, int_leq, int_gtr, int_geq, int_eql, int_neq, ptr_eq_nil, ptr_ne_nil, nil_eq_nil, nil_ne_nil, Nat.zero_add, gT_load1, gT_loadn, gT_faddr, gT_nilck, gT_bin1, gT_bin2, gT_un, gT_len, gT_conv, gT_iaddr1, gT_iaddr2, gT_ext, gT_field, gT_pick1, gT_pick2, guardT_mvg, Bool.not_true, Bool.not_false, Bool.true_and, Bool.false_and, Bool.and_true, Bool.and_false, Bool.true_or, Bool.false_or, Bool.or_true, Bool.or_false, Bool.not_not, decide_true, decide_false, pick_orn]
    rw [hp]
    refine key_ret H (by omega) ?_
    have e34 := toStr_flat w4.flat valueS_lt s13
    have e35 : fillV [(.str []), (.str []), (.bool false), (.int .i64 0)] [(0, 1, .str (keyS p.toNat)), (1, 1, .str (valueS o m g)), (3, 1, .int .i64 t)] = some [.str (keyS p.toNat), .str (valueS o m g), .bool false, .int .i64 t] := by
      simp [fillV, AV.cellsO, fillAt]
    have e36 : storeS 4 s13 (.ptr (σ.next + 1) 0) (.agg [.str (keyS p.toNat), .str (valueS o m g), .bool false, .int .i64 t]) = some (s13.put (σ.next + 1) (.cells [.str (keyS p.toNat), .str (valueS o m g), .bool false, .int .i64 t])) :=
      store_ptr (n := 4) (vs := [.str (keyS p.toNat), .str (valueS o m g), .bool false, .int .i64 t]) g3d rfl rfl (by simp)
    have e37 : loadnV (s13.put (σ.next + 1) (.cells [.str (keyS p.toNat), .str (valueS o m g), .bool false, .int .i64 t])) 4 (.ptr (σ.next + 1) 0) = some (recAV (keyS p.toNat) (valueS o m g) t) := loadn_ptr (get_put_same _ _ _) (by simp)
    have e8 : (σ.new (.cells [.int .i64 ((p.toNat : Nat) : Int), .int .i64 o, .int .i64 m, .int .i64 g])).next = σ.next + 1 := rfl
    simp only [e34, e35, valW_some, stW_some, csW_some, optW_some, condW_true, condW_false, guardW_t, guardW_f, guardT_mv, guardT_true, guardT_false, gv_true, gv_false, pick_and, pick_or, pick_t, pick_f, nilck_ptr, faddr_ptr, ext_0, ext_1, ext_2, not_bool, cells_agg, newW_eq, mapW_eq, int_lss, int_leq, int_gtr, int_geq, int_eql, int_neq, ptr_eq_nil, ptr_ne_nil, nil_eq_nil, nil_ne_nil, Nat.zero_add, gT_load1, gT_loadn, gT_faddr, gT_nilck, gT_bin1, gT_bin2, gT_un, gT_len, gT_conv, gT_iaddr1, gT_iaddr2, gT_ext, gT_field, gT_pick1, gT_pick2, guardT_mvg, Bool.not_true, Bool.not_false, Bool.true_and, Bool.false_and, Bool.and_true, Bool.and_false, Bool.true_or, Bool.false_or, Bool.or_true, Bool.or_false, Bool.not_not, decide_true, decide_false, pick_orn]
    simp only [e8, e36, stW_some]
    refine ⟨by simp, ?_⟩
    simp only [e37, valW_some]
    exact h1 hok' _ (((((hK3.trans (k1.lower (by omega))).trans (k2.lower (by omega))).trans (k3.lower (by omega))).trans (k4.lower (by omega))).put (by omega) (by omega) _)
end Go.AM.P

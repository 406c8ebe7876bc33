import Derived.Test.YthbkgikjaiaigaaGreatY4Off9
namespace Go.AM.P
set_option linter.all false
open Go.AM
set_option linter.all false
variable {P : Program} {σ : St} {K : AV → St → Prop}

def c4 (p o m g : Int) : List AV := [.int .i64 p, .int .i64 o, .int .i64 m, .int .i64 g]

theorem ours_ret (H : Has P tab) {p o m g : Int} (hK : ∀ σ', Ext σ σ' → K (.agg (c4 p o m g)) σ') : Ret P N.towpathlaw14_ours [.agg (c4 p o m g)] σ K := by
  refine r_towpathlaw14_ours H ?_
  rw [w_towpathlaw14_ours_eq]
  unfold c4 at *
  simp only [valW_some, stW_some, csW_some, optW_some, condW_true, condW_false, guardW_t, guardW_f, guardT_mv, guardT_true, guardT_false, gv_true, gv_false, pick_and, pick_or, pick_t, pick_f, nilck_ptr, faddr_ptr, ext_0, ext_1, ext_2, not_bool, cells_agg, newW_eq, mapW_eq, int_lss, int_leq, int_gtr, int_geq, int_eql, int_neq, ptr_eq_nil, ptr_ne_nil, nil_eq_nil, nil_ne_nil, Nat.zero_add, gT_load1, gT_loadn, gT_faddr, gT_nilck, gT_bin1, gT_bin2, gT_un, gT_len, gT_conv, gT_iaddr1, gT_iaddr2, gT_ext, gT_field, gT_pick1, gT_pick2, guardT_mvg, Bool.not_true, Bool.not_false, Bool.true_and, Bool.false_and, Bool.and_true, Bool.and_false, Bool.true_or, Bool.false_or, Bool.or_true, Bool.or_false, Bool.not_not, decide_true, decide_false, pick_orn]
  obtain ⟨s2, hs2⟩ : ∃ s2, (σ.new (.cells [.int .i64 p, .int .i64 o, .int .i64 m, .int .i64 g])).new (.cells [.int .i64 0, .int .i64 0, .int .i64 0, .int .i64 0]) = s2 := ⟨_, rfl⟩
  have hE : Ext σ s2 := by rw [← hs2]; exact ((Ext.refl σ).new _).new _
  have g1 : s2.get σ.next = some (.cells [.int .i64 p, .int .i64 o, .int .i64 m, .int .i64 g]) := by rw [← hs2]; simp [St.get_new]
  have g2 : s2.get (σ.next + 1) = some (.cells [.int .i64 0, .int .i64 0, .int .i64 0, .int .i64 0]) := by rw [← hs2]; simp [St.get_new]
  have e8 : (σ.new (.cells [.int .i64 p, .int .i64 o, .int .i64 m, .int .i64 g])).next = σ.next + 1 := rfl
  rw [hs2, e8]
  have c0 : load1V s2 (.ptr σ.next 0) = some (.int .i64 p) := load1_ptr g1 rfl
  have c1 : load1V s2 (.ptr σ.next 1) = some (.int .i64 o) := load1_ptr g1 rfl
  have c2 : load1V s2 (.ptr σ.next 2) = some (.int .i64 m) := load1_ptr g1 rfl
  have c3 : load1V s2 (.ptr σ.next 3) = some (.int .i64 g) := load1_ptr g1 rfl
  have ef : fillV [(.int .i64 0), (.int .i64 0), (.int .i64 0), (.int .i64 0)] [(0, 1, .int .i64 p), (1, 1, .int .i64 o), (2, 1, .int .i64 m), (3, 1, .int .i64 g)] = some [.int .i64 p, .int .i64 o, .int .i64 m, .int .i64 g] := rfl
  have e6 : storeS 4 s2 (.ptr (σ.next + 1) 0) (.agg [.int .i64 p, .int .i64 o, .int .i64 m, .int .i64 g]) = some (s2.put (σ.next + 1) (.cells [.int .i64 p, .int .i64 o, .int .i64 m, .int .i64 g])) :=
    store_ptr (n := 4) (vs := [.int .i64 p, .int .i64 o, .int .i64 m, .int .i64 g]) g2 rfl rfl (by simp)
  have e7 : loadnV (s2.put (σ.next + 1) (.cells [.int .i64 p, .int .i64 o, .int .i64 m, .int .i64 g])) 4 (.ptr (σ.next + 1) 0) = some (.agg [.int .i64 p, .int .i64 o, .int .i64 m, .int .i64 g]) := loadn_ptr (get_put_same _ _ _) (by simp)
  rw [c0, valW_some, c1, valW_some, c2, valW_some, c3, valW_some, ef, csW_some, e6, stW_some, e7, valW_some]
  exact hK _ (hE.put (by omega) _)

theorem plain_ret (H : Has P tab) {p o m g : Int} (hK : ∀ σ', Ext σ σ' → K (.agg (c4 p o m g)) σ') : Ret P N.towpathlaw14_plain [.agg (c4 p o m g)] σ K := by
  refine r_towpathlaw14_plain H ?_
  rw [w_towpathlaw14_plain_eq]
  unfold c4 at *
  simp only [valW_some, stW_some, csW_some, optW_some, condW_true, condW_false, guardW_t, guardW_f, guardT_mv, guardT_true, guardT_false, gv_true, gv_false, pick_and, pick_or, pick_t, pick_f, nilck_ptr, faddr_ptr, ext_0, ext_1, ext_2, not_bool, cells_agg, newW_eq, mapW_eq, int_lss, int_leq, int_gtr, int_geq, int_eql, int_neq, ptr_eq_nil, ptr_ne_nil, nil_eq_nil, nil_ne_nil, Nat.zero_add, gT_load1, gT_loadn, gT_faddr, gT_nilck, gT_bin1, gT_bin2, gT_un, gT_len, gT_conv, gT_iaddr1, gT_iaddr2, gT_ext, gT_field, gT_pick1, gT_pick2, guardT_mvg, Bool.not_true, Bool.not_false, Bool.true_and, Bool.false_and, Bool.and_true, Bool.and_false, Bool.true_or, Bool.false_or, Bool.or_true, Bool.or_false, Bool.not_not, decide_true, decide_false, pick_orn]
  obtain ⟨s2, hs2⟩ : ∃ s2, (σ.new (.cells [.int .i64 p, .int .i64 o, .int .i64 m, .int .i64 g])).new (.cells [.int .i64 0, .int .i64 0, .int .i64 0, .int .i64 0]) = s2 := ⟨_, rfl⟩
  have hE : Ext σ s2 := by rw [← hs2]; exact ((Ext.refl σ).new _).new _
  have g1 : s2.get σ.next = some (.cells [.int .i64 p, .int .i64 o, .int .i64 m, .int .i64 g]) := by rw [← hs2]; simp [St.get_new]
  have g2 : s2.get (σ.next + 1) = some (.cells [.int .i64 0, .int .i64 0, .int .i64 0, .int .i64 0]) := by rw [← hs2]; simp [St.get_new]
  have e8 : (σ.new (.cells [.int .i64 p, .int .i64 o, .int .i64 m, .int .i64 g])).next = σ.next + 1 := rfl
  rw [hs2, e8]
  have c0 : load1V s2 (.ptr σ.next 0) = some (.int .i64 p) := load1_ptr g1 rfl
  have c1 : load1V s2 (.ptr σ.next 1) = some (.int .i64 o) := load1_ptr g1 rfl
  have c2 : load1V s2 (.ptr σ.next 2) = some (.int .i64 m) := load1_ptr g1 rfl
  have c3 : load1V s2 (.ptr σ.next 3) = some (.int .i64 g) := load1_ptr g1 rfl
  have ef : fillV [(.int .i64 0), (.int .i64 0), (.int .i64 0), (.int .i64 0)] [(0, 1, .int .i64 p), (1, 1, .int .i64 o), (2, 1, .int .i64 m), (3, 1, .int .i64 g)] = some [.int .i64 p, .int .i64 o, .int .i64 m, .int .i64 g] := rfl
  have e6 : storeS 4 s2 (.ptr (σ.next + 1) 0) (.agg [.int .i64 p, .int .i64 o, .int .i64 m, .int .i64 g]) = some (s2.put (σ.next + 1) (.cells [.int .i64 p, .int .i64 o, .int .i64 m, .int .i64 g])) :=
    store_ptr (n := 4) (vs := [.int .i64 p, .int .i64 o, .int .i64 m, .int .i64 g]) g2 rfl rfl (by simp)
  have e7 : loadnV (s2.put (σ.next + 1) (.cells [.int .i64 p, .int .i64 o, .int .i64 m, .int .i64 g])) 4 (.ptr (σ.next + 1) 0) = some (.agg [.int .i64 p, .int .i64 o, .int .i64 m, .int .i64 g]) := loadn_ptr (get_put_same _ _ _) (by simp)
  rw [c0, valW_some, c1, valW_some, c2, valW_some, c3, valW_some, ef, csW_some, e6, stW_some, e7, valW_some]
  exact hK _ (hE.put (by omega) _)

theorem c4_eql (p o m g : Int) : aBin .eql (.agg [.num, .num, .num, .num]) (.agg (c4 p o m g)) (.agg (c4 p o m g)) = some (.bool true) := by
  simp [eqOp, aBin, aEq, leavesEq, leafEq, c4, kindEq]
theorem c4_neq (p o m g : Int) : aBin .neq (.agg [.num, .num, .num, .num]) (.agg (c4 p o m g)) (.agg (c4 p o m g)) = some (.bool false) := by
  simp [eqOp, aBin, aEq, leavesEq, leafEq, c4, kindEq]
theorem rec_neq (k v : List Nat) (b : Bool) (t : Int) : aBin .neq (.agg [.str, .str, .bool, .num]) (.agg [.str k, .str v, .bool b, .int .i64 t]) (.agg [.str k, .str v, .bool b, .int .i64 t]) = some (.bool false) := by
  simp [eqOp, aBin, aEq, leavesEq, leafEq, kindEq, listEq_refl]

/-- A law that is closed and true. -/
def Awake (P : Program) (f : FuncId) : Prop := ∀ (σ : St), CallOk P f [] σ (.bool true) σ

theorem j3_ok (H : Has P tab) (hA : Awake P N.towpathlaw14_awake) {l : Nat} {key val : List Nat} {gone : Bool} {t : Int} (hk : ∀ c ∈ key, c < 256) (hv : ∀ c ∈ val, c < 256) (hl : val.length ≤ 1099511627776)
    (hg : σ.get l = some (.cells [.str key, .str val, .bool gone, .int .i64 t])) (hlt : l < σ.next) (hK : ∀ σ', K (.bool true) σ') :
    j_towpathlaw14_OffsetsRecords_3 P K (.ptr l 0) σ := by
  rw [j_towpathlaw14_OffsetsRecords_3_eq]
  have ld : ∀ {s : St}, s.get l = some (.cells [.str key, .str val, .bool gone, .int .i64 t]) → loadnV s 4 (.ptr l 0) = some (.agg [.str key, .str val, .bool gone, .int .i64 t]) := fun h => loadn_ptr h (by simp)
  rw [ld hg, valW_some]
  have main : ∀ (p o m g e : Int), (∀ (s : St) (K' : AV → St → Prop), (∀ s', Kept s.next s s' → K' (.tup [.agg (c4 p o m g), .int .i64 e]) s') → Ret P N.offsets_Parse [.agg [.str key, .str val, .bool gone, .int .i64 t]] s K') →
      (∀ (s : St) (K' : AV → St → Prop), (∀ s', Kept s.next s s' → K' (.tup [.agg (c4 p o m g), .int .i64 e]) s') → Ret P N.towpathref14_Parse [.agg [.str key, .str val, .bool gone, .int .i64 t]] s K') →
      Ret P N.offsets_Parse [.agg [.str key, .str val, .bool gone, .int .i64 t]] σ fun v25 s13 =>
        valW (extV v25 0) fun v26 =>
        valW (extV v25 1) fun v27 =>
        newW s13 (.cells [(.int .i64 0), (.int .i64 0), (.int .i64 0), (.int .i64 0)]) fun v28 s14 =>
        stW (storeS 4 s14 v28 v26) fun s15 =>
        valW (loadnV s15 4 (.ptr l 0)) fun v29 =>
        Ret P N.towpathref14_Parse [v29] s15 fun v30 s16 =>
        valW (extV v30 0) fun v31 =>
        valW (extV v30 1) fun v32 =>
        newW s16 (.cells [(.int .i64 0), (.int .i64 0), (.int .i64 0), (.int .i64 0)]) fun v33 s17 =>
        stW (storeS 4 s17 v33 v31) fun s18 =>
        valW (aBin .eql .num v27 v32) fun v34 =>
        guardW v34 true (fun K0 => valW (loadnV s18 4 v28) fun v36 =>
        K0 v36 s18) s18 fun v35 s19 =>
        gcallW P v34 true N.towpathlaw14_plain [v35] s18 fun d38 v37 s20 =>
        guardW v34 true (fun K0 => valW (loadnV s20 4 v33) fun v40 =>
        K0 v40 s20) s20 fun v39 s21 =>
        guardW v34 true (fun K0 => valW (aBin .eql (.agg [.num, .num, .num, .num]) v37 v39) fun v42 =>
        K0 v42 s20) s20 fun v41 s22 =>
        valW (pickV v34 v41 (.bool false)) fun v43 =>
        gcallW P v43 true N.towpathlaw14_awake [] s20 fun d45 v44 s23 =>
        valW (pickV v43 v44 (.bool false)) fun v46 =>
        ((gchkW v34 true (loadnV s18 4 v33 = some v39) (v39 = .tup [])) ∧ True) ∧
        K v46 s23 := by
    intro p o m g e h1 h2
    refine h1 _ _ fun s13 k13 => ?_
    have n13 := k13.next
    have a0 := k13.at (l := l) hlt hg
    rw [ext_0, valW_some, ext_1, valW_some, newW_eq]
    have e15 : storeS 4 (s13.new (.cells [.int .i64 0, .int .i64 0, .int .i64 0, .int .i64 0])) (.ptr s13.next 0) (.agg (c4 p o m g)) = some ((s13.new (.cells [.int .i64 0, .int .i64 0, .int .i64 0, .int .i64 0])).put s13.next (.cells (c4 p o m g))) :=
      store_ptr (n := 4) (vs := c4 p o m g) (get_new_same _ _) rfl rfl (by simp)
    rw [e15, stW_some]
    obtain ⟨s15, hs15⟩ : ∃ x, (s13.new (.cells [.int .i64 0, .int .i64 0, .int .i64 0, .int .i64 0])).put s13.next (.cells (c4 p o m g)) = x := ⟨_, rfl⟩
    have b0 : s15.get l = some (.cells [.str key, .str val, .bool gone, .int .i64 t]) := by rw [← hs15, St.get_put, if_neg (by omega), St.get_new, if_neg (by omega)]; exact a0
    have b1 : s15.get s13.next = some (.cells (c4 p o m g)) := by rw [← hs15, get_put_same]
    have n15 : s15.next = s13.next + 1 := by rw [← hs15]; rfl
    rw [hs15, ld b0, valW_some]
    refine h2 _ _ fun s16 k16 => ?_
    have n16 := k16.next
    have d1 := k16.at (l := s13.next) (by omega) b1
    rw [ext_0, valW_some, ext_1, valW_some, newW_eq]
    have e18 : storeS 4 (s16.new (.cells [.int .i64 0, .int .i64 0, .int .i64 0, .int .i64 0])) (.ptr s16.next 0) (.agg (c4 p o m g)) = some ((s16.new (.cells [.int .i64 0, .int .i64 0, .int .i64 0, .int .i64 0])).put s16.next (.cells (c4 p o m g))) :=
      store_ptr (n := 4) (vs := c4 p o m g) (get_new_same _ _) rfl rfl (by simp)
    rw [e18, stW_some]
    obtain ⟨s18, hs18⟩ : ∃ x, (s16.new (.cells [.int .i64 0, .int .i64 0, .int .i64 0, .int .i64 0])).put s16.next (.cells (c4 p o m g)) = x := ⟨_, rfl⟩
    have f1 : s18.get s13.next = some (.cells (c4 p o m g)) := by rw [← hs18, St.get_put, if_neg (by omega), St.get_new, if_neg (by omega)]; exact d1
    have f2 : s18.get s16.next = some (.cells (c4 p o m g)) := by rw [← hs18, get_put_same]
    have n18 : s18.next = s16.next + 1 := by rw [← hs18]; rfl
    have l1 : loadnV s18 4 (.ptr s13.next 0) = some (.agg (c4 p o m g)) := loadn_ptr f1 (by simp [c4])
    have l2 : loadnV s18 4 (.ptr s16.next 0) = some (.agg (c4 p o m g)) := loadn_ptr f2 (by simp [c4])
    have de : decide (e = e) = true := by simp
    rw [hs18, int_eql, valW_some, de, guardW_t, guardT_true, l1, valW_some]
    dsimp only
    rw [gcall_tt]
    refine plain_ret H fun s20 E20 => ?_
    have l3 : loadnV s20 4 (.ptr s16.next 0) = some (.agg (c4 p o m g)) := loadn_ptr (E20.keep (by omega) f2) (by simp [c4])
    rw [guardW_t, guardT_true, l3, valW_some]
    dsimp only
    rw [guardW_t, guardT_true, c4_eql, valW_some]
    dsimp only
    rw [pick_t, valW_some, gcall_tt]
    refine ⟨_, _, hA s20, ?_⟩
    dsimp only
    rw [pick_t, valW_some, gchk_tt]
    exact ⟨⟨l2, trivial⟩, hK _⟩
  by_cases hex : ∃ p o m g, Good key val gone p o m g
  · obtain ⟨p, o, m, g, hgd⟩ := hex
    refine main p o m g 0 (fun s K' h => ?_) (fun s K' h => ?_)
    · refine parse_ret H hk hv hl (fun p' o' m' g' s' hg' hk' => ?_) (fun hn => absurd ⟨p, o, m, g, hgd⟩ hn)
      obtain ⟨rfl, rfl, rfl, rfl⟩ := hgd.unique hg'
      exact h s' hk'
    · refine refParse_ret H hv hl (fun p' o' m' g' s' hg' hk' => ?_) (fun hn => absurd ⟨p, o, m, g, hgd⟩ hn)
      obtain ⟨rfl, rfl, rfl, rfl⟩ := hgd.unique hg'
      exact h s' hk'
  · refine main 0 0 0 0 6 (fun s K' h => ?_) (fun s K' h => ?_)
    · exact parse_ret H hk hv hl (fun p' o' m' g' s' hg' hk' => absurd ⟨_, _, _, _, hg'⟩ hex) (fun _ s' hk' => h s' hk')
    · exact refParse_ret H hv hl (fun p' o' m' g' s' hg' hk' => absurd ⟨_, _, _, _, hg'⟩ hex) (fun _ s' hk' => h s' hk')
end Go.AM.P

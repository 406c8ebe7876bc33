import Derived.Test.YthbkgikjaiaigaaGreatY4Read
namespace Go.AM.P
set_option linter.all false
open Go.AM
set_option linter.all false
variable {P : Program} {σ : St} {K : AV → St → Prop}

theorem clone_ret (H : Has P tab) {v : AV} {bs : List Nat} (hv : Flat v bs) (hl : bs.length ≤ 1099511627776) (hK : ∀ r σ', Owned σ.next σ' r bs → Kept σ.next σ σ' → K r σ') : Ret P N.bytes_Clone [v] σ K := by
  refine r_bytes_Clone H ?_
  rw [w_bytes_Clone_eq]
  cases hv with
  | nils =>
    have e : aBin .eql .slice .nils .nils = some (.bool true) := rfl
    simp only [e, valW_some, stW_some, csW_some, optW_some, condW_true, condW_false, guardW_t, guardW_f, guardT_mv, guardT_true, guardT_false, gv_true, gv_false, pick_and, pick_or, pick_t, pick_f, nilck_ptr, faddr_ptr, ext_0, ext_1, ext_2, not_bool, cells_agg, newW_eq, mapW_eq, int_lss, int_leq, int_gtr, int_geq, int_eql, int_neq, ptr_eq_nil, ptr_ne_nil, nil_eq_nil, nil_ne_nil, Nat.zero_add, gT_load1, gT_loadn, gT_faddr, gT_nilck, gT_bin1, gT_bin2, gT_un, gT_len, gT_conv, gT_iaddr1, gT_iaddr2, gT_ext, gT_field, gT_pick1, gT_pick2, guardT_mvg, Bool.not_true, Bool.not_false, Bool.true_and, Bool.false_and, Bool.and_true, Bool.and_false, Bool.true_or, Bool.false_or, Bool.or_true, Bool.or_false, Bool.not_not, decide_true, decide_false, pick_orn]
    exact hK _ _ .nil (Kept.refl _ _)
  | sl own =>
    have e : aBin .eql .slice (.sl 1 own bs.length (byteCells bs)) .nils = some (.bool false) := rfl
    simp only [e, valW_some, stW_some, csW_some, optW_some, condW_true, condW_false, guardW_t, guardW_f, guardT_mv, guardT_true, guardT_false, gv_true, gv_false, pick_and, pick_or, pick_t, pick_f, nilck_ptr, faddr_ptr, ext_0, ext_1, ext_2, not_bool, cells_agg, newW_eq, mapW_eq, int_lss, int_leq, int_gtr, int_geq, int_eql, int_neq, ptr_eq_nil, ptr_ne_nil, nil_eq_nil, nil_ne_nil, Nat.zero_add, gT_load1, gT_loadn, gT_faddr, gT_nilck, gT_bin1, gT_bin2, gT_un, gT_len, gT_conv, gT_iaddr1, gT_iaddr2, gT_ext, gT_field, gT_pick1, gT_pick2, guardT_mvg, Bool.not_true, Bool.not_false, Bool.true_and, Bool.false_and, Bool.and_true, Bool.and_false, Bool.true_or, Bool.false_or, Bool.or_true, Bool.or_false, Bool.not_not, decide_true, decide_false, pick_orn]
    obtain ⟨v', s', e1, e2, e3⟩ := app_bytes (B := σ.next) (x := .sl 1 own bs.length (byteCells bs)) (Owned.exact (σ := σ) []) ((Flat.sl own bs).bytes _) (by simpa using hl) (Nat.le_refl _)
    show optW (aApp false 1 1 σ (.sl 1 .exact ([] : List Nat).length (byteCells [])) (.sl 1 own bs.length (byteCells bs))) _
    rw [e1, optW_some]
    exact hK _ _ (by simpa using e2) e3

theorem newReader_ret (H : Has P tab) {v : AV} {bs : List Nat} (hv : Flat v bs) (hl : bs.length ≤ 1099511627776) (hK : ∀ l σ', σ.next ≤ l → l < σ'.next → RdAt σ' l bs 0 0 → Kept σ.next σ σ' → K (.ptr l 0) σ') : Ret P N.wire_NewReader [v] σ K := by
  refine r_wire_NewReader H ?_
  rw [w_wire_NewReader_eq]
  refine clone_ret H hv hl fun r s h1 h2 => ?_
  have hr : r.cellsO = some [r] := by cases h1.flat <;> rfl
  have e1 : fillV [.nils, (.int .i64 0), (.int .i64 0)] [(0, 1, r)] = some [r, .int .i64 0, .int .i64 0] := by simp [fillV, hr, fillAt]
  have e2 : fillV [.nils, (.int .i64 0), (.int .i64 0)] [(0, 3, (.agg [r, .int .i64 0, .int .i64 0]))] = some [r, .int .i64 0, .int .i64 0] := by simp [fillV, AV.cellsO, fillAt]
  simp only [e1, e2, valW_some, stW_some, csW_some, optW_some, condW_true, condW_false, guardW_t, guardW_f, guardT_mv, guardT_true, guardT_false, gv_true, gv_false, pick_and, pick_or, pick_t, pick_f, nilck_ptr, faddr_ptr, ext_0, ext_1, ext_2, not_bool, cells_agg, newW_eq, mapW_eq, int_lss, int_leq, int_gtr, int_geq, int_eql, int_neq, ptr_eq_nil, ptr_ne_nil, nil_eq_nil, nil_ne_nil, Nat.zero_add, gT_load1, gT_loadn, gT_faddr, gT_nilck, gT_bin1, gT_bin2, gT_un, gT_len, gT_conv, gT_iaddr1, gT_iaddr2, gT_ext, gT_field, gT_pick1, gT_pick2, guardT_mvg, Bool.not_true, Bool.not_false, Bool.true_and, Bool.false_and, Bool.and_true, Bool.and_false, Bool.true_or, Bool.false_or, Bool.or_true, Bool.or_false, Bool.not_not, decide_true, decide_false, pick_orn]
  refine hK _ _ h2.next (by simp) ⟨r, by rw [St.get_new, if_pos rfl]; rfl, h1.flat⟩ (h2.new h2.next _)

theorem good_ret (H : Has P tab) {l a : Nat} {bs : List Nat} {e : Int} (h : RdAt σ l bs a e) (hK : K (.bool (decide (e = 0))) σ) : Ret P N.wire_Reader_good [.ptr l 0] σ K := by
  obtain ⟨bv, hg, hf⟩ := h
  refine r_wire_Reader_good H ?_
  rw [w_wire_Reader_good_eq]
  have e2 : load1V σ (.ptr l (0 + 2)) = some (.int .i64 e) := load1_ptr hg rfl
  rw [Nat.zero_add] at e2
  simp only [e2, valW_some, stW_some, csW_some, optW_some, condW_true, condW_false, guardW_t, guardW_f, guardT_mv, guardT_true, guardT_false, gv_true, gv_false, pick_and, pick_or, pick_t, pick_f, nilck_ptr, faddr_ptr, ext_0, ext_1, ext_2, not_bool, cells_agg, newW_eq, mapW_eq, int_lss, int_leq, int_gtr, int_geq, int_eql, int_neq, ptr_eq_nil, ptr_ne_nil, nil_eq_nil, nil_ne_nil, Nat.zero_add, gT_load1, gT_loadn, gT_faddr, gT_nilck, gT_bin1, gT_bin2, gT_un, gT_len, gT_conv, gT_iaddr1, gT_iaddr2, gT_ext, gT_field, gT_pick1, gT_pick2, guardT_mvg, Bool.not_true, Bool.not_false, Bool.true_and, Bool.false_and, Bool.and_true, Bool.and_false, Bool.true_or, Bool.false_or, Bool.or_true, Bool.or_false, Bool.not_not, decide_true, decide_false, pick_orn]
  exact hK

theorem readerUint_ret (H : Has P tab) {l a : Nat} {bs : List Nat} {e : Int} (h : RdAt σ l bs a e) (ha : a ≤ bs.length) (hl : bs.length < 4611686018427387904) (hb : ∀ c ∈ bs, c < 256)
    (h0 : e ≠ 0 → K (.int .u64 0) σ)
    (h1 : ∀ n k σ', e = 0 → rdu 0 0 (bs.drop a) = some (n, k) → RdAt σ' l bs (a + k) 0 → Only l σ σ' → n < 18446744073709551616 → a + k ≤ bs.length → K (.int .u64 (n : Nat)) σ')
    (h2 : ∀ σ', e = 0 → rdu 0 0 (bs.drop a) = none → RdAt σ' l bs a 6 → Only l σ σ' → K (.int .u64 0) σ') : Ret P N.wire_Reader_Uint [.ptr l 0] σ K := by
  refine r_wire_Reader_Uint H ?_
  rw [w_wire_Reader_Uint_eq]
  refine good_ret H h ?_
  by_cases he : e = 0
  · subst he
    simp only [decide_true, Bool.not_true, valW_some, stW_some, csW_some, optW_some, condW_true, condW_false, guardW_t, guardW_f, guardT_mv, guardT_true, guardT_false, gv_true, gv_false, pick_and, pick_or, pick_t, pick_f, nilck_ptr, faddr_ptr, ext_0, ext_1, ext_2, not_bool, cells_agg, newW_eq, mapW_eq, int_lss, int_leq, int_gtr, int_geq, int_eql, int_neq, ptr_eq_nil, ptr_ne_nil, nil_eq_nil, nil_ne_nil, Nat.zero_add, gT_load1, gT_loadn, gT_faddr, gT_nilck, gT_bin1, gT_bin2, gT_un, gT_len, gT_conv, gT_iaddr1, gT_iaddr2, gT_ext, gT_field, gT_pick1, gT_pick2, guardT_mvg, Bool.not_true, Bool.not_false, Bool.true_and, Bool.false_and, Bool.and_true, Bool.and_false, Bool.true_or, Bool.false_or, Bool.or_true, Bool.or_false, Bool.not_not, decide_true, decide_false, pick_orn]
    exact uint_ret H h ha hl hb (fun n k s q1 q2 q3 q4 q5 => h1 n k s rfl q1 q2 q3 q4 q5) (fun s q1 q2 q3 => h2 s rfl q1 q2 q3)
  · rw [decide_eq_false he]
    simp only [Bool.not_false, valW_some, stW_some, csW_some, optW_some, condW_true, condW_false, guardW_t, guardW_f, guardT_mv, guardT_true, guardT_false, gv_true, gv_false, pick_and, pick_or, pick_t, pick_f, nilck_ptr, faddr_ptr, ext_0, ext_1, ext_2, not_bool, cells_agg, newW_eq, mapW_eq, int_lss, int_leq, int_gtr, int_geq, int_eql, int_neq, ptr_eq_nil, ptr_ne_nil, nil_eq_nil, nil_ne_nil, Nat.zero_add, gT_load1, gT_loadn, gT_faddr, gT_nilck, gT_bin1, gT_bin2, gT_un, gT_len, gT_conv, gT_iaddr1, gT_iaddr2, gT_ext, gT_field, gT_pick1, gT_pick2, guardT_mvg, Bool.not_true, Bool.not_false, Bool.true_and, Bool.false_and, Bool.and_true, Bool.and_false, Bool.true_or, Bool.false_or, Bool.or_true, Bool.or_false, Bool.not_not, decide_true, decide_false, pick_orn]
    exact h0 he

theorem readerEnd_ret (H : Has P tab) {l a : Nat} {bs : List Nat} {e : Int} (h : RdAt σ l bs a e) (ha : a ≤ bs.length) (hl : bs.length < 4611686018427387904)
    (hK : ∀ σ', RdAt σ' l bs a (if e = 0 then (if a < bs.length then 6 else 0) else e) → Only l σ σ' → K (.int .i64 (if e = 0 then (if a < bs.length then 6 else 0) else e)) σ') : Ret P N.wire_Reader_End [.ptr l 0] σ K := by
  refine r_wire_Reader_End H ?_
  rw [w_wire_Reader_End_eq]
  simp only [valW_some, stW_some, csW_some, optW_some, condW_true, condW_false, guardW_t, guardW_f, guardT_mv, guardT_true, guardT_false, gv_true, gv_false, pick_and, pick_or, pick_t, pick_f, nilck_ptr, faddr_ptr, ext_0, ext_1, ext_2, not_bool, cells_agg, newW_eq, mapW_eq, int_lss, int_leq, int_gtr, int_geq, int_eql, int_neq, ptr_eq_nil, ptr_ne_nil, nil_eq_nil, nil_ne_nil, Nat.zero_add, gT_load1, gT_loadn, gT_faddr, gT_nilck, gT_bin1, gT_bin2, gT_un, gT_len, gT_conv, gT_iaddr1, gT_iaddr2, gT_ext, gT_field, gT_pick1, gT_pick2, guardT_mvg, Bool.not_true, Bool.not_false, Bool.true_and, Bool.false_and, Bool.and_true, Bool.and_false, Bool.true_or, Bool.false_or, Bool.or_true, Bool.or_false, Bool.not_not, decide_true, decide_false, pick_orn]
  refine (left_ret H h ha (by omega)).mono ?_
  rintro r s ⟨rfl, rfl⟩
  simp only [valW_some, stW_some, csW_some, optW_some, condW_true, condW_false, guardW_t, guardW_f, guardT_mv, guardT_true, guardT_false, gv_true, gv_false, pick_and, pick_or, pick_t, pick_f, nilck_ptr, faddr_ptr, ext_0, ext_1, ext_2, not_bool, cells_agg, newW_eq, mapW_eq, int_lss, int_leq, int_gtr, int_geq, int_eql, int_neq, ptr_eq_nil, ptr_ne_nil, nil_eq_nil, nil_ne_nil, Nat.zero_add, gT_load1, gT_loadn, gT_faddr, gT_nilck, gT_bin1, gT_bin2, gT_un, gT_len, gT_conv, gT_iaddr1, gT_iaddr2, gT_ext, gT_field, gT_pick1, gT_pick2, guardT_mvg, Bool.not_true, Bool.not_false, Bool.true_and, Bool.false_and, Bool.and_true, Bool.and_false, Bool.true_or, Bool.false_or, Bool.or_true, Bool.or_false, Bool.not_not, decide_true, decide_false, pick_orn]
  rw [condW_dec]
  have fin : ∀ (s' : St) (e' : Int), RdAt s' l bs a e' → j_wire_Reader_End_1 P K (.ptr l 0) s' = K (.int .i64 e') s' := by
    rintro s' e' ⟨bv, hg, hf⟩
    have e2 : load1V s' (.ptr l (0 + 2)) = some (.int .i64 e') := load1_ptr hg rfl
    rw [Nat.zero_add] at e2
    rw [j_wire_Reader_End_1_eq]
    simp only [e2, valW_some, stW_some, csW_some, optW_some, condW_true, condW_false, guardW_t, guardW_f, guardT_mv, guardT_true, guardT_false, gv_true, gv_false, pick_and, pick_or, pick_t, pick_f, nilck_ptr, faddr_ptr, ext_0, ext_1, ext_2, not_bool, cells_agg, newW_eq, mapW_eq, int_lss, int_leq, int_gtr, int_geq, int_eql, int_neq, ptr_eq_nil, ptr_ne_nil, nil_eq_nil, nil_ne_nil, Nat.zero_add, gT_load1, gT_loadn, gT_faddr, gT_nilck, gT_bin1, gT_bin2, gT_un, gT_len, gT_conv, gT_iaddr1, gT_iaddr2, gT_ext, gT_field, gT_pick1, gT_pick2, guardT_mvg, Bool.not_true, Bool.not_false, Bool.true_and, Bool.false_and, Bool.and_true, Bool.and_false, Bool.true_or, Bool.false_or, Bool.or_true, Bool.or_false, Bool.not_not, decide_true, decide_false, pick_orn]
  refine ⟨fun h1 => ?_, fun h1 => ?_⟩
  · have hlt : a < bs.length := by omega
    refine (fail_ret H h).mono ?_
    rintro r s' ⟨g1, g2⟩
    rw [fin s' _ g1]
    have := hK s' (by simpa [hlt] using g1) g2
    simpa [hlt] using this
  · have hlt : ¬ a < bs.length := by omega
    rw [fin _ _ h]
    have := hK s (by
      by_cases he : e = 0
      · subst he; simpa [hlt] using h
      · simpa [he] using h) (Only.refl _ _)
    by_cases he : e = 0
    · subst he; simpa [hlt] using this
    · simpa [he] using this
end Go.AM.P

import Derived.Test.YthbkgikjaiaigaaGreatY4Off5
namespace Go.AM.P
set_option linter.all false
open Go.AM
set_option linter.all false
variable {P : Program} {σ : St} {K : AV → St → Prop}

theorem slc_flat {v : AV} {bs : List Nat} (hv : Flat v bs) {a : Nat} (ha : a ≤ bs.length) : ∃ v', slcV 1 v (some (.int .i64 (a : Nat))) none none = some v' ∧ Flat v' (bs.drop a) := by
  have e1 : asNat (.int .i64 (a : Nat)) = some a := by simp [asNat]
  cases hv with
  | nils =>
    obtain rfl : a = 0 := by simpa using ha
    exact ⟨.nils, by simp only [slcV, oNat, e1], .nils⟩
  | sl own =>
    refine ⟨_, by simp only [slcV, oNat, e1]; rw [if_pos ⟨trivial, ha, Nat.le_refl _, Nat.le_refl _⟩], ?_⟩
    have h1 : ((byteCells bs).drop (a * 1)).take ((bs.length - a) * 1) = byteCells (bs.drop a) := by
      simp only [Nat.mul_one, byteCells, ← List.map_drop]
      rw [List.take_of_length_le (by simp)]
    have h2 : bs.length - a = (bs.drop a).length := by simp
    rw [h1, h2]
    exact .sl _ _

theorem refFail_ret (H : Has P tab) {l a : Nat} {bs : List Nat} {e x : Int} (h : RdAt σ l bs a e) (hK : ∀ v σ', RdAt σ' l bs a (if e = 0 then x else e) → Only l σ σ' → K v σ') :
    Ret P N.towpathref01_Reader_fail [.ptr l 0, .int .i64 x] σ K := by
  obtain ⟨bv, hg, hf⟩ := h
  refine r_towpathref01_Reader_fail H ?_
  rw [w_towpathref01_Reader_fail_eq]
  have l2 : load1V σ (.ptr l 2) = some (.int .i64 e) := load1_ptr hg rfl
  have es : storeS 1 σ (.ptr l 2) (.int .i64 x) = some (σ.put l (.cells [bv, .int .i64 (a : Nat), .int .i64 x])) := store1_ptr hg rfl (by simp)
  simp only [l2, es, valW_some, stW_some, csW_some, optW_some, condW_true, condW_false, guardW_t, guardW_f, guardT_mv, guardT_true, guardT_false, gv_true, gv_false, pick_and, pick_or, pick_t, pick_f, nilck_ptr, faddr_ptr, ext_0, ext_1, ext_2, not_bool, cells_agg, newW_eq, mapW_eq, int_lss, int_leq, int_gtr, int_geq, int_eql, int_neq, ptr_eq_nil, ptr_ne_nil, nil_eq_nil, nil_ne_nil, Nat.zero_add, gT_load1, gT_loadn, gT_faddr, gT_nilck, gT_bin1, gT_bin2, gT_un, gT_len, gT_conv, gT_iaddr1, gT_iaddr2, gT_ext, gT_field, gT_pick1, gT_pick2, guardT_mvg, Bool.not_true, Bool.not_false, Bool.true_and, Bool.false_and, Bool.and_true, Bool.and_false, Bool.true_or, Bool.false_or, Bool.or_true, Bool.or_false, Bool.not_not, decide_true, decide_false, pick_orn]
  rw [condW_dec]
  refine ⟨fun he => ?_, fun he => ?_⟩
  · exact hK _ _ ⟨bv, by rw [get_put_same, if_pos he], hf⟩ (Only.put _ _ _)
  · exact hK _ _ ⟨bv, by rw [if_neg he]; exact hg, hf⟩ (Only.refl _ _)

theorem rdu_le : ∀ (bs : List Nat) (i acc n k : Nat), rdu i acc bs = some (n, k) → i < k ∧ k ≤ i + bs.length
  | [], _, _, _, _, h => by cases h
  | c :: r, i, acc, n, k, h => by
    simp only [rdu] at h
    split at h
    · cases h
    · split at h
      · cases h
      · split at h
        · have := rdu_le r (i + 1) _ n k h
          simp only [List.length_cons]; omega
        · split at h
          · cases h
          · cases h; simp

theorem rdu_lt : ∀ (bs : List Nat) (i acc n k : Nat), acc < 128 ^ i → i ≤ 10 → (∀ c ∈ bs, c < 256) → rdu i acc bs = some (n, k) → n < 18446744073709551616
  | [], _, _, _, _, _, _, _, h => by cases h
  | c :: r, i, acc, n, k, ha, hi, hb, h => by
    have hc := hb c (by simp)
    simp only [rdu] at h
    split at h
    · cases h
    · rename_i h10
      split at h
      · cases h
      · rename_i h9
        have hx : acc + c % 128 * 128 ^ i < 128 ^ (i + 1) := by
          rw [Nat.pow_succ]
          have : c % 128 * 128 ^ i ≤ 127 * 128 ^ i := Nat.mul_le_mul_right _ (by omega)
          omega
        split at h
        · exact rdu_lt r (i + 1) _ n k hx (by omega) (fun x hx => hb x (by simp [hx])) h
        · rename_i h128
          split at h
          · cases h
          · cases h
            rw [Nat.mod_eq_of_lt (by omega : c < 128)] at hx
            by_cases hi9 : i = 9
            · subst hi9
              have h1 : c * 128 ^ 9 ≤ 1 * 128 ^ 9 := Nat.mul_le_mul_right _ (by omega)
              have h2 : (128 : Nat) ^ 9 = 9223372036854775808 := by decide
              omega
            · have h1 : (128 : Nat) ^ (i + 1) ≤ 128 ^ 9 := Nat.pow_le_pow_right (by omega) (by omega)
              have h2 : (128 : Nat) ^ 9 = 9223372036854775808 := by decide
              omega

theorem refUint_ret (H : Has P tab) {l a : Nat} {bs : List Nat} {e : Int} (h : RdAt σ l bs a e) (ha : a ≤ bs.length) (hl : bs.length < 4611686018427387904) (hb : ∀ c ∈ bs, c < 256)
    (h0 : e ≠ 0 → K (.int .u64 0) σ)
    (h1 : ∀ n k σ', e = 0 → rdu 0 0 (bs.drop a) = some (n, k) → RdAt σ' l bs (a + k) 0 → Only l σ σ' → n < 18446744073709551616 → a + k ≤ bs.length → K (.int .u64 (n : Nat)) σ')
    (h2 : ∀ σ', e = 0 → rdu 0 0 (bs.drop a) = none → RdAt σ' l bs a 6 → Only l σ σ' → K (.int .u64 0) σ') : Ret P N.towpathref01_Reader_Uint [.ptr l 0] σ K := by
  refine r_towpathref01_Reader_Uint H ?_
  rw [w_towpathref01_Reader_Uint_eq]
  obtain ⟨bv, hg, hf⟩ := h
  have l2 : load1V σ (.ptr l 2) = some (.int .i64 e) := load1_ptr hg rfl
  have l0 : load1V σ (.ptr l 0) = some bv := load1_ptr hg rfl
  have l1 : load1V σ (.ptr l 1) = some (.int .i64 (a : Nat)) := load1_ptr hg rfl
  simp only [l2, valW_some, stW_some, csW_some, optW_some, condW_true, condW_false, guardW_t, guardW_f, guardT_mv, guardT_true, guardT_false, gv_true, gv_false, pick_and, pick_or, pick_t, pick_f, nilck_ptr, faddr_ptr, ext_0, ext_1, ext_2, not_bool, cells_agg, newW_eq, mapW_eq, int_lss, int_leq, int_gtr, int_geq, int_eql, int_neq, ptr_eq_nil, ptr_ne_nil, nil_eq_nil, nil_ne_nil, Nat.zero_add, gT_load1, gT_loadn, gT_faddr, gT_nilck, gT_bin1, gT_bin2, gT_un, gT_len, gT_conv, gT_iaddr1, gT_iaddr2, gT_ext, gT_field, gT_pick1, gT_pick2, guardT_mvg, Bool.not_true, Bool.not_false, Bool.true_and, Bool.false_and, Bool.and_true, Bool.and_false, Bool.true_or, Bool.false_or, Bool.or_true, Bool.or_false, Bool.not_not, decide_true, decide_false, pick_orn]
  rw [condW_bool]
  refine ⟨fun he => h0 (by simpa using he), fun he => ?_⟩
  have he' : e = 0 := by simpa using he
  subst he'
  obtain ⟨v', s1, s2⟩ := slc_flat hf ha
  simp only [l0, l1, s1, valW_some, stW_some, csW_some, optW_some, condW_true, condW_false, guardW_t, guardW_f, guardT_mv, guardT_true, guardT_false, gv_true, gv_false, pick_and, pick_or, pick_t, pick_f, nilck_ptr, faddr_ptr, ext_0, ext_1, ext_2, not_bool, cells_agg, newW_eq, mapW_eq, int_lss, int_leq, int_gtr, int_geq, int_eql, int_neq, ptr_eq_nil, ptr_ne_nil, nil_eq_nil, nil_ne_nil, Nat.zero_add, gT_load1, gT_loadn, gT_faddr, gT_nilck, gT_bin1, gT_bin2, gT_un, gT_len, gT_conv, gT_iaddr1, gT_iaddr2, gT_ext, gT_field, gT_pick1, gT_pick2, guardT_mvg, Bool.not_true, Bool.not_false, Bool.true_and, Bool.false_and, Bool.and_true, Bool.and_false, Bool.true_or, Bool.false_or, Bool.or_true, Bool.or_false, Bool.not_not, decide_true, decide_false, pick_orn]
  have hbd : ∀ c ∈ bs.drop a, c < 256 := fun c hc => hb c (List.mem_of_mem_drop hc)
  refine number_ret H s2 (by rw [List.length_drop]; omega) hbd ?_
  cases hr : rdu 0 0 (bs.drop a) with
  | none =>
    simp only [valW_some, stW_some, csW_some, optW_some, condW_true, condW_false, guardW_t, guardW_f, guardT_mv, guardT_true, guardT_false, gv_true, gv_false, pick_and, pick_or, pick_t, pick_f, nilck_ptr, faddr_ptr, ext_0, ext_1, ext_2, not_bool, cells_agg, newW_eq, mapW_eq, int_lss, int_leq, int_gtr, int_geq, int_eql, int_neq, ptr_eq_nil, ptr_ne_nil, nil_eq_nil, nil_ne_nil, Nat.zero_add, gT_load1, gT_loadn, gT_faddr, gT_nilck, gT_bin1, gT_bin2, gT_un, gT_len, gT_conv, gT_iaddr1, gT_iaddr2, gT_ext, gT_field, gT_pick1, gT_pick2, guardT_mvg, Bool.not_true, Bool.not_false, Bool.true_and, Bool.false_and, Bool.and_true, Bool.and_false, Bool.true_or, Bool.false_or, Bool.or_true, Bool.or_false, Bool.not_not, decide_true, decide_false, pick_orn]
    refine ⟨trivial, ?_⟩
    try simp only [valW_some, stW_some, csW_some, optW_some, condW_true, condW_false, guardW_t, guardW_f, guardT_mv, guardT_true, guardT_false, gv_true, gv_false, pick_and, pick_or, pick_t, pick_f, nilck_ptr, faddr_ptr, ext_0, ext_1, ext_2, not_bool, cells_agg, newW_eq, mapW_eq, int_lss, int_leq, int_gtr, int_geq, int_eql, int_neq, ptr_eq_nil, ptr_ne_nil, nil_eq_nil, nil_ne_nil, Nat.zero_add, gT_load1, gT_loadn, gT_faddr, gT_nilck, gT_bin1, gT_bin2, gT_un, gT_len, gT_conv, gT_iaddr1, gT_iaddr2, gT_ext, gT_field, gT_pick1, gT_pick2, guardT_mvg, Bool.not_true, Bool.not_false, Bool.true_and, Bool.false_and, Bool.and_true, Bool.and_false, Bool.true_or, Bool.false_or, Bool.or_true, Bool.or_false, Bool.not_not, decide_true, decide_false, pick_orn, decide_true]
    exact refFail_ret H ⟨bv, hg, hf⟩ fun v s q1 q2 => h2 s rfl hr (by simpa using q1) q2
  | some q =>
    obtain ⟨n, k⟩ := q
    have hk := rdu_le _ 0 0 n k hr
    rw [List.length_drop] at hk
    have hn := rdu_lt _ 0 0 n k (by decide) (by omega) hbd hr
    have d : decide (((k : Nat) : Int) = 0) = false := decide_eq_false (by omega)
    have ea : aBin .add .num (.int .i64 (a : Nat)) (.int .i64 (k : Nat)) = some (.int .i64 ((a + k : Nat) : Int)) := i64_addn (by omega)
    have es : storeS 1 σ (.ptr l 1) (.int .i64 ((a + k : Nat) : Int)) = some (σ.put l (.cells [bv, .int .i64 ((a + k : Nat) : Int), .int .i64 0])) := store1_ptr hg rfl (by simp)
    simp only [valW_some, stW_some, csW_some, optW_some, condW_true, condW_false, guardW_t, guardW_f, guardT_mv, guardT_true, guardT_false, gv_true, gv_false, pick_and, pick_or, pick_t, pick_f, nilck_ptr, faddr_ptr, ext_0, ext_1, ext_2, not_bool, cells_agg, newW_eq, mapW_eq, int_lss, int_leq, int_gtr, int_geq, int_eql, int_neq, ptr_eq_nil, ptr_ne_nil, nil_eq_nil, nil_ne_nil, Nat.zero_add, gT_load1, gT_loadn, gT_faddr, gT_nilck, gT_bin1, gT_bin2, gT_un, gT_len, gT_conv, gT_iaddr1, gT_iaddr2, gT_ext, gT_field, gT_pick1, gT_pick2, guardT_mvg, Bool.not_true, Bool.not_false, Bool.true_and, Bool.false_and, Bool.and_true, Bool.and_false, Bool.true_or, Bool.false_or, Bool.or_true, Bool.or_false, Bool.not_not, decide_true, decide_false, pick_orn]
    refine ⟨trivial, ?_⟩
    simp only [d, l1, ea, es, valW_some, stW_some, csW_some, optW_some, condW_true, condW_false, guardW_t, guardW_f, guardT_mv, guardT_true, guardT_false, gv_true, gv_false, pick_and, pick_or, pick_t, pick_f, nilck_ptr, faddr_ptr, ext_0, ext_1, ext_2, not_bool, cells_agg, newW_eq, mapW_eq, int_lss, int_leq, int_gtr, int_geq, int_eql, int_neq, ptr_eq_nil, ptr_ne_nil, nil_eq_nil, nil_ne_nil, Nat.zero_add, gT_load1, gT_loadn, gT_faddr, gT_nilck, gT_bin1, gT_bin2, gT_un, gT_len, gT_conv, gT_iaddr1, gT_iaddr2, gT_ext, gT_field, gT_pick1, gT_pick2, guardT_mvg, Bool.not_true, Bool.not_false, Bool.true_and, Bool.false_and, Bool.and_true, Bool.and_false, Bool.true_or, Bool.false_or, Bool.or_true, Bool.or_false, Bool.not_not, decide_true, decide_false, pick_orn]
    exact h1 n k _ rfl hr ⟨bv, get_put_same _ _ _, hf⟩ (Only.put _ _ _) hn (by omega)
end Go.AM.P

import Derived.Test.YthbkgikjaiaigaaGreatY4Off4
namespace Go.AM.P
set_option linter.all false
open Go.AM
set_option linter.all false
variable {P : Program} {σ : St} {K : AV → St → Prop}

/-- The value of bytes, the lowest first. -/
def valr : List Nat → Nat
  | [] => 0
  | b :: r => b % 128 + 128 * valr r

theorem valr_lt : ∀ l : List Nat, valr l < 128 ^ l.length
  | [] => by simp [valr]
  | b :: r => by
    have := valr_lt r
    simp only [valr, List.length_cons, Nat.pow_succ]
    omega

theorem rdu_pre : ∀ (pre : List Nat) (i acc c : Nat) (rest : List Nat), (∀ b ∈ pre, 128 ≤ b) → c < 128 →
    rdu i acc (pre ++ c :: rest) = if 10 ≤ i + pre.length then none else if i + pre.length = 9 ∧ 1 < c then none else if c = 0 ∧ 0 < i + pre.length then none else some (acc + valr (pre ++ [c]) * 128 ^ i, i + pre.length + 1)
  | [], i, acc, c, rest, _, hc => by
    simp only [List.nil_append, rdu, List.length_nil, Nat.add_zero, valr, Nat.mul_zero, Nat.mod_eq_of_lt hc]
    rw [if_neg (show ¬ 128 ≤ c by omega)]
  | b :: pre, i, acc, c, rest, hp, hc => by
    have hb : 128 ≤ b := hp b (by simp)
    simp only [List.cons_append, rdu]
    by_cases h10 : 10 ≤ i
    · rw [if_pos h10, if_pos (by simp only [List.length_cons]; omega)]
    · rw [if_neg h10]
      by_cases h9 : i = 9
      · rw [if_pos ⟨h9, by omega⟩, if_pos (by simp only [List.length_cons]; omega)]
      · rw [if_neg (by omega), if_pos hb, rdu_pre pre (i + 1) _ c rest (fun x hx => hp x (by simp [hx])) hc]
        have e : i + (b :: pre).length = i + 1 + pre.length := by simp only [List.length_cons]; omega
        rw [e]
        have e2 : acc + b % 128 * 128 ^ i + valr (pre ++ [c]) * 128 ^ (i + 1) = acc + (b % 128 + 128 * valr (pre ++ [c])) * 128 ^ i := by
          rw [Nat.pow_succ, Nat.add_mul, Nat.add_assoc]
          congr 2
          rw [Nat.mul_comm (128 ^ i) 128, ← Nat.mul_assoc, Nat.mul_comm (valr _) 128]
        simp only [valr, e2]

theorem rdu_none : ∀ (pre : List Nat) (i acc : Nat), (∀ b ∈ pre, 128 ≤ b) → rdu i acc pre = none
  | [], _, _, _ => rfl
  | b :: pre, i, acc, hp => by
    have hb : 128 ≤ b := hp b (by simp)
    simp only [rdu]
    split
    · rfl
    · split
      · rfl
      · first
          | exact rdu_none pre _ _ fun x hx => hp x (by simp [hx])
          | (rw [if_pos hb]; exact rdu_none pre _ _ fun x hx => hp x (by simp [hx]))

theorem rdu_long : ∀ (pre : List Nat) (i acc : Nat) (rest : List Nat), (∀ b ∈ pre, 128 ≤ b) → 10 ≤ i + pre.length → rdu i acc (pre ++ rest) = none
  | [], i, acc, rest, _, h => by
    simp only [List.nil_append]
    cases rest with
    | nil => rfl
    | cons c r => rw [rdu, if_pos (by simpa using h)]
  | b :: pre, i, acc, rest, hp, h => by
    have hb : 128 ≤ b := hp b (by simp)
    simp only [List.cons_append, rdu]
    split
    · rfl
    · split
      · rfl
      · exact rdu_long pre _ _ rest (fun x hx => hp x (by simp [hx])) (by simp only [List.length_cons] at h; omega)

theorem valr_snoc_lt (c : Nat) (hc : c < 128) : ∀ l : List Nat, valr (l ++ [c]) < (c + 1) * 128 ^ l.length
  | [] => by simp [valr]; omega
  | b :: r => by
    have := valr_snoc_lt c hc r
    simp only [List.cons_append, valr, List.length_cons, Nat.pow_succ]
    have e : (c + 1) * (128 ^ r.length * 128) = ((c + 1) * 128 ^ r.length) * 128 := by rw [Nat.mul_assoc]
    rw [e]
    omega

theorem valr_drop {bs : List Nat} {j : Nat} (h : j < bs.length) (n : Nat) (hn : j ≤ n) : valr ((bs.drop j).take (n + 1 - j)) = bs[j] % 128 + 128 * valr ((bs.drop (j + 1)).take (n + 1 - (j + 1))) := by
  rw [List.drop_eq_getElem_cons h]
  have e : n + 1 - j = (n + 1 - (j + 1)) + 1 := by omega
  rw [e, List.take_succ_cons]
  rfl

theorem u8_rem128 {c : Nat} (hc : c < 256) : aBin .rem .num (.int .u8 (c : Nat)) (.int .u8 128) = some (.int .u8 ((c % 128 : Nat) : Int)) := by
  have e : aBin .rem .num (.int .u8 (c : Nat)) (.int .u8 128) = some (AV.int .u8 ((c : Int).tmod 128)) := by simp [aBin, kindEq]
  rw [e, Int.tmod_eq_emod_of_nonneg (by omega)]; rfl

theorem u64_mul128 {a : Nat} (h : a * 128 < 18446744073709551616) : aBin .mul .num (.int .u64 (a : Nat)) (.int .u64 128) = some (.int .u64 ((a * 128 : Nat) : Int)) := by
  show some (AV.int .u64 (IntKind.u64.wrap ((a : Int) * 128))) = _
  rw [wrap_u64]
  congr 2
  omega

theorem number_ret (H : Has P tab) {v : AV} {bs : List Nat} (hv : Flat v bs) (hl : bs.length < 4611686018427387904) (hb : ∀ c ∈ bs, c < 256)
    (hK : K (match rdu 0 0 bs with | some (n, k) => .tup [.int .u64 (n : Nat), .int .i64 (k : Nat)] | none => .tup [.int .u64 0, .int .i64 0]) σ)
    : Ret P N.towpathref01_number [v] σ K := by
  refine r_towpathref01_number H ?_
  rw [w_towpathref01_number_eq]
  refine l_towpathref01_number_1_of (fun m x0 x4 s => ∃ n, m = 10 - n ∧ n ≤ 10 ∧ n ≤ bs.length ∧ v = x0 ∧ x4 = .int .i64 (n : Nat) ∧ σ = s ∧ ∀ b ∈ bs.take n, 128 ≤ b) 10 ⟨0, rfl, by omega, by omega, rfl, rfl, rfl, by simp⟩ ?_
  rintro m x0 x4 s ⟨n, rfl, hn, hnl, rfl, rfl, rfl, hpre⟩
  generalize hN : (fun (x0 x4 : AV) (s : St) => ∃ m', m' < 10 - n ∧ ∃ n, m' = 10 - n ∧ n ≤ 10 ∧ n ≤ bs.length ∧ v = x0 ∧ x4 = .int .i64 (n : Nat) ∧ σ = s ∧ ∀ b ∈ bs.take n, 128 ≤ b) = N1
  have hN1 : n < 10 → n + 1 ≤ bs.length → (∀ b ∈ bs.take (n + 1), 128 ≤ b) → N1 v (.int .i64 ((n : Int) + 1)) σ := by
    intro q1 q2 q3
    rw [← hN]
    exact ⟨10 - (n + 1), by omega, n + 1, rfl, by omega, q2, rfl, rfl, rfl, q3⟩
  clear hN
  have hlen := (hv.bytes σ).len
  have ei : aBin .add .num (.int .i64 (n : Nat)) (.int .i64 1) = some (.int .i64 ((n : Int) + 1)) := i64_add (by omega) (by omega)
  rw [b_towpathref01_number_1_eq]
  by_cases hlt : n < bs.length
  · obtain ⟨ad, e1, e2⟩ := (hv.bytes σ).at hlt
    have hc : bs[n] < 256 := hb _ (List.getElem_mem _)
    have hsplit : bs = bs.take n ++ bs[n] :: bs.drop (n + 1) := by rw [← List.drop_eq_getElem_cons hlt, List.take_append_drop]
    have hpl : (bs.take n).length = n := by rw [List.length_take]; omega
    have d1 : decide ((n : Int) < (bs.length : Nat)) = true := decide_eq_true (by omega)
    have d2 : decide ((n : Int) ≥ (bs.length : Nat)) = false := decide_eq_false (by omega)
    by_cases h10 : n < 10
    · have d3 : decide ((n : Int) < 10) = true := decide_eq_true (by omega)
      have d4 : decide ((n : Int) ≥ 10) = false := decide_eq_false (by omega)
      by_cases h128 : 128 ≤ bs[n]
      · have d5 : decide (((bs[n] : Nat) : Int) ≥ 128) = true := decide_eq_true (by omega)
        simp only [hlen, int_lss, d1, d3, e1, e2, d5, ei, Bool.and_self, Bool.true_and, valW_some, stW_some, csW_some, optW_some, condW_true, condW_false, guardW_t, guardW_f, guardT_mv, guardT_true, guardT_false, gv_true, gv_false, pick_and, pick_or, pick_t, pick_f, nilck_ptr, faddr_ptr, ext_0, ext_1, ext_2, not_bool, cells_agg, newW_eq, mapW_eq, int_lss, int_leq, int_gtr, int_geq, int_eql, int_neq, ptr_eq_nil, ptr_ne_nil, nil_eq_nil, nil_ne_nil, Nat.zero_add, gT_load1, gT_loadn, gT_faddr, gT_nilck, gT_bin1, gT_bin2, gT_un, gT_len, gT_conv, gT_iaddr1, gT_iaddr2, gT_ext, gT_field, gT_pick1, gT_pick2, guardT_mvg, Bool.not_true, Bool.not_false, Bool.true_and, Bool.false_and, Bool.and_true, Bool.and_false, Bool.true_or, Bool.false_or, Bool.or_true, Bool.or_false, Bool.not_not, decide_true, decide_false, pick_orn]
        refine hN1 h10 (by omega) fun b hbm => ?_
        rw [List.take_succ_eq_append_getElem hlt] at hbm
        rcases List.mem_append.1 hbm with q | q
        · exact hpre b q
        · simp at q; omega
      · have d5 : decide (((bs[n] : Nat) : Int) ≥ 128) = false := decide_eq_false (by omega)
        have hrdu : rdu 0 0 bs = if n = 9 ∧ 1 < bs[n] then none else if bs[n] = 0 ∧ 0 < n then none else some (valr (bs.take n ++ [bs[n]]), n + 1) := by
          conv => lhs; rw [hsplit]
          rw [rdu_pre _ 0 0 _ _ hpre (by omega), hpl, if_neg (by omega)]
          simp
        have hnone : rdu 0 0 bs = none → K (.tup [.int .u64 0, .int .i64 0]) σ := fun h => by rw [h] at hK; exact hK
        have hloop : ¬ (n = 9 ∧ 1 < bs[n]) → ¬ (bs[n] = 0 ∧ 0 < n) → l_towpathref01_number_2 P K v (.int .i64 (n : Nat)) (.int .u64 0) (.int .i64 (n : Nat)) σ := by
          intro q1 q2
          have hbound : ∀ j, j ≤ n → valr ((bs.drop j).take (n + 1 - j)) < 18446744073709551616 := by
            intro j hj
            have e : (bs.drop j).take (n + 1 - j) = (bs.drop j).take (n - j) ++ [bs[n]] := by
              have hx : n - j < (bs.drop j).length := by rw [List.length_drop]; omega
              rw [show n + 1 - j = n - j + 1 by omega, List.take_succ_eq_append_getElem hx]
              congr 2
              rw [List.getElem_drop]
              congr 1; omega
            have hl2 : ((bs.drop j).take (n - j)).length = n - j := by rw [List.length_take, List.length_drop]; omega
            rw [e]
            have h1 := valr_snoc_lt bs[n] (by omega) ((bs.drop j).take (n - j))
            rw [hl2] at h1
            have h2 : (128 : Nat) ^ (n - j) ≤ 128 ^ n := Nat.pow_le_pow_right (by omega) (by omega)
            have h3 : (bs[n] + 1) * 128 ^ (n - j) ≤ (bs[n] + 1) * 128 ^ n := Nat.mul_le_mul_left _ h2
            by_cases h9 : n = 9
            · have h4 : (bs[n] + 1) * 128 ^ n ≤ 2 * 128 ^ n := Nat.mul_le_mul_right _ (by omega)
              have h5 : (128 : Nat) ^ n = 9223372036854775808 := by rw [h9]
              omega
            · have h4 : (bs[n] + 1) * 128 ^ n ≤ 128 * 128 ^ n := Nat.mul_le_mul_right _ (by omega)
              have h5 : (128 : Nat) ^ n ≤ 128 ^ 8 := Nat.pow_le_pow_right (by omega) (by omega)
              have h6 : (128 : Nat) ^ 8 = 72057594037927936 := by decide
              omega
          refine l_towpathref01_number_2_of (fun m x0 x4 x5 x6 s => m ≤ n + 1 ∧ v = x0 ∧ x4 = .int .i64 (n : Nat) ∧ x5 = .int .u64 ((valr ((bs.drop m).take (n + 1 - m)) : Nat) : Int) ∧ x6 = .int .i64 ((m : Int) - 1) ∧ σ = s) (n + 1)
            ⟨Nat.le_refl _, rfl, rfl, by simp [valr], congrArg (AV.int .i64) (by omega), rfl⟩ ?_
          rintro m x0 x4 x5 x6 s ⟨hm, rfl, rfl, rfl, rfl, rfl⟩
          generalize hN : (fun (x0 x4 x5 x6 : AV) (s : St) => ∃ m', m' < m ∧ m' ≤ n + 1 ∧ v = x0 ∧ x4 = .int .i64 (n : Nat) ∧ x5 = .int .u64 ((valr ((bs.drop m').take (n + 1 - m')) : Nat) : Int) ∧ x6 = .int .i64 ((m' : Int) - 1) ∧ σ = s) = N2
          have hN2 : ∀ j, m = j + 1 → N2 v (.int .i64 (n : Nat)) (.int .u64 ((valr ((bs.drop j).take (n + 1 - j)) : Nat) : Int)) (.int .i64 ((j : Int) - 1)) σ := by
            intro j hj
            rw [← hN]
            exact ⟨j, by omega, by omega, rfl, rfl, rfl, rfl, rfl⟩
          clear hN
          rw [b_towpathref01_number_2_eq]
          simp only [valW_some, stW_some, csW_some, optW_some, condW_true, condW_false, guardW_t, guardW_f, guardT_mv, guardT_true, guardT_false, gv_true, gv_false, pick_and, pick_or, pick_t, pick_f, nilck_ptr, faddr_ptr, ext_0, ext_1, ext_2, not_bool, cells_agg, newW_eq, mapW_eq, int_lss, int_leq, int_gtr, int_geq, int_eql, int_neq, ptr_eq_nil, ptr_ne_nil, nil_eq_nil, nil_ne_nil, Nat.zero_add, gT_load1, gT_loadn, gT_faddr, gT_nilck, gT_bin1, gT_bin2, gT_un, gT_len, gT_conv, gT_iaddr1, gT_iaddr2, gT_ext, gT_field, gT_pick1, gT_pick2, guardT_mvg, Bool.not_true, Bool.not_false, Bool.true_and, Bool.false_and, Bool.and_true, Bool.and_false, Bool.true_or, Bool.false_or, Bool.or_true, Bool.or_false, Bool.not_not, decide_true, decide_false, pick_orn]
          rw [condW_dec]
          refine ⟨fun hge => ?_, fun hge => ?_⟩
          · obtain ⟨j, rfl⟩ : ∃ j, m = j + 1 := ⟨m - 1, by omega⟩
            have hjl : j < bs.length := by omega
            have hcj : bs[j] < 256 := hb _ (List.getElem_mem _)
            obtain ⟨aj, f1, f2⟩ := (hv.bytes σ).at hjl
            have ej : (.int .i64 (((j + 1 : Nat) : Int) - 1) : AV) = .int .i64 (j : Nat) := by congr 1; omega
            have hd := valr_drop hjl n (by omega)
            have hbd := hbound j (by omega)
            have m1 : valr ((bs.drop (j + 1)).take (n + 1 - (j + 1))) * 128 < 18446744073709551616 := by omega
            have em : valr ((bs.drop (j + 1)).take (n + 1 - (j + 1))) * 128 + bs[j] % 128 = valr ((bs.drop j).take (n + 1 - j)) := by rw [hd]; omega
            have ea : aBin .add .num (.int .u64 ((valr ((bs.drop (j + 1)).take (n + 1 - (j + 1))) * 128 : Nat) : Int)) (.int .u64 ((bs[j] % 128 : Nat) : Int)) = some (.int .u64 ((valr ((bs.drop j).take (n + 1 - j)) : Nat) : Int)) := by
              rw [u64_add (by omega), em]
            have es : aBin .sub .num (.int .i64 (j : Nat)) (.int .i64 1) = some (.int .i64 ((j : Int) - 1)) := i64_sub (by omega) (by omega)
            rw [u64_mul128 m1, ej]
            simp only [f1, f2, u8_rem128 hcj, u8_u64 (by omega : bs[j] % 128 < 256), ea, es, valW_some, stW_some, csW_some, optW_some, condW_true, condW_false, guardW_t, guardW_f, guardT_mv, guardT_true, guardT_false, gv_true, gv_false, pick_and, pick_or, pick_t, pick_f, nilck_ptr, faddr_ptr, ext_0, ext_1, ext_2, not_bool, cells_agg, newW_eq, mapW_eq, int_lss, int_leq, int_gtr, int_geq, int_eql, int_neq, ptr_eq_nil, ptr_ne_nil, nil_eq_nil, nil_ne_nil, Nat.zero_add, gT_load1, gT_loadn, gT_faddr, gT_nilck, gT_bin1, gT_bin2, gT_un, gT_len, gT_conv, gT_iaddr1, gT_iaddr2, gT_ext, gT_field, gT_pick1, gT_pick2, guardT_mvg, Bool.not_true, Bool.not_false, Bool.true_and, Bool.false_and, Bool.and_true, Bool.and_false, Bool.true_or, Bool.false_or, Bool.or_true, Bool.or_false, Bool.not_not, decide_true, decide_false, pick_orn]
            exact hN2 j rfl
          · obtain rfl : m = 0 := by omega
            have ei' : aBin .add .num (.int .i64 (n : Nat)) (.int .i64 1) = some (.int .i64 ((n + 1 : Nat) : Int)) := i64_addn (b := 1) (by omega)
            rw [hrdu, if_neg q1, if_neg q2] at hK
            simp only [ei', valW_some, stW_some, csW_some, optW_some, condW_true, condW_false, guardW_t, guardW_f, guardT_mv, guardT_true, guardT_false, gv_true, gv_false, pick_and, pick_or, pick_t, pick_f, nilck_ptr, faddr_ptr, ext_0, ext_1, ext_2, not_bool, cells_agg, newW_eq, mapW_eq, int_lss, int_leq, int_gtr, int_geq, int_eql, int_neq, ptr_eq_nil, ptr_ne_nil, nil_eq_nil, nil_ne_nil, Nat.zero_add, gT_load1, gT_loadn, gT_faddr, gT_nilck, gT_bin1, gT_bin2, gT_un, gT_len, gT_conv, gT_iaddr1, gT_iaddr2, gT_ext, gT_field, gT_pick1, gT_pick2, guardT_mvg, Bool.not_true, Bool.not_false, Bool.true_and, Bool.false_and, Bool.and_true, Bool.and_false, Bool.true_or, Bool.false_or, Bool.or_true, Bool.or_false, Bool.not_not, decide_true, decide_false, pick_orn]
            have e : (bs.drop 0).take (n + 1 - 0) = bs.take n ++ [bs[n]] := by
              rw [List.drop_zero, Nat.sub_zero, List.take_succ_eq_append_getElem hlt]
            rw [e]
            exact hK
        obtain ⟨b6, d6⟩ : ∃ b, decide ((n : Int) > 0) = b := ⟨_, rfl⟩
        obtain ⟨b7, d7⟩ : ∃ b, decide (((bs[n] : Nat) : Int) = 0) = b := ⟨_, rfl⟩
        obtain ⟨b8, d8⟩ : ∃ b, decide ((n : Int) = 9) = b := ⟨_, rfl⟩
        obtain ⟨b9, d9⟩ : ∃ b, decide (((bs[n] : Nat) : Int) > 1) = b := ⟨_, rfl⟩
        cases b6 <;> cases b7 <;> cases b8 <;> cases b9 <;>
          (simp only [hlen, int_lss, d1, d3, e1, e2, d5, d2, d4, d6, d7, d8, d9, Bool.and_self, Bool.true_and, Bool.and_true, Bool.and_false, Bool.false_and, Bool.or_self, Bool.false_or, Bool.or_false, Bool.true_or, Bool.or_true, Bool.not_true, Bool.not_false, valW_some, stW_some, csW_some, optW_some, condW_true, condW_false, guardW_t, guardW_f, guardT_mv, guardT_true, guardT_false, gv_true, gv_false, pick_and, pick_or, pick_t, pick_f, nilck_ptr, faddr_ptr, ext_0, ext_1, ext_2, not_bool, cells_agg, newW_eq, mapW_eq, int_lss, int_leq, int_gtr, int_geq, int_eql, int_neq, ptr_eq_nil, ptr_ne_nil, nil_eq_nil, nil_ne_nil, Nat.zero_add, gT_load1, gT_loadn, gT_faddr, gT_nilck, gT_bin1, gT_bin2, gT_un, gT_len, gT_conv, gT_iaddr1, gT_iaddr2, gT_ext, gT_field, gT_pick1, gT_pick2, guardT_mvg, Bool.not_true, Bool.not_false, Bool.true_and, Bool.false_and, Bool.and_true, Bool.and_false, Bool.true_or, Bool.false_or, Bool.or_true, Bool.or_false, Bool.not_not, decide_true, decide_false, pick_orn]
           simp only [decide_eq_true_eq, decide_eq_false_iff_not] at d6 d7 d8 d9
           first
             | exact hloop (by omega) (by omega)
             | exact hnone (by rw [hrdu]; first | rw [if_pos (by omega)] | rw [if_neg (by omega), if_pos (by omega)]))
    · obtain rfl : n = 10 := by omega
      have d3 : decide (((10 : Nat) : Int) < 10) = false := rfl
      have d4 : decide (((10 : Nat) : Int) ≥ 10) = true := rfl
      have hr : rdu 0 0 bs = none := by
        conv => lhs; rw [hsplit]
        exact rdu_long _ 0 0 _ hpre (by omega)
      rw [hr] at hK
      simp only [hlen, int_lss, d1, d2, d3, d4, Bool.true_and, Bool.false_or, valW_some, stW_some, csW_some, optW_some, condW_true, condW_false, guardW_t, guardW_f, guardT_mv, guardT_true, guardT_false, gv_true, gv_false, pick_and, pick_or, pick_t, pick_f, nilck_ptr, faddr_ptr, ext_0, ext_1, ext_2, not_bool, cells_agg, newW_eq, mapW_eq, int_lss, int_leq, int_gtr, int_geq, int_eql, int_neq, ptr_eq_nil, ptr_ne_nil, nil_eq_nil, nil_ne_nil, Nat.zero_add, gT_load1, gT_loadn, gT_faddr, gT_nilck, gT_bin1, gT_bin2, gT_un, gT_len, gT_conv, gT_iaddr1, gT_iaddr2, gT_ext, gT_field, gT_pick1, gT_pick2, guardT_mvg, Bool.not_true, Bool.not_false, Bool.true_and, Bool.false_and, Bool.and_true, Bool.and_false, Bool.true_or, Bool.false_or, Bool.or_true, Bool.or_false, Bool.not_not, decide_true, decide_false, pick_orn]
      exact hK
  · obtain rfl : n = bs.length := by omega
    have d1 : decide (((bs.length : Nat) : Int) < (bs.length : Nat)) = false := decide_eq_false (by omega)
    have d2 : decide (((bs.length : Nat) : Int) ≥ (bs.length : Nat)) = true := decide_eq_true (by omega)
    have hr : rdu 0 0 bs = none := by
      rw [List.take_length] at hpre
      exact rdu_none _ 0 0 hpre
    rw [hr] at hK
    simp only [hlen, int_lss, d1, d2, Bool.not_true, valW_some, stW_some, csW_some, optW_some, condW_true, condW_false, guardW_t, guardW_f, guardT_mv, guardT_true, guardT_false, gv_true, gv_false, pick_and, pick_or, pick_t, pick_f, nilck_ptr, faddr_ptr, ext_0, ext_1, ext_2, not_bool, cells_agg, newW_eq, mapW_eq, int_lss, int_leq, int_gtr, int_geq, int_eql, int_neq, ptr_eq_nil, ptr_ne_nil, nil_eq_nil, nil_ne_nil, Nat.zero_add, gT_load1, gT_loadn, gT_faddr, gT_nilck, gT_bin1, gT_bin2, gT_un, gT_len, gT_conv, gT_iaddr1, gT_iaddr2, gT_ext, gT_field, gT_pick1, gT_pick2, guardT_mvg, Bool.not_true, Bool.not_false, Bool.true_and, Bool.false_and, Bool.and_true, Bool.and_false, Bool.true_or, Bool.false_or, Bool.or_true, Bool.or_false, Bool.not_not, decide_true, decide_false, pick_orn]
    exact hK
end Go.AM.P

import Derived.Test.YthbkgikjaiaigaaGreatY4Wire2
namespace Go.AM.P
set_option linter.all false
set_option linter.all false
open Go.AM
variable {P : Program} {σ : St}

/-- The number that bytes begin with, and how many they are. -/
def rdu (i acc : Nat) : List Nat → Option (Nat × Nat)
  | [] => none
  | c :: r => if 10 ≤ i then none else if i = 9 ∧ 1 < c then none else if 128 ≤ c then rdu (i + 1) (acc + c % 128 * 128 ^ i) r else if c = 0 ∧ 0 < i then none else some (acc + c * 128 ^ i, i + 1)

/-- A reader's place. -/
def RdAt (σ : St) (l : Nat) (bs : List Nat) (a : Nat) (e : Int) : Prop := ∃ bv, σ.get l = some (.cells [bv, .int .i64 (a : Nat), .int .i64 e]) ∧ Flat bv bs

theorem left_ret (H : Has P tab) {l a : Nat} {bs : List Nat} {e : Int} (h : RdAt σ l bs a e) (ha : a ≤ bs.length) (hl : bs.length < 9223372036854775808) :
    Ret P N.wire_place_left [.ptr l 0] σ fun r σ' => r = .int .i64 ((bs.length - a : Nat) : Int) ∧ σ' = σ := by
  obtain ⟨bv, hg, hf⟩ := h
  refine r_wire_place_left H ?_
  rw [w_wire_place_left_eq, nilck_ptr, valW_some, faddr_ptr, valW_some, load1_ptr hg (v := bv) rfl, valW_some, (hf.bytes σ).len, valW_some, valW_some, faddr_ptr, valW_some, load1_ptr hg (v := .int .i64 (a : Nat)) rfl, valW_some, i64_sub (by omega) (by omega), valW_some]
  refine ⟨trivial, ?_, rfl⟩
  congr 1
  omega

theorem fail_ret (H : Has P tab) {l a : Nat} {bs : List Nat} {e x : Int} (h : RdAt σ l bs a e) :
    Ret P N.wire_place_fail [.ptr l 0, .int .i64 x] σ fun _ σ' => RdAt σ' l bs a (if e = 0 then x else e) ∧ Only l σ σ' := by
  obtain ⟨bv, hg, hf⟩ := h
  refine r_wire_place_fail H ?_
  rw [w_wire_place_fail_eq, nilck_ptr, valW_some, faddr_ptr, valW_some, load1_ptr hg (v := .int .i64 e) rfl, valW_some, int_eql, valW_some, condW_dec]
  refine ⟨fun he => ?_, fun he => ?_⟩
  · have es : storeS 1 σ (.ptr l (0 + 2)) (.int .i64 x) = some (σ.put l (.cells [bv, .int .i64 (a : Nat), .int .i64 x])) := store1_ptr hg rfl (by simp)
    rw [valW_some, faddr_ptr, valW_some, es, stW_some, if_pos he]
    exact ⟨⟨bv, by rw [St.get_put, if_pos rfl], hf⟩, Only.put _ _ _⟩
  · rw [if_neg he]; exact ⟨⟨bv, hg, hf⟩, Only.refl _ _⟩

theorem u8_and127 {c : Nat} (h : c < 256) : aBin .and .num (.int .u8 (c : Nat)) (.int .u8 127) = some (.int .u8 ((c % 128 : Nat) : Int)) := by
  show some (AV.int .u8 (IntKind.u8.wrap ((BitVec.ofInt 8 (c : Int) &&& BitVec.ofInt 8 ((127 : Nat) : Int)).toNat))) = _
  rw [ofInt_nat, ofInt_nat, BitVec.toNat_and, BitVec.toNat_ofNat, BitVec.toNat_ofNat, Nat.mod_eq_of_lt (by omega), Nat.mod_eq_of_lt (by omega), wrap_u8]
  have e : c &&& 127 = c % 128 := Nat.and_two_pow_sub_one_eq_mod c 7
  rw [e]
  congr 2
  omega

theorem u8_u64 {c : Nat} (hc : c < 256) (σ : St) : aConv (.int .u64) σ (.int .u8 (c : Nat)) = some (.int .u64 (c : Nat)) := by
  show some (AV.int .u64 (IntKind.u64.wrap c)) = _
  rw [wrap_u64]
  congr 2
  omega

theorem pow128 (i : Nat) : (128 : Nat) ^ i = 2 ^ (7 * i) := by
  rw [show (128 : Nat) = 2 ^ 7 by decide, ← Nat.pow_mul]

theorem u64_shl {x i : Nat} (hi : i < 10) (h : x * 128 ^ i < 18446744073709551616) : aBin .shl .num (.int .u64 (x : Nat)) (.int .i64 ((7 * i : Nat) : Int)) = some (.int .u64 ((x * 128 ^ i : Nat) : Int)) := by
  have e : aBin .shl .num (.int .u64 (x : Nat)) (.int .i64 ((7 * i : Nat) : Int)) = some (AV.int .u64 (IntKind.u64.wrap ((x : Int) * 2 ^ (7 * i)))) := by
    simp only [aBin]
    rw [if_neg (by omega)]
    have : min ((7 * i : Nat) : Int).toNat IntKind.u64.bits = 7 * i := by
      show min ((7 * i : Nat) : Int).toNat 64 = 7 * i
      rw [Int.toNat_natCast]; omega
    rw [this]
  rw [e, wrap_u64]
  have e2 : ((x : Int) * 2 ^ (7 * i)) = ((x * 128 ^ i : Nat) : Int) := by
    rw [pow128]; simp
  rw [e2]
  congr 2
  omega

theorem u64_or {a x i : Nat} (ha : a < 128 ^ i) (h : a + x * 128 ^ i < 18446744073709551616) : aBin .or .num (.int .u64 (a : Nat)) (.int .u64 ((x * 128 ^ i : Nat) : Int)) = some (.int .u64 ((a + x * 128 ^ i : Nat) : Int)) := by
  show some (AV.int .u64 (IntKind.u64.wrap ((BitVec.ofInt 64 (a : Int) ||| BitVec.ofInt 64 ((x * 128 ^ i : Nat) : Int)).toNat))) = _
  rw [ofInt_nat, ofInt_nat, BitVec.toNat_or, BitVec.toNat_ofNat, BitVec.toNat_ofNat, Nat.mod_eq_of_lt (by omega), Nat.mod_eq_of_lt (by omega), wrap_u64]
  have e : a ||| x * 128 ^ i = a + x * 128 ^ i := by
    rw [pow128] at ha ⊢
    rw [Nat.or_comm, Nat.mul_comm, ← Nat.two_pow_add_eq_or_of_lt ha, Nat.add_comm]
  rw [e]
  congr 2
  omega

theorem i64_mul {a b : Int} (h1 : -9223372036854775808 ≤ a * b) (h2 : a * b < 9223372036854775808) : aBin .mul .num (.int .i64 a) (.int .i64 b) = some (.int .i64 (a * b)) := by
  show some (AV.int .i64 (IntKind.i64.wrap (a * b))) = _
  rw [i64_wrap h1 h2]

theorem guard_dec (p : Prop) [Decidable p] (X : (AV → St → Prop) → Prop) (σ : St) (K : AV → St → Prop) (h1 : p → X K) (h2 : ¬ p → K (.tup []) σ) : guardW (.bool (decide p)) true X σ K := by
  by_cases h : p
  · rw [decide_eq_true h]; exact h1 h
  · rw [decide_eq_false h]; exact h2 h

theorem uint_ret (H : Has P tab) {l a : Nat} {bs : List Nat} {e : Int} {K : AV → St → Prop} (h : RdAt σ l bs a e) (ha : a ≤ bs.length) (hl : bs.length < 4611686018427387904) (hb : ∀ c ∈ bs, c < 256)
    (h1 : ∀ n k σ', rdu 0 0 (bs.drop a) = some (n, k) → RdAt σ' l bs (a + k) e → Only l σ σ' → n < 18446744073709551616 → a + k ≤ bs.length → K (.int .u64 (n : Nat)) σ')
    (h2 : ∀ σ', rdu 0 0 (bs.drop a) = none → RdAt σ' l bs a (if e = 0 then 6 else e) → Only l σ σ' → K (.int .u64 0) σ') : Ret P N.wire_place_uint [.ptr l 0] σ K := by
  refine r_wire_place_uint H ?_
  rw [w_wire_place_uint_eq]
  refine l_wire_place_uint_1_of (fun m x0 x3 x4 s => ∃ i acc, m = 10 - i ∧ i ≤ 10 ∧ x0 = .ptr l 0 ∧ x3 = .int .u64 (acc : Nat) ∧ x4 = .int .i64 (i : Nat) ∧ σ = s ∧ acc < 128 ^ i ∧ a + i ≤ bs.length ∧ rdu i acc (bs.drop (a + i)) = rdu 0 0 (bs.drop a)) 10
    ⟨0, 0, rfl, by omega, rfl, rfl, rfl, rfl, by decide, by omega, rfl⟩ ?_
  rintro m x0 x3 x4 s ⟨i, acc, rfl, hi, rfl, rfl, rfl, rfl, hacc, hai, heq⟩
  generalize hN : (fun (x0 x3 x4 : AV) (s : St) => ∃ m', m' < 10 - i ∧ ∃ i acc, m' = 10 - i ∧ i ≤ 10 ∧ x0 = AV.ptr l 0 ∧ x3 = .int .u64 (acc : Nat) ∧ x4 = .int .i64 (i : Nat) ∧ σ = s ∧ acc < 128 ^ i ∧ a + i ≤ bs.length ∧ rdu i acc (bs.drop (a + i)) = rdu 0 0 (bs.drop a)) = N1
  have hN1 : ∀ acc', i < 10 → acc' < 128 ^ (i + 1) → a + (i + 1) ≤ bs.length → rdu (i + 1) acc' (bs.drop (a + (i + 1))) = rdu 0 0 (bs.drop a) → N1 (.ptr l 0) (.int .u64 (acc' : Nat)) (.int .i64 ((i : Int) + 1)) σ := by
    intro acc' hi' q1 q2 q3
    rw [← hN]
    exact ⟨10 - (i + 1), by omega, i + 1, acc', rfl, by omega, rfl, rfl, rfl, rfl, q1, q2, q3⟩
  clear hN
  have none_case : rdu i acc (bs.drop (a + i)) = none → Ret P N.wire_place_fail [.ptr l 0, .int .i64 6] σ fun _ σ' => K (.int .u64 0) σ' := by
    intro hn
    refine (fail_ret H h).mono ?_
    rintro r σ' ⟨g1, g2⟩
    exact h2 σ' (by rw [← heq, hn]) g1 g2
  rw [b_wire_place_uint_1_eq]
  simp only [int_lss, valW_some]
  rw [condW_dec]
  refine ⟨fun h10 => ?_, fun h10 => ?_⟩
  · have h10' : i < 10 := by omega
    refine (left_ret H h ha (by omega)).mono ?_
    rintro r s' ⟨rfl, rfl⟩
    simp only [int_geq, valW_some]
    rw [condW_dec]
    refine ⟨fun hge => ?_, fun hge => ?_⟩
    · have hd : bs.drop (a + i) = [] := List.drop_eq_nil_of_le (by omega)
      exact none_case (by rw [hd]; rfl)
    · have hlt : a + i < bs.length := by omega
      obtain ⟨bv, hg, hf⟩ := h
      have hc : bs[a + i] < 256 := hb _ (List.getElem_mem _)
      obtain ⟨ad, e1, e2⟩ := (hf.bytes s').at hlt
      have e1' : iaddrV 1 bv (.int .i64 ((a : Int) + i)) = some ad := by rw [← e1]; congr 2
      have hcons : bs.drop (a + i) = bs[a + i] :: bs.drop (a + i + 1) := List.drop_eq_getElem_cons hlt
      generalize hcd : bs[a + i] = c at *
      have el0 : load1V s' (.ptr l (0 + 0)) = some bv := load1_ptr hg rfl
      have el1 : load1V s' (.ptr l (0 + 1)) = some (.int .i64 (a : Nat)) := load1_ptr hg rfl
      have ea : aBin .add .num (.int .i64 (a : Nat)) (.int .i64 (i : Nat)) = some (.int .i64 ((a : Int) + i)) := i64_add (by omega) (by omega)
      have ei : aBin .add .num (.int .i64 (i : Nat)) (.int .i64 1) = some (.int .i64 ((i : Int) + 1)) := i64_add (by omega) (by omega)
      have eai : aBin .add .num (.int .i64 (a : Nat)) (.int .i64 ((i : Int) + 1)) = some (.int .i64 ((a : Int) + ((i : Int) + 1))) := i64_add (by omega) (by omega)
      have es : storeS 1 s' (.ptr l (0 + 1)) (.int .i64 ((a : Int) + ((i : Int) + 1))) = some (s'.put l (.cells [bv, .int .i64 ((a : Int) + ((i : Int) + 1)), .int .i64 e])) := store1_ptr hg rfl (by simp)
      have e7 : aBin .mul .num (.int .i64 7) (.int .i64 (i : Nat)) = some (.int .i64 ((7 * i : Nat) : Int)) := by
        rw [i64_mul (by omega) (by omega)]; simp
      have hp : (128 : Nat) ^ i ≤ 128 ^ 9 := Nat.pow_le_pow_right (by omega) (by omega)
      have h99 : (128 : Nat) ^ 9 = 9223372036854775808 := by decide
      have sums : ¬ (i = 9 ∧ 1 < c) → acc + c % 128 * 128 ^ i < 18446744073709551616 := by
        intro h9
        by_cases h8 : i = 9
        · subst h8
          have h0 : c % 128 ≤ 1 := by omega
          have := Nat.mul_le_mul_right (128 ^ 9) h0
          omega
        · have hp8 : (128 : Nat) ^ i ≤ 128 ^ 8 := Nat.pow_le_pow_right (by omega) (by omega)
          have h88 : (128 : Nat) ^ 8 = 72057594037927936 := by decide
          have : c % 128 * 128 ^ i ≤ 127 * 128 ^ i := Nat.mul_le_mul_right _ (by omega)
          omega
      have hnew : acc + c % 128 * 128 ^ i < 128 ^ (i + 1) := by
        rw [Nat.pow_succ]
        have : c % 128 * 128 ^ i ≤ 127 * 128 ^ i := Nat.mul_le_mul_right _ (by omega)
        omega
      simp only [nilck_ptr, faddr_ptr, valW_some, el0, el1, ea, e1', e2, int_eql]
      refine ⟨trivial, ?_⟩
      by_cases h9 : i = 9 ∧ 1 < c
      · obtain ⟨rfl, h1c⟩ := h9
        rw [decide_eq_true (by rfl)]
        simp only [guard_tt, int_gtr, valW_some, pick_t]
        rw [decide_eq_true (by omega), condW_true]
        exact none_case (by rw [hcons, rdu, if_neg (by omega), if_pos ⟨rfl, h1c⟩])
      · have hgate : ∀ (Y : AV → St → Prop), Y (.bool false) s' → guardW (.bool (decide ((i : Int) = 9))) true (fun K0 => K0 (.int .u8 (c : Nat)) s') s' fun v15 s3 =>
            guardW (.bool (decide ((i : Int) = 9))) true (fun K0 => valW (aBin .gtr .num v15 (.int .u8 1)) fun v17 => K0 v17 s3) s3 fun v16 s4 =>
            valW (pickV (.bool (decide ((i : Int) = 9))) v16 (.bool false)) fun v18 => Y v18 s4 := by
          intro Y hY
          by_cases hi9 : (i : Int) = 9
          · rw [decide_eq_true hi9]
            simp only [guard_tt, int_gtr, valW_some, pick_t]
            rw [decide_eq_false (by omega)]
            exact hY
          · rw [decide_eq_false hi9]
            simp only [guard_ft, pick_f, valW_some]
            exact hY
        refine hgate _ ?_
        simp only [condW_false, u8_and127 hc, u8_u64 (by omega : c % 128 < 256), valW_some, e7, u64_shl h10' (Nat.lt_of_le_of_lt (Nat.le_add_left _ _) (sums h9)), u64_or hacc (sums h9), int_geq, ei, int_eql, eai, es, stW_some]
        rw [condW_dec]
        refine ⟨fun h128 => ?_, fun h128 => ?_⟩
        · have h128' : 128 ≤ c := by omega
          refine hN1 _ h10' hnew (by omega) ?_
          rw [← heq, hcons, rdu, if_neg (by omega), if_neg h9, if_pos h128']
          rfl
        · have h128' : ¬ 128 ≤ c := by omega
          have hstep : rdu i acc (bs.drop (a + i)) = if c = 0 ∧ 0 < i then none else some (acc + c * 128 ^ i, i + 1) := by
            rw [hcons, rdu, if_neg (by omega), if_neg h9, if_neg h128']
          have hfin : ¬ (c = 0 ∧ 0 < i) → K (.int .u64 ((acc + c % 128 * 128 ^ i : Nat) : Int)) (s'.put l (.cells [bv, .int .i64 ((a : Int) + ((i : Int) + 1)), .int .i64 e])) := by
            intro hz
            rw [if_neg hz] at hstep
            have hs := sums h9
            rw [Nat.mod_eq_of_lt (by omega : c < 128)] at hs ⊢
            refine h1 _ (i + 1) _ (by rw [← heq, hstep]) ⟨bv, ?_, hf⟩ (Only.put _ _ _) hs (by omega)
            rw [St.get_put, if_pos rfl]
            rfl
          by_cases hz : (c : Int) = 0
          · rw [decide_eq_true hz]
            simp only [guard_tt, int_gtr, valW_some, pick_t, nilck_ptr, faddr_ptr, el1, eai, es, stW_some]
            rw [condW_dec]
            exact ⟨fun h0 => none_case (by rw [hstep, if_pos ⟨by omega, by omega⟩]), fun h0 => hfin (by omega)⟩
          · rw [decide_eq_false hz]
            simp only [guard_ft, pick_f, valW_some, condW_false, nilck_ptr, faddr_ptr, el1, eai, es, stW_some]
            exact hfin (by omega)
  · obtain rfl : i = 10 := by omega
    refine none_case ?_
    cases bs.drop (a + 10) with
    | nil => rfl
    | cons c r => rw [rdu, if_pos (by omega)]
end Go.AM.P

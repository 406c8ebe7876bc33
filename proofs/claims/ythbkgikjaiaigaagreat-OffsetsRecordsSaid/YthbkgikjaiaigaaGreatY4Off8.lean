import Derived.Test.YthbkgikjaiaigaaGreatY4Off7
namespace Go.AM.P
set_option linter.all false
open Go.AM
set_option linter.all false
variable {P : Program} {σ : St} {K : AV → St → Prop}

def Three (val : List Nat) : Prop := ∃ o m g, o < 18446744073709551616 ∧ m < 18446744073709551616 ∧ g < 18446744073709551616 ∧ val = uv o ++ (uv m ++ uv g)

theorem reads3 (H : Has P tab) {l : Nat} {val : List Nat} {F : AV → AV → AV → AV → St → Prop} (h : RdAt σ l val 0 0) (hl : val.length < 4611686018427387904) (hb : ∀ c ∈ val, c < 256)
    (hok : ∀ o m g s, o < 18446744073709551616 → m < 18446744073709551616 → g < 18446744073709551616 → val = uv o ++ (uv m ++ uv g) → Only l σ s → F (.int .u64 (o : Nat)) (.int .u64 (m : Nat)) (.int .u64 (g : Nat)) (.int .i64 0) s)
    (hno : ∀ v1 v2 v3 s, ¬ Three val → Only l σ s → F v1 v2 v3 (.int .i64 6) s) :
    Ret P N.wire_Reader_Uint [.ptr l 0] σ fun v1 s1 => Ret P N.wire_Reader_Uint [.ptr l 0] s1 fun v2 s2 => Ret P N.wire_Reader_Uint [.ptr l 0] s2 fun v3 s3 => Ret P N.wire_Reader_End [.ptr l 0] s3 fun v4 s4 => F v1 v2 v3 v4 s4 := by
  have bad : ∀ {a : Nat} {s : St}, RdAt s l val a 6 → a ≤ val.length → ∀ v1 v2 v3, ¬ Three val → Only l σ s → Ret P N.wire_Reader_End [.ptr l 0] s fun v4 s4 => F v1 v2 v3 v4 s4 := by
    intro a s hr ha v1 v2 v3 h3 ho
    refine readerEnd_ret H hr ha hl fun s' q1 q2 => ?_
    exact hno _ _ _ _ h3 (ho.trans q2)
  refine readerUint_ret H h (Nat.zero_le _) hl hb (fun e => absurd rfl e) (fun o k1 s1 _ r1 hr1 o1 n1 b1 => ?_) (fun s1 _ r1 hr1 o1 => ?_)
  · simp only [Nat.zero_add] at hr1 b1
    rw [List.drop_zero] at r1
    refine readerUint_ret H hr1 b1 hl hb (fun e => absurd rfl e) (fun m k2 s2 _ r2 hr2 o2 n2 b2 => ?_) (fun s2 _ r2 hr2 o2 => ?_)
    · refine readerUint_ret H hr2 b2 hl hb (fun e => absurd rfl e) (fun g k3 s3 _ r3 hr3 o3 n3 b3 => ?_) (fun s3 _ r3 hr3 o3 => ?_)
      · refine readerEnd_ret H hr3 b3 hl fun s' q1 q2 => ?_
        rw [if_pos rfl]
        by_cases hlt : k1 + k2 + k3 < val.length
        · rw [if_pos hlt]
          refine hno _ _ _ _ ?_ (((o1.trans o2).trans o3).trans q2)
          rintro ⟨o', m', g', t1, t2, t3, t4⟩
          obtain ⟨u1, u2, u3⟩ := three_of t1 t2 t3
          rw [← t4] at u1 u2 u3
          rw [u1] at r1; cases r1
          rw [u2] at r2; cases r2
          rw [u3] at r3; cases r3
          rw [t4] at hlt
          simp at hlt
          omega
        · rw [if_neg hlt]
          exact hok o m g _ n1 n2 n3 (three hb r1 r2 r3 (by omega)) (((o1.trans o2).trans o3).trans q2)
      · refine bad hr3 b2 _ _ _ ?_ ((o1.trans o2).trans o3)
        rintro ⟨o', m', g', t1, t2, t3, t4⟩
        obtain ⟨u1, u2, u3⟩ := three_of t1 t2 t3
        rw [← t4] at u1 u2 u3
        rw [u1] at r1; cases r1
        rw [u2] at r2; cases r2
        rw [u3] at r3; cases r3
    · have h3 : ¬ Three val := by
        rintro ⟨o', m', g', t1, t2, t3, t4⟩
        obtain ⟨u1, u2, u3⟩ := three_of t1 t2 t3
        rw [← t4] at u1 u2 u3
        rw [u1] at r1; cases r1
        rw [u2] at r2; cases r2
      refine readerUint_ret H hr2 b1 hl hb (fun _ => bad hr2 b1 _ _ _ h3 (o1.trans o2)) (fun _ _ _ e => by cases e) (fun _ e => by cases e)
  · have h3 : ¬ Three val := by
      rintro ⟨o', m', g', t1, t2, t3, t4⟩
      obtain ⟨u1, u2, u3⟩ := three_of t1 t2 t3
      rw [← t4] at u1
      rw [List.drop_zero, u1] at r1; cases r1
    refine readerUint_ret H hr1 (Nat.zero_le _) hl hb (fun _ => ?_) (fun _ _ _ e => by cases e) (fun _ e => by cases e)
    refine readerUint_ret H hr1 (Nat.zero_le _) hl hb (fun _ => bad hr1 (Nat.zero_le _) _ _ _ h3 o1) (fun _ _ _ e => by cases e) (fun _ e => by cases e)

def dv : List Nat → Nat → Nat
  | [], a => a
  | d :: r, a => dv r (a * 10 + (d - 48))

theorem u8_sub {a b : Nat} (h : b ≤ a) (ha : a < 256) : aBin .sub .num (.int .u8 (a : Nat)) (.int .u8 (b : Nat)) = some (.int .u8 ((a - b : Nat) : Int)) := by
  show some (AV.int .u8 (IntKind.u8.wrap ((a : Int) - b))) = _
  rw [wrap_u8]; congr 2; omega

theorem u8_i64 {a : Nat} (h : a < 256) (τ : St) : aConv (.int .i64) τ (.int .u8 (a : Nat)) = some (.int .i64 (a : Nat)) := by
  show some (AV.int .i64 (IntKind.i64.wrap a)) = _
  rw [i64_wrap (by omega) (by omega)]

theorem u64_i64 {a : Nat} (h : a < 9223372036854775808) (τ : St) : aConv (.int .i64) τ (.int .u64 (a : Nat)) = some (.int .i64 (a : Nat)) := by
  show some (AV.int .i64 (IntKind.i64.wrap a)) = _
  rw [i64_wrap (by omega) (by omega)]

def comAV (p o m g : Nat) : AV := .agg [.int .i64 (p : Nat), .int .i64 (o : Nat), .int .i64 (m : Nat), .int .i64 (g : Nat)]

theorem gcall_ff (f : FuncId) (a : List AV) (K : Bool → AV → St → Prop) : gcallW P (.bool false) false f a σ K = Ret P f a σ (K true) := rfl
theorem gcall_tf (f : FuncId) (a : List AV) (K : Bool → AV → St → Prop) : gcallW P (.bool true) false f a σ K = K false (.tup []) σ := rfl
theorem gcall_tt (f : FuncId) (a : List AV) (K : Bool → AV → St → Prop) : gcallW P (.bool true) true f a σ K = Ret P f a σ (K true) := rfl
theorem gcall_ft (f : FuncId) (a : List AV) (K : Bool → AV → St → Prop) : gcallW P (.bool false) true f a σ K = K false (.tup []) σ := rfl
theorem gchk_ff (X Y : Prop) : gchkW (.bool false) false X Y = X := rfl
theorem gchk_tf (X Y : Prop) : gchkW (.bool true) false X Y = Y := rfl
theorem gchk_tt (X Y : Prop) : gchkW (.bool true) true X Y = X := rfl
theorem gchk_ft (X Y : Prop) : gchkW (.bool false) true X Y = Y := rfl

theorem listEq_dec (a b : List Nat) : listEq a b = decide (a = b) := by
  by_cases h : a = b
  · subst h; rw [listEq_refl]; simp
  · cases hb : listEq a b with
    | false => simp [h]
    | true => exact absurd (listEq_iff hb) h
theorem str_neq (a b : List Nat) : aBin .neq .str (.str a) (.str b) = some (.bool (!decide (a = b))) := by rw [← listEq_dec]; rfl
theorem str_eql (a b : List Nat) : aBin .eql .str (.str a) (.str b) = some (.bool (decide (a = b))) := by rw [← listEq_dec]; rfl

theorem parse_ret (H : Has P tab) {key val : List Nat} {gone : Bool} {t : Int} (hk : ∀ c ∈ key, c < 256) (hv : ∀ c ∈ val, c < 256) (hl : val.length ≤ 1099511627776)
    (h1 : ∀ p o m g σ', Good key val gone p o m g → Kept σ.next σ σ' → K (.tup [comAV p o m g, .int .i64 0]) σ')
    (h2 : (¬ ∃ p o m g, Good key val gone p o m g) → ∀ σ', Kept σ.next σ σ' → K (.tup [comAV 0 0 0 0, .int .i64 6]) σ') :
    Ret P N.offsets_Parse [.agg [.str key, .str val, .bool gone, .int .i64 t]] σ K := by
  refine r_offsets_Parse H ?_
  rw [w_offsets_Parse_eq]
  have hfail : (¬ ∃ p o m g, Good key val gone p o m g) → ∀ (s : St) (cs : List AV), cs.length = 4 → s.get (σ.next + 1) = some (.cells cs) → Kept σ.next σ s →
      (csW (fillV [(.int .i64 0), (.int .i64 0), (.int .i64 0), (.int .i64 0)] []) fun c13 =>
      stW (storeS 4 s (.ptr (σ.next + 1) 0) (.agg c13)) fun s5 =>
      valW (loadnV s5 4 (.ptr (σ.next + 1) 0)) fun v14 =>
      K (.tup [v14, (.int .i64 6)]) s5) := by
    intro hno s cs hcs hg hkp
    have e5 : fillV [(.int .i64 0), (.int .i64 0), (.int .i64 0), (.int .i64 0)] [] = some [(.int .i64 0), (.int .i64 0), (.int .i64 0), (.int .i64 0)] := rfl
    have e6 : storeS 4 s (.ptr (σ.next + 1) 0) (.agg [(.int .i64 0), (.int .i64 0), (.int .i64 0), (.int .i64 0)]) = some (s.put (σ.next + 1) (.cells [(.int .i64 0), (.int .i64 0), (.int .i64 0), (.int .i64 0)])) := by
      have := store_ptr (n := 4) (off := 0) (vs := [(.int .i64 0), (.int .i64 0), (.int .i64 0), (.int .i64 0)]) (y := .agg [(.int .i64 0), (.int .i64 0), (.int .i64 0), (.int .i64 0)]) hg rfl rfl (by omega)
      rw [this]
      congr 3
      simp [fillAt, hcs]
    have e7 : loadnV (s.put (σ.next + 1) (.cells [(.int .i64 0), (.int .i64 0), (.int .i64 0), (.int .i64 0)])) 4 (.ptr (σ.next + 1) 0) = some (comAV 0 0 0 0) := loadn_ptr (get_put_same _ _ _) (by simp)
    rw [e5, csW_some, e6, stW_some, e7, valW_some]
    exact h2 hno _ (hkp.put (by omega) (by omega) _)
  simp only [valW_some, stW_some, csW_some, optW_some, condW_true, condW_false, guardW_t, guardW_f, guardT_mv, guardT_true, guardT_false, gv_true, gv_false, pick_and, pick_or, pick_t, pick_f, nilck_ptr, faddr_ptr, ext_0, ext_1, ext_2, not_bool, cells_agg, newW_eq, mapW_eq, int_lss, int_leq, int_gtr, int_geq, int_eql, int_neq, ptr_eq_nil, ptr_ne_nil, nil_eq_nil, nil_ne_nil, Nat.zero_add, gT_load1, gT_loadn, gT_faddr, gT_nilck, gT_bin1, gT_bin2, gT_un, gT_len, gT_conv, gT_iaddr1, gT_iaddr2, gT_ext, gT_field, gT_pick1, gT_pick2, guardT_mvg, Bool.not_true, Bool.not_false, Bool.true_and, Bool.false_and, Bool.and_true, Bool.and_false, Bool.true_or, Bool.false_or, Bool.or_true, Bool.or_false, Bool.not_not, decide_true, decide_false, pick_orn]
  obtain ⟨s2, hs2⟩ : ∃ s2, (σ.new (.cells [.str key, .str val, .bool gone, .int .i64 t])).new (.cells [.int .i64 0, .int .i64 0, .int .i64 0, .int .i64 0]) = s2 := ⟨_, rfl⟩
  have hn : s2.next = σ.next + 2 := by rw [← hs2]; rfl
  have hE : Ext σ s2 := by rw [← hs2]; exact ((Ext.refl σ).new _).new _
  have g1 : s2.get σ.next = some (.cells [.str key, .str val, .bool gone, .int .i64 t]) := by rw [← hs2]; simp [St.get_new]
  have g2 : s2.get (σ.next + 1) = some (.cells [.int .i64 0, .int .i64 0, .int .i64 0, .int .i64 0]) := by rw [← hs2]; simp [St.get_new]
  rw [hs2]
  have hK2 : Kept σ.next σ s2 := hE.kept (Nat.le_refl _)
  have e8 : (σ.new (.cells [.str key, .str val, .bool gone, .int .i64 t])).next = σ.next + 1 := rfl
  have c0 : load1V s2 (.ptr σ.next 0) = some (.str key) := load1_ptr g1 rfl
  have c2 : load1V s2 (.ptr σ.next 2) = some (.bool gone) := load1_ptr g1 rfl
  have elen : lenV .str s2 (.str key) = some (.int .i64 (key.length : Nat)) := rfl
  rw [e8]
  simp only [c0, c2, elen, valW_some, stW_some, csW_some, optW_some, condW_true, condW_false, guardW_t, guardW_f, guardT_mv, guardT_true, guardT_false, gv_true, gv_false, pick_and, pick_or, pick_t, pick_f, nilck_ptr, faddr_ptr, ext_0, ext_1, ext_2, not_bool, cells_agg, newW_eq, mapW_eq, int_lss, int_leq, int_gtr, int_geq, int_eql, int_neq, ptr_eq_nil, ptr_ne_nil, nil_eq_nil, nil_ne_nil, Nat.zero_add, gT_load1, gT_loadn, gT_faddr, gT_nilck, gT_bin1, gT_bin2, gT_un, gT_len, gT_conv, gT_iaddr1, gT_iaddr2, gT_ext, gT_field, gT_pick1, gT_pick2, guardT_mvg, Bool.not_true, Bool.not_false, Bool.true_and, Bool.false_and, Bool.and_true, Bool.and_false, Bool.true_or, Bool.false_or, Bool.or_true, Bool.or_false, Bool.not_not, decide_true, decide_false, pick_orn]
  rw [condW_bool]
  refine ⟨fun hc => ?_, fun hc => ?_⟩
  · refine hfail ?_ s2 _ rfl g2 hK2
    rintro ⟨p, o, m, g, a1, a2, a3, a4, a5, a6, a7⟩
    rw [a7, a5] at hc
    simp [keyS] at hc
  · simp only [Bool.or_eq_false_iff, Bool.not_eq_false', decide_eq_true_eq] at hc
    obtain ⟨hlen4, rfl⟩ := hc
    have hlen4' : key.length = 4 := by omega
    obtain ⟨k0, k1, k2, k3, rfl⟩ : ∃ a b c d, key = [a, b, c, d] := by
      match key, hlen4' with
      | [a, b, c, d], _ => exact ⟨a, b, c, d, rfl⟩
    have hk1 : k1 < 256 := hk k1 (by simp)
    have hk2 : k2 < 256 := hk k2 (by simp)
    have hk3 : k3 < 256 := hk k3 (by simp)
    have e5 : fillV [(.int .i64 0), (.int .i64 0), (.int .i64 0), (.int .i64 0)] [] = some [(.int .i64 0), (.int .i64 0), (.int .i64 0), (.int .i64 0)] := rfl
    have e6 : storeS 4 (s2.new (.cells [.int .i64 0, .int .i64 0, .int .i64 0, .int .i64 0])) (.ptr s2.next 0) (.agg [(.int .i64 0), (.int .i64 0), (.int .i64 0), (.int .i64 0)]) = some ((s2.new (.cells [.int .i64 0, .int .i64 0, .int .i64 0, .int .i64 0])).put s2.next (.cells [(.int .i64 0), (.int .i64 0), (.int .i64 0), (.int .i64 0)])) :=
      store_ptr (n := 4) (vs := [(.int .i64 0), (.int .i64 0), (.int .i64 0), (.int .i64 0)]) (get_new_same _ _) rfl rfl (by simp)
    simp only [e5, e6, valW_some, stW_some, csW_some, optW_some, condW_true, condW_false, guardW_t, guardW_f, guardT_mv, guardT_true, guardT_false, gv_true, gv_false, pick_and, pick_or, pick_t, pick_f, nilck_ptr, faddr_ptr, ext_0, ext_1, ext_2, not_bool, cells_agg, newW_eq, mapW_eq, int_lss, int_leq, int_gtr, int_geq, int_eql, int_neq, ptr_eq_nil, ptr_ne_nil, nil_eq_nil, nil_ne_nil, Nat.zero_add, gT_load1, gT_loadn, gT_faddr, gT_nilck, gT_bin1, gT_bin2, gT_un, gT_len, gT_conv, gT_iaddr1, gT_iaddr2, gT_ext, gT_field, gT_pick1, gT_pick2, guardT_mvg, Bool.not_true, Bool.not_false, Bool.true_and, Bool.false_and, Bool.and_true, Bool.and_false, Bool.true_or, Bool.false_or, Bool.or_true, Bool.or_false, Bool.not_not, decide_true, decide_false, pick_orn]
    obtain ⟨s7, hs7⟩ : ∃ s7, (s2.new (.cells [.int .i64 0, .int .i64 0, .int .i64 0, .int .i64 0])).put s2.next (.cells [(.int .i64 0), (.int .i64 0), (.int .i64 0), (.int .i64 0)]) = s7 := ⟨_, rfl⟩
    have hK7 : Kept σ.next σ s7 := by rw [← hs7]; exact (hK2.new (by omega) _).put (by omega) (by omega) _
    have hn7 : s7.next = σ.next + 3 := by rw [← hs7]; simp [hn]
    have p1 : s7.get σ.next = some (.cells [.str [k0, k1, k2, k3], .str val, .bool false, .int .i64 t]) := by
      rw [← hs7, St.get_put, if_neg (by omega), St.get_new, if_neg (by omega)]; exact g1
    have p2 : s7.get (σ.next + 1) = some (.cells [.int .i64 0, .int .i64 0, .int .i64 0, .int .i64 0]) := by
      rw [← hs7, St.get_put, if_neg (by omega), St.get_new, if_neg (by omega)]; exact g2
    have p4 : s7.get (σ.next + 2) = some (.cells [.int .i64 0, .int .i64 0, .int .i64 0, .int .i64 0]) := by
      rw [← hs7, hn, get_put_same]
    rw [hs7, hn]
    have l0 : load1V s7 (.ptr σ.next 0) = some (.str [k0, k1, k2, k3]) := load1_ptr p1 rfl
    have esl : sslcV (.str [k0, k1, k2, k3]) (some (.int .i64 1)) none = some (.str [k1, k2, k3]) := rfl
    have etb : aConv .toBytes s7 (.str [k1, k2, k3]) = some (.sl 1 .none 3 (byteCells [k1, k2, k3])) := rfl
    have eln : lenV .slice s7 (.sl 1 .none 3 (byteCells [k1, k2, k3])) = some (.int .i64 3) := rfl
    simp only [l0, esl, etb, eln, valW_some, stW_some, csW_some, optW_some, condW_true, condW_false, guardW_t, guardW_f, guardT_mv, guardT_true, guardT_false, gv_true, gv_false, pick_and, pick_or, pick_t, pick_f, nilck_ptr, faddr_ptr, ext_0, ext_1, ext_2, not_bool, cells_agg, newW_eq, mapW_eq, int_lss, int_leq, int_gtr, int_geq, int_eql, int_neq, ptr_eq_nil, ptr_ne_nil, nil_eq_nil, nil_ne_nil, Nat.zero_add, gT_load1, gT_loadn, gT_faddr, gT_nilck, gT_bin1, gT_bin2, gT_un, gT_len, gT_conv, gT_iaddr1, gT_iaddr2, gT_ext, gT_field, gT_pick1, gT_pick2, guardT_mvg, Bool.not_true, Bool.not_false, Bool.true_and, Bool.false_and, Bool.and_true, Bool.and_false, Bool.true_or, Bool.false_or, Bool.or_true, Bool.or_false, Bool.not_not, decide_true, decide_false, pick_orn]
    have good_dig : ∀ {p o m g : Nat}, Good [k0, k1, k2, k3] val false p o m g → k0 = 111 ∧ 48 ≤ k1 ∧ k1 ≤ 57 ∧ 48 ≤ k2 ∧ k2 ≤ 57 ∧ 48 ≤ k3 ∧ k3 ≤ 57 ∧ p = ((k1 - 48) * 10 + (k2 - 48)) * 10 + (k3 - 48) := by
      rintro p o m g ⟨a1, a2, a3, a4, a5, a6, a7⟩
      simp only [keyS, List.cons.injEq, and_true] at a5
      omega
    refine l_offsets_Parse_1_of (fun m x1 x2 x4 x24 x25 x26 s => ∃ n, m = 3 - n ∧ n ≤ 3 ∧ x1 = .ptr σ.next 0 ∧ x2 = .ptr (σ.next + 1) 0 ∧ x4 = .ptr (σ.next + 2) 0 ∧ x24 = .sl 1 .none 3 (byteCells [k1, k2, k3]) ∧ x25 = .int .i64 3 ∧ x26 = .int .i64 (n : Nat) ∧
      s.get σ.next = some (.cells [.str [k0, k1, k2, k3], .str val, .bool false, .int .i64 t]) ∧ s.get (σ.next + 1) = some (.cells [.int .i64 0, .int .i64 0, .int .i64 0, .int .i64 0]) ∧
      s.get (σ.next + 2) = some (.cells [.int .i64 (dv (([k1, k2, k3] : List Nat).take n) 0 : Nat), .int .i64 0, .int .i64 0, .int .i64 0]) ∧ σ.next + 3 ≤ s.next ∧ Kept σ.next σ s ∧ ∀ d ∈ ([k1, k2, k3] : List Nat).take n, 48 ≤ d ∧ d ≤ 57) 3
      ⟨0, rfl, by omega, rfl, rfl, rfl, rfl, rfl, rfl, p1, p2, p4, by omega, hK7, by simp⟩ ?_
    rintro m x1 x2 x4 x24 x25 x26 s ⟨n, rfl, hn3, rfl, rfl, rfl, rfl, rfl, rfl, q1, q2, q4, qn, qk, qd⟩
    generalize hN : (fun (x1 x2 x4 x24 x25 x26 : AV) (s : St) => ∃ m', m' < 3 - n ∧ ∃ n, m' = 3 - n ∧ n ≤ 3 ∧ x1 = AV.ptr σ.next 0 ∧ x2 = AV.ptr (σ.next + 1) 0 ∧ x4 = AV.ptr (σ.next + 2) 0 ∧ x24 = AV.sl 1 .none 3 (byteCells [k1, k2, k3]) ∧ x25 = AV.int .i64 3 ∧ x26 = AV.int .i64 (n : Nat) ∧
      s.get σ.next = some (.cells [.str [k0, k1, k2, k3], .str val, .bool false, .int .i64 t]) ∧ s.get (σ.next + 1) = some (.cells [.int .i64 0, .int .i64 0, .int .i64 0, .int .i64 0]) ∧
      s.get (σ.next + 2) = some (.cells [.int .i64 (dv (([k1, k2, k3] : List Nat).take n) 0 : Nat), .int .i64 0, .int .i64 0, .int .i64 0]) ∧ σ.next + 3 ≤ s.next ∧ Kept σ.next σ s ∧ ∀ d ∈ ([k1, k2, k3] : List Nat).take n, 48 ≤ d ∧ d ≤ 57) = N1
    have hN1 : ∀ s', n < 3 → s'.get σ.next = some (.cells [.str [k0, k1, k2, k3], .str val, .bool false, .int .i64 t]) → s'.get (σ.next + 1) = some (.cells [.int .i64 0, .int .i64 0, .int .i64 0, .int .i64 0]) →
        s'.get (σ.next + 2) = some (.cells [.int .i64 (dv (([k1, k2, k3] : List Nat).take (n + 1)) 0 : Nat), .int .i64 0, .int .i64 0, .int .i64 0]) → σ.next + 3 ≤ s'.next → Kept σ.next σ s' → (∀ d ∈ ([k1, k2, k3] : List Nat).take (n + 1), 48 ≤ d ∧ d ≤ 57) →
        N1 (.ptr σ.next 0) (.ptr (σ.next + 1) 0) (.ptr (σ.next + 2) 0) (.sl 1 .none 3 (byteCells [k1, k2, k3])) (.int .i64 3) (.int .i64 ((n : Int) + 1)) s' := by
      intro s' b1 b2 b3 b4 b5 b6 b7
      rw [← hN]
      exact ⟨3 - (n + 1), by omega, n + 1, rfl, by omega, rfl, rfl, rfl, rfl, rfl, rfl, b2, b3, b4, b5, b6, b7⟩
    clear hN
    rw [b_offsets_Parse_1_eq]
    simp only [valW_some, stW_some, csW_some, optW_some, condW_true, condW_false, guardW_t, guardW_f, guardT_mv, guardT_true, guardT_false, gv_true, gv_false, pick_and, pick_or, pick_t, pick_f, nilck_ptr, faddr_ptr, ext_0, ext_1, ext_2, not_bool, cells_agg, newW_eq, mapW_eq, int_lss, int_leq, int_gtr, int_geq, int_eql, int_neq, ptr_eq_nil, ptr_ne_nil, nil_eq_nil, nil_ne_nil, Nat.zero_add, gT_load1, gT_loadn, gT_faddr, gT_nilck, gT_bin1, gT_bin2, gT_un, gT_len, gT_conv, gT_iaddr1, gT_iaddr2, gT_ext, gT_field, gT_pick1, gT_pick2, guardT_mvg, Bool.not_true, Bool.not_false, Bool.true_and, Bool.false_and, Bool.and_true, Bool.and_false, Bool.true_or, Bool.false_or, Bool.or_true, Bool.or_false, Bool.not_not, decide_true, decide_false, pick_orn]
    rw [condW_dec]
    refine ⟨fun hlt => ?_, fun hge => ?_⟩
    · have hlt' : n < ([k1, k2, k3] : List Nat).length := by simp only [List.length_cons, List.length_nil]; omega
      obtain ⟨ad, f1, f2⟩ := ((Flat.sl .none [k1, k2, k3]).bytes s).at hlt'
      have f1' : iaddrV 1 (.sl 1 .none 3 (byteCells [k1, k2, k3])) (.int .i64 (n : Nat)) = some ad := f1
      generalize hd : ([k1, k2, k3] : List Nat)[n] = d at *
      have hmem : d ∈ ([k1, k2, k3] : List Nat) := by rw [← hd]; exact List.getElem_mem _
      have hd256 : d < 256 := by
        simp only [List.mem_cons, List.mem_nil_iff, or_false] at hmem
        omega
      have htake : ([k1, k2, k3] : List Nat).take (n + 1) = ([k1, k2, k3] : List Nat).take n ++ [d] := by
        rw [List.take_succ_eq_append_getElem hlt', hd]
      simp only [f1', f2, valW_some, stW_some, csW_some, optW_some, condW_true, condW_false, guardW_t, guardW_f, guardT_mv, guardT_true, guardT_false, gv_true, gv_false, pick_and, pick_or, pick_t, pick_f, nilck_ptr, faddr_ptr, ext_0, ext_1, ext_2, not_bool, cells_agg, newW_eq, mapW_eq, int_lss, int_leq, int_gtr, int_geq, int_eql, int_neq, ptr_eq_nil, ptr_ne_nil, nil_eq_nil, nil_ne_nil, Nat.zero_add, gT_load1, gT_loadn, gT_faddr, gT_nilck, gT_bin1, gT_bin2, gT_un, gT_len, gT_conv, gT_iaddr1, gT_iaddr2, gT_ext, gT_field, gT_pick1, gT_pick2, guardT_mvg, Bool.not_true, Bool.not_false, Bool.true_and, Bool.false_and, Bool.and_true, Bool.and_false, Bool.true_or, Bool.false_or, Bool.or_true, Bool.or_false, Bool.not_not, decide_true, decide_false, pick_orn]
      rw [condW_bool]
      refine ⟨fun hbad => ?_, fun hgood => ?_⟩
      · simp only [Bool.or_eq_true, decide_eq_true_eq] at hbad
        refine hfail ?_ s _ rfl q2 qk
        rintro ⟨p, o, m, g, hg⟩
        have := good_dig hg
        simp only [List.mem_cons, List.mem_nil_iff, or_false] at hmem
        omega
      · simp only [Bool.or_eq_false_iff, decide_eq_false_iff_not] at hgood
        have hdr : 48 ≤ d ∧ d ≤ 57 := by omega
        have hdv : dv (([k1, k2, k3] : List Nat).take n) 0 ≤ 99 ∨ 2 < n := by
          match n, hn3 with
          | 0, _ => left; simp [dv]
          | 1, _ => left; have := qd k1 (by simp); simp [dv]; omega
          | 2, _ => left; have h1 := qd k1 (by simp); have h2 := qd k2 (by simp); simp [dv]; omega
          | 3, _ => right; omega
        have hdv' : dv (([k1, k2, k3] : List Nat).take n) 0 ≤ 99 := by omega
        have hsn : ∀ (l : List Nat) (a : Nat), dv (l ++ [d]) a = dv l a * 10 + (d - 48) := by
          intro l
          induction l with
          | nil => intro a; rfl
          | cons x r ih => intro a; exact ih _
        have l4 : load1V s (.ptr (σ.next + 2) 0) = some (.int .i64 (dv (([k1, k2, k3] : List Nat).take n) 0 : Nat)) := load1_ptr q4 rfl
        have em : aBin .mul .num (.int .i64 (dv (([k1, k2, k3] : List Nat).take n) 0 : Nat)) (.int .i64 10) = some (.int .i64 ((dv (([k1, k2, k3] : List Nat).take n) 0 * 10 : Nat) : Int)) := by
          rw [i64_mul (by omega) (by omega)]; simp
        have es : aBin .sub .num (.int .u8 (d : Nat)) (.int .u8 48) = some (.int .u8 ((d - 48 : Nat) : Int)) := u8_sub (b := 48) (by omega) hd256
        have ea : aBin .add .num (.int .i64 ((dv (([k1, k2, k3] : List Nat).take n) 0 * 10 : Nat) : Int)) (.int .i64 ((d - 48 : Nat) : Int)) = some (.int .i64 (dv (([k1, k2, k3] : List Nat).take (n + 1)) 0 : Nat)) := by
          rw [htake, hsn]; exact i64_addn (by omega)
        have est : storeS 1 s (.ptr (σ.next + 2) 0) (.int .i64 (dv (([k1, k2, k3] : List Nat).take (n + 1)) 0 : Nat)) = some (s.put (σ.next + 2) (.cells [.int .i64 (dv (([k1, k2, k3] : List Nat).take (n + 1)) 0 : Nat), .int .i64 0, .int .i64 0, .int .i64 0])) := store1_ptr q4 rfl (by simp)
        have ei : aBin .add .num (.int .i64 (n : Nat)) (.int .i64 1) = some (.int .i64 ((n : Int) + 1)) := i64_add (by omega) (by omega)
        simp only [l4, em, es, u8_i64 (by omega : d - 48 < 256), ea, est, ei, valW_some, stW_some, csW_some, optW_some, condW_true, condW_false, guardW_t, guardW_f, guardT_mv, guardT_true, guardT_false, gv_true, gv_false, pick_and, pick_or, pick_t, pick_f, nilck_ptr, faddr_ptr, ext_0, ext_1, ext_2, not_bool, cells_agg, newW_eq, mapW_eq, int_lss, int_leq, int_gtr, int_geq, int_eql, int_neq, ptr_eq_nil, ptr_ne_nil, nil_eq_nil, nil_ne_nil, Nat.zero_add, gT_load1, gT_loadn, gT_faddr, gT_nilck, gT_bin1, gT_bin2, gT_un, gT_len, gT_conv, gT_iaddr1, gT_iaddr2, gT_ext, gT_field, gT_pick1, gT_pick2, guardT_mvg, Bool.not_true, Bool.not_false, Bool.true_and, Bool.false_and, Bool.and_true, Bool.and_false, Bool.true_or, Bool.false_or, Bool.or_true, Bool.or_false, Bool.not_not, decide_true, decide_false, pick_orn]
        refine hN1 _ (by omega) ?_ ?_ (get_put_same _ _ _) (by simpa using qn) (qk.put (by omega) (by omega) _) ?_
        · rw [St.get_put, if_neg (by omega)]; exact q1
        · rw [St.get_put, if_neg (by omega)]; exact q2
        · rw [htake]
          intro x hx
          rcases List.mem_append.1 hx with hx | hx
          · exact qd x hx
          · simp at hx; subst hx; exact hdr
    · obtain rfl : n = 3 := by omega
      have l1 : load1V s (.ptr σ.next 1) = some (.str val) := load1_ptr q1 rfl
      have etb : aConv .toBytes s (.str val) = some (.sl 1 .none val.length (byteCells val)) := rfl
      have d1 := qd k1 (by simp)
      have d2 := qd k2 (by simp)
      have d3 := qd k3 (by simp)
      generalize hpart : dv (([k1, k2, k3] : List Nat).take 3) 0 = part at *
      have hpart' : part = ((k1 - 48) * 10 + (k2 - 48)) * 10 + (k3 - 48) := by rw [← hpart]; simp [dv]
      simp only [l1, etb, valW_some, stW_some, csW_some, optW_some, condW_true, condW_false, guardW_t, guardW_f, guardT_mv, guardT_true, guardT_false, gv_true, gv_false, pick_and, pick_or, pick_t, pick_f, nilck_ptr, faddr_ptr, ext_0, ext_1, ext_2, not_bool, cells_agg, newW_eq, mapW_eq, int_lss, int_leq, int_gtr, int_geq, int_eql, int_neq, ptr_eq_nil, ptr_ne_nil, nil_eq_nil, nil_ne_nil, Nat.zero_add, gT_load1, gT_loadn, gT_faddr, gT_nilck, gT_bin1, gT_bin2, gT_un, gT_len, gT_conv, gT_iaddr1, gT_iaddr2, gT_ext, gT_field, gT_pick1, gT_pick2, guardT_mvg, Bool.not_true, Bool.not_false, Bool.true_and, Bool.false_and, Bool.and_true, Bool.and_false, Bool.true_or, Bool.false_or, Bool.or_true, Bool.or_false, Bool.not_not, decide_true, decide_false, pick_orn]
      refine newReader_ret H (Flat.sl .none val) hl fun lr s12 r1 r2 r3 r4 => ?_
      have a1 := Kept.at r4 (l := σ.next) (by omega) q1
      have a2 := Kept.at r4 (l := σ.next + 1) (by omega) q2
      have a4 := Kept.at r4 (l := σ.next + 2) (by omega) q4
      have ak : Kept σ.next σ s12 := qk.trans (r4.lower (by omega))
      have an := r4.next
      refine reads3 H r3 (by omega) hv (fun o m g s16 ho hm hg hval on => ?_) (fun v1 v2 v3 s16 hno on => ?_)
      · have b1 : s16.get σ.next = some (.cells [.str [k0, k1, k2, k3], .str val, .bool false, .int .i64 t]) := (on.get _ (by omega)).trans a1
        have b2 : s16.get (σ.next + 1) = some (.cells [.int .i64 0, .int .i64 0, .int .i64 0, .int .i64 0]) := (on.get _ (by omega)).trans a2
        have b4 : s16.get (σ.next + 2) = some (.cells [.int .i64 (part : Nat), .int .i64 0, .int .i64 0, .int .i64 0]) := (on.get _ (by omega)).trans a4
        have hk16 : Kept σ.next σ s16 := ⟨by rw [on.next]; exact ak.next, fun l hl => (on.get l (by omega)).trans (ak.low l hl), fun l o' h1 h2 h3 => (on.get l (by omega)).trans (ak.cells l o' h1 h2 h3)⟩
        have hn16 : s16.next = s12.next := on.next
        have d0 : decide ((0 : Int) = 0) = true := rfl
        simp only [d0, valW_some, stW_some, csW_some, optW_some, condW_true, condW_false, guardW_t, guardW_f, guardT_mv, guardT_true, guardT_false, gv_true, gv_false, pick_and, pick_or, pick_t, pick_f, nilck_ptr, faddr_ptr, ext_0, ext_1, ext_2, not_bool, cells_agg, newW_eq, mapW_eq, int_lss, int_leq, int_gtr, int_geq, int_eql, int_neq, ptr_eq_nil, ptr_ne_nil, nil_eq_nil, nil_ne_nil, Nat.zero_add, gT_load1, gT_loadn, gT_faddr, gT_nilck, gT_bin1, gT_bin2, gT_un, gT_len, gT_conv, gT_iaddr1, gT_iaddr2, gT_ext, gT_field, gT_pick1, gT_pick2, guardT_mvg, Bool.not_true, Bool.not_false, Bool.true_and, Bool.false_and, Bool.and_true, Bool.and_false, Bool.true_or, Bool.false_or, Bool.or_true, Bool.or_false, Bool.not_not, decide_true, decide_false, pick_orn]
        rw [condW_bool]
        have same : ∀ {p' o' m' g' : Nat}, Good [k0, k1, k2, k3] val false p' o' m' g' → p' = part ∧ o' = o ∧ m' = m ∧ g' = g := by
          rintro p' o' m' g' hgd
          have hp := good_dig hgd
          obtain ⟨c1, c2, c3, c4, c5, c6, c7⟩ := hgd
          obtain ⟨x1, x2⟩ := uv_cons (by omega) ho (c6.symm.trans hval)
          obtain ⟨y1, y2⟩ := uv_cons (by omega) hm x2
          obtain ⟨z1, _⟩ := uv_cons (o := g') (o' := g) (x := []) (x' := []) (by omega) hg (by simpa using y2)
          exact ⟨by omega, x1, y1, z1⟩
        refine ⟨fun hbig => ?_, fun hsmall => ?_⟩
        · simp only [Bool.or_eq_true, decide_eq_true_eq] at hbig
          refine hfail ?_ s16 _ rfl b2 hk16
          rintro ⟨p', o', m', g', hgd⟩
          obtain ⟨e1, e2, e3, e4⟩ := same hgd
          obtain ⟨c1, c2, c3, c4, c5, c6, c7⟩ := hgd
          omega
        · simp only [Bool.or_eq_false_iff, decide_eq_false_iff_not] at hsmall
          have t1 : storeS 1 s16 (.ptr (σ.next + 2) 1) (.int .i64 (o : Nat)) = some (s16.put (σ.next + 2) (.cells [.int .i64 (part : Nat), .int .i64 (o : Nat), .int .i64 0, .int .i64 0])) := store1_ptr b4 rfl (by simp)
          obtain ⟨s24, hs24⟩ : ∃ x, s16.put (σ.next + 2) (.cells [.int .i64 (part : Nat), .int .i64 (o : Nat), .int .i64 0, .int .i64 0]) = x := ⟨_, rfl⟩
          have x4 : s24.get (σ.next + 2) = some (.cells [.int .i64 (part : Nat), .int .i64 (o : Nat), .int .i64 0, .int .i64 0]) := by rw [← hs24, get_put_same]
          have t2 : storeS 1 s24 (.ptr (σ.next + 2) 2) (.int .i64 (m : Nat)) = some (s24.put (σ.next + 2) (.cells [.int .i64 (part : Nat), .int .i64 (o : Nat), .int .i64 (m : Nat), .int .i64 0])) := store1_ptr x4 rfl (by simp)
          obtain ⟨s25, hs25⟩ : ∃ x, s24.put (σ.next + 2) (.cells [.int .i64 (part : Nat), .int .i64 (o : Nat), .int .i64 (m : Nat), .int .i64 0]) = x := ⟨_, rfl⟩
          have y4 : s25.get (σ.next + 2) = some (.cells [.int .i64 (part : Nat), .int .i64 (o : Nat), .int .i64 (m : Nat), .int .i64 0]) := by rw [← hs25, get_put_same]
          have t3 : storeS 1 s25 (.ptr (σ.next + 2) 3) (.int .i64 (g : Nat)) = some (s25.put (σ.next + 2) (.cells [.int .i64 (part : Nat), .int .i64 (o : Nat), .int .i64 (m : Nat), .int .i64 (g : Nat)])) := store1_ptr y4 rfl (by simp)
          obtain ⟨s26, hs26⟩ : ∃ x, s25.put (σ.next + 2) (.cells [.int .i64 (part : Nat), .int .i64 (o : Nat), .int .i64 (m : Nat), .int .i64 (g : Nat)]) = x := ⟨_, rfl⟩
          have z4 : s26.get (σ.next + 2) = some (.cells [.int .i64 (part : Nat), .int .i64 (o : Nat), .int .i64 (m : Nat), .int .i64 (g : Nat)]) := by rw [← hs26, get_put_same]
          have z1 : s26.get σ.next = some (.cells [.str [k0, k1, k2, k3], .str val, .bool false, .int .i64 t]) := by
            rw [← hs26, St.get_put, if_neg (by omega), ← hs25, St.get_put, if_neg (by omega), ← hs24, St.get_put, if_neg (by omega)]; exact b1
          have z2 : s26.get (σ.next + 1) = some (.cells [.int .i64 0, .int .i64 0, .int .i64 0, .int .i64 0]) := by
            rw [← hs26, St.get_put, if_neg (by omega), ← hs25, St.get_put, if_neg (by omega), ← hs24, St.get_put, if_neg (by omega)]; exact b2
          have hk26 : Kept σ.next σ s26 := by
            rw [← hs26, ← hs25, ← hs24]
            exact ((hk16.put (by omega) (by omega) _).put (by omega) (by omega) _).put (by omega) (by omega) _
          have hn26 : s26.next = s12.next := by rw [← hs26, ← hs25, ← hs24]; exact hn16
          have tl : loadnV s26 4 (.ptr (σ.next + 2) 0) = some (comAV part o m g) := loadn_ptr z4 (by simp)
          simp only [u64_i64 (by omega : o < 9223372036854775808), u64_i64 (by omega : m < 9223372036854775808), u64_i64 (by omega : g < 9223372036854775808), t1, t2, t3, hs24, hs25, hs26, tl, valW_some, stW_some, csW_some, optW_some, condW_true, condW_false, guardW_t, guardW_f, guardT_mv, guardT_true, guardT_false, gv_true, gv_false, pick_and, pick_or, pick_t, pick_f, nilck_ptr, faddr_ptr, ext_0, ext_1, ext_2, not_bool, cells_agg, newW_eq, mapW_eq, int_lss, int_leq, int_gtr, int_geq, int_eql, int_neq, ptr_eq_nil, ptr_ne_nil, nil_eq_nil, nil_ne_nil, Nat.zero_add, gT_load1, gT_loadn, gT_faddr, gT_nilck, gT_bin1, gT_bin2, gT_un, gT_len, gT_conv, gT_iaddr1, gT_iaddr2, gT_ext, gT_field, gT_pick1, gT_pick2, guardT_mvg, Bool.not_true, Bool.not_false, Bool.true_and, Bool.false_and, Bool.and_true, Bool.and_false, Bool.true_or, Bool.false_or, Bool.or_true, Bool.or_false, Bool.not_not, decide_true, decide_false, pick_orn]
          refine may_ret H fun s27 hE27 => ?_
          have w1 := hE27.keep (by omega) z1
          have w2 := hE27.keep (l := σ.next + 1) (by omega) z2
          have w4 := hE27.keep (l := σ.next + 2) (by omega) z4
          have hk27 : Kept σ.next σ s27 := hk26.trans (hE27.kept (by omega))
          have m0 : load1V s27 (.ptr σ.next 0) = some (.str [k0, k1, k2, k3]) := load1_ptr w1 rfl
          have m4 : load1V s27 (.ptr (σ.next + 2) 0) = some (.int .i64 (part : Nat)) := load1_ptr w4 rfl
          have n4 : loadnV s27 4 (.ptr (σ.next + 2) 0) = some (comAV part o m g) := loadn_ptr w4 (by simp)
          cases hmay : mayB (part : Nat) (o : Nat) (m : Nat) (g : Nat) with
          | false =>
            simp only [gcall_tf, gchk_tf, valW_some, stW_some, csW_some, optW_some, condW_true, condW_false, guardW_t, guardW_f, guardT_mv, guardT_true, guardT_false, gv_true, gv_false, pick_and, pick_or, pick_t, pick_f, nilck_ptr, faddr_ptr, ext_0, ext_1, ext_2, not_bool, cells_agg, newW_eq, mapW_eq, int_lss, int_leq, int_gtr, int_geq, int_eql, int_neq, ptr_eq_nil, ptr_ne_nil, nil_eq_nil, nil_ne_nil, Nat.zero_add, gT_load1, gT_loadn, gT_faddr, gT_nilck, gT_bin1, gT_bin2, gT_un, gT_len, gT_conv, gT_iaddr1, gT_iaddr2, gT_ext, gT_field, gT_pick1, gT_pick2, guardT_mvg, Bool.not_true, Bool.not_false, Bool.true_and, Bool.false_and, Bool.and_true, Bool.and_false, Bool.true_or, Bool.false_or, Bool.or_true, Bool.or_false, Bool.not_not, decide_true, decide_false, pick_orn]
            refine ⟨⟨trivial, trivial⟩, ?_⟩
            refine hfail ?_ s27 _ rfl w2 hk27
            rintro ⟨p', o', m', g', hgd⟩
            obtain ⟨e1, e2, e3, e4⟩ := same hgd
            obtain ⟨c1, c2, c3, c4, c5, c6, c7⟩ := hgd
            have : mayB (part : Nat) (o : Nat) (m : Nat) (g : Nat) = true := by rw [mayB_iff]; omega
            rw [hmay] at this; cases this
          | true =>
            rw [mayB_iff] at hmay
            simp only [m0, m4, gcall_ff, gchk_ff, valW_some, stW_some, csW_some, optW_some, condW_true, condW_false, guardW_t, guardW_f, guardT_mv, guardT_true, guardT_false, gv_true, gv_false, pick_and, pick_or, pick_t, pick_f, nilck_ptr, faddr_ptr, ext_0, ext_1, ext_2, not_bool, cells_agg, newW_eq, mapW_eq, int_lss, int_leq, int_gtr, int_geq, int_eql, int_neq, ptr_eq_nil, ptr_ne_nil, nil_eq_nil, nil_ne_nil, Nat.zero_add, gT_load1, gT_loadn, gT_faddr, gT_nilck, gT_bin1, gT_bin2, gT_un, gT_len, gT_conv, gT_iaddr1, gT_iaddr2, gT_ext, gT_field, gT_pick1, gT_pick2, guardT_mvg, Bool.not_true, Bool.not_false, Bool.true_and, Bool.false_and, Bool.and_true, Bool.and_false, Bool.true_or, Bool.false_or, Bool.or_true, Bool.or_false, Bool.not_not, decide_true, decide_false, pick_orn]
            refine key_ret H (by omega) ?_
            simp only [str_neq, gchk_ff, m0, valW_some, stW_some, csW_some, optW_some, condW_true, condW_false, guardW_t, guardW_f, guardT_mv, guardT_true, guardT_false, gv_true, gv_false, pick_and, pick_or, pick_t, pick_f, nilck_ptr, faddr_ptr, ext_0, ext_1, ext_2, not_bool, cells_agg, newW_eq, mapW_eq, int_lss, int_leq, int_gtr, int_geq, int_eql, int_neq, ptr_eq_nil, ptr_ne_nil, nil_eq_nil, nil_ne_nil, Nat.zero_add, gT_load1, gT_loadn, gT_faddr, gT_nilck, gT_bin1, gT_bin2, gT_un, gT_len, gT_conv, gT_iaddr1, gT_iaddr2, gT_ext, gT_field, gT_pick1, gT_pick2, guardT_mvg, Bool.not_true, Bool.not_false, Bool.true_and, Bool.false_and, Bool.and_true, Bool.and_false, Bool.true_or, Bool.false_or, Bool.or_true, Bool.or_false, Bool.not_not, decide_true, decide_false, pick_orn]
            refine ⟨by simp, ?_⟩
            by_cases hke : [k0, k1, k2, k3] = keyS part
            · simp only [decide_eq_true hke, n4, valW_some, stW_some, csW_some, optW_some, condW_true, condW_false, guardW_t, guardW_f, guardT_mv, guardT_true, guardT_false, gv_true, gv_false, pick_and, pick_or, pick_t, pick_f, nilck_ptr, faddr_ptr, ext_0, ext_1, ext_2, not_bool, cells_agg, newW_eq, mapW_eq, int_lss, int_leq, int_gtr, int_geq, int_eql, int_neq, ptr_eq_nil, ptr_ne_nil, nil_eq_nil, nil_ne_nil, Nat.zero_add, gT_load1, gT_loadn, gT_faddr, gT_nilck, gT_bin1, gT_bin2, gT_un, gT_len, gT_conv, gT_iaddr1, gT_iaddr2, gT_ext, gT_field, gT_pick1, gT_pick2, guardT_mvg, Bool.not_true, Bool.not_false, Bool.true_and, Bool.false_and, Bool.and_true, Bool.and_false, Bool.true_or, Bool.false_or, Bool.or_true, Bool.or_false, Bool.not_not, decide_true, decide_false, pick_orn]
              have te : storeS 4 s27 (.ptr (σ.next + 1) 0) (comAV part o m g) = some (s27.put (σ.next + 1) (.cells [.int .i64 (part : Nat), .int .i64 (o : Nat), .int .i64 (m : Nat), .int .i64 (g : Nat)])) :=
                store_ptr (n := 4) (vs := [.int .i64 (part : Nat), .int .i64 (o : Nat), .int .i64 (m : Nat), .int .i64 (g : Nat)]) w2 rfl rfl (by simp)
              have tf : loadnV (s27.put (σ.next + 1) (.cells [.int .i64 (part : Nat), .int .i64 (o : Nat), .int .i64 (m : Nat), .int .i64 (g : Nat)])) 4 (.ptr (σ.next + 1) 0) = some (comAV part o m g) := loadn_ptr (get_put_same _ _ _) (by simp)
              simp only [te, tf, valW_some, stW_some, csW_some, optW_some, condW_true, condW_false, guardW_t, guardW_f, guardT_mv, guardT_true, guardT_false, gv_true, gv_false, pick_and, pick_or, pick_t, pick_f, nilck_ptr, faddr_ptr, ext_0, ext_1, ext_2, not_bool, cells_agg, newW_eq, mapW_eq, int_lss, int_leq, int_gtr, int_geq, int_eql, int_neq, ptr_eq_nil, ptr_ne_nil, nil_eq_nil, nil_ne_nil, Nat.zero_add, gT_load1, gT_loadn, gT_faddr, gT_nilck, gT_bin1, gT_bin2, gT_un, gT_len, gT_conv, gT_iaddr1, gT_iaddr2, gT_ext, gT_field, gT_pick1, gT_pick2, guardT_mvg, Bool.not_true, Bool.not_false, Bool.true_and, Bool.false_and, Bool.and_true, Bool.and_false, Bool.true_or, Bool.false_or, Bool.or_true, Bool.or_false, Bool.not_not, decide_true, decide_false, pick_orn]
              exact h1 part o m g _ ⟨by omega, by omega, by omega, by omega, hke, hval, rfl⟩ (hk27.put (by omega) (by omega) _)
            · simp only [decide_eq_false hke, valW_some, stW_some, csW_some, optW_some, condW_true, condW_false, guardW_t, guardW_f, guardT_mv, guardT_true, guardT_false, gv_true, gv_false, pick_and, pick_or, pick_t, pick_f, nilck_ptr, faddr_ptr, ext_0, ext_1, ext_2, not_bool, cells_agg, newW_eq, mapW_eq, int_lss, int_leq, int_gtr, int_geq, int_eql, int_neq, ptr_eq_nil, ptr_ne_nil, nil_eq_nil, nil_ne_nil, Nat.zero_add, gT_load1, gT_loadn, gT_faddr, gT_nilck, gT_bin1, gT_bin2, gT_un, gT_len, gT_conv, gT_iaddr1, gT_iaddr2, gT_ext, gT_field, gT_pick1, gT_pick2, guardT_mvg, Bool.not_true, Bool.not_false, Bool.true_and, Bool.false_and, Bool.and_true, Bool.and_false, Bool.true_or, Bool.false_or, Bool.or_true, Bool.or_false, Bool.not_not, decide_true, decide_false, pick_orn]
              refine hfail ?_ s27 _ rfl w2 hk27
              rintro ⟨p', o', m', g', hgd⟩
              obtain ⟨e1, e2, e3, e4⟩ := same hgd
              subst e1
              exact hke hgd.2.2.2.2.1
      · have b2 : s16.get (σ.next + 1) = some (.cells [.int .i64 0, .int .i64 0, .int .i64 0, .int .i64 0]) := (on.get _ (by omega)).trans a2
        have hk16 : Kept σ.next σ s16 := ⟨by rw [on.next]; exact ak.next, fun l hl => (on.get l (by omega)).trans (ak.low l hl), fun l o' h1 h2 h3 => (on.get l (by omega)).trans (ak.cells l o' h1 h2 h3)⟩
        have d6 : decide ((6 : Int) = 0) = false := rfl
        simp only [d6, valW_some, stW_some, csW_some, optW_some, condW_true, condW_false, guardW_t, guardW_f, guardT_mv, guardT_true, guardT_false, gv_true, gv_false, pick_and, pick_or, pick_t, pick_f, nilck_ptr, faddr_ptr, ext_0, ext_1, ext_2, not_bool, cells_agg, newW_eq, mapW_eq, int_lss, int_leq, int_gtr, int_geq, int_eql, int_neq, ptr_eq_nil, ptr_ne_nil, nil_eq_nil, nil_ne_nil, Nat.zero_add, gT_load1, gT_loadn, gT_faddr, gT_nilck, gT_bin1, gT_bin2, gT_un, gT_len, gT_conv, gT_iaddr1, gT_iaddr2, gT_ext, gT_field, gT_pick1, gT_pick2, guardT_mvg, Bool.not_true, Bool.not_false, Bool.true_and, Bool.false_and, Bool.and_true, Bool.and_false, Bool.true_or, Bool.false_or, Bool.or_true, Bool.or_false, Bool.not_not, decide_true, decide_false, pick_orn]
        refine hfail ?_ s16 _ rfl b2 hk16
        rintro ⟨p, o, m, g, a1', a2', a3', a4', a5', a6', a7'⟩
        exact hno ⟨o, m, g, by omega, by omega, by omega, a6'⟩
end Go.AM.P

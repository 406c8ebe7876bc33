import Derived.Test.YthbkgikjaiaigaaGreatY4Off
namespace Go.AM.P
set_option linter.all false
open Go.AM
set_option linter.all false
variable {P : Program} {σ : St} {K : AV → St → Prop}

theorem bytesOf_byteCells : ∀ {bs : List Nat}, (∀ c ∈ bs, c < 256) → bytesOf (byteCells bs) = some bs
  | [], _ => rfl
  | c :: r, h => by
    have ih := bytesOf_byteCells (bs := r) fun x hx => h x (by simp [hx])
    have hc := h c (by simp)
    have e : byteCells (c :: r) = .int .u8 (Int.ofNat c) :: byteCells r := rfl
    rw [e]
    simp only [bytesOf]
    rw [if_pos (by simp only [Int.ofNat_eq_natCast]; omega), ih]
    simp

theorem toStr_flat {v : AV} {bs : List Nat} (hv : Flat v bs) (hb : ∀ c ∈ bs, c < 256) (τ : St) : aConv .toStr τ v = some (.str bs) := by
  cases hv with
  | nils => rfl
  | sl own =>
    have e : view 1 τ (.sl 1 own bs.length (byteCells bs)) = some (bs.length, byteCells bs) := by simp [view]
    simp only [aConv, e, bytesOf_byteCells hb]

theorem toBytes_str (s : List Nat) (τ : St) : aConv .toBytes τ (.str s) = some (.sl 1 .none s.length (byteCells s)) := rfl

def keyS (p : Nat) : List Nat := [111, 48 + p / 100, 48 + p / 10 % 10, 48 + p % 10]

theorem i64_quo {a : Nat} {b : Nat} (hb : 0 < b) (ha : a < 9223372036854775808) : aBin .quo .num (.int .i64 (a : Nat)) (.int .i64 (b : Nat)) = some (.int .i64 ((a / b : Nat) : Int)) := by
  have h0 : ((b : Nat) : Int) ≠ 0 := by omega
  have e : aBin .quo .num (.int .i64 (a : Nat)) (.int .i64 (b : Nat)) = some (AV.int .i64 (IntKind.i64.wrap ((a : Int).tdiv b))) := by simp [aBin, kindEq]; omega
  rw [e, Int.tdiv_eq_ediv_of_nonneg (by omega)]
  have hle : a / b ≤ a := Nat.div_le_self _ _
  rw [i64_wrap (by have := Int.ediv_nonneg (a := (a : Int)) (b := (b : Int)) (by omega) (by omega); omega) (by rw [← Int.natCast_ediv]; omega)]
  rfl

theorem i64_rem {a : Nat} {b : Nat} (hb : 0 < b) : aBin .rem .num (.int .i64 (a : Nat)) (.int .i64 (b : Nat)) = some (.int .i64 ((a % b : Nat) : Int)) := by
  have h0 : ((b : Nat) : Int) ≠ 0 := by omega
  have e : aBin .rem .num (.int .i64 (a : Nat)) (.int .i64 (b : Nat)) = some (AV.int .i64 ((a : Int).tmod b)) := by simp [aBin, kindEq]; omega
  rw [e, Int.tmod_eq_emod_of_nonneg (by omega)]
  rfl

theorem i64_addn {a b : Nat} (h : a + b < 9223372036854775808) : aBin .add .num (.int .i64 (a : Nat)) (.int .i64 (b : Nat)) = some (.int .i64 ((a + b : Nat) : Int)) := by
  rw [i64_add (by omega) (by omega)]; rfl

theorem i64_u8 {a : Nat} (h : a < 256) (τ : St) : aConv (.int .u8) τ (.int .i64 (a : Nat)) = some (.int .u8 (a : Nat)) := by
  show some (AV.int .u8 (IntKind.u8.wrap a)) = _
  rw [wrap_u8]; congr 2; omega

theorem bsl_three (a b c : Nat) (σ : St) (K : AV → St → Prop) : bslW false 1 3 [(.int .u8 0)] σ [(0, 1, .int .u8 (a : Nat)), (1, 1, .int .u8 (b : Nat)), (2, 1, .int .u8 (c : Nat))] K = K (.sl 1 .exact [a, b, c].length (byteCells [a, b, c])) σ := rfl

theorem key_ret (H : Has P tab) {p : Nat} (hp : p ≤ 999) (hK : K (.str (keyS p)) σ) : Ret P N.offsets_key [.int .i64 (p : Nat)] σ K := by
  refine r_offsets_key H ?_
  rw [w_offsets_key_eq]
  have e1 : aBin .quo .num (.int .i64 (p : Nat)) (.int .i64 100) = some (.int .i64 ((p / 100 : Nat) : Int)) := i64_quo (b := 100) (by omega) (by omega)
  have e2 : aBin .quo .num (.int .i64 (p : Nat)) (.int .i64 10) = some (.int .i64 ((p / 10 : Nat) : Int)) := i64_quo (b := 10) (by omega) (by omega)
  have e3 : aBin .rem .num (.int .i64 ((p / 10 : Nat) : Int)) (.int .i64 10) = some (.int .i64 ((p / 10 % 10 : Nat) : Int)) := i64_rem (b := 10) (by omega)
  have e4 : aBin .rem .num (.int .i64 (p : Nat)) (.int .i64 10) = some (.int .i64 ((p % 10 : Nat) : Int)) := i64_rem (b := 10) (by omega)
  have a1 : ∀ q : Nat, q < 200 → aBin .add .num (.int .i64 48) (.int .i64 (q : Nat)) = some (.int .i64 ((48 + q : Nat) : Int)) := fun q hq => i64_addn (a := 48) (by omega)
  simp only [e1, e2, e3, e4, a1 _ (by omega : p / 100 < 200), a1 _ (by omega : p / 10 % 10 < 200), a1 _ (by omega : p % 10 < 200), i64_u8 (by omega : 48 + p / 100 < 256), i64_u8 (by omega : 48 + p / 10 % 10 < 256), i64_u8 (by omega : 48 + p % 10 < 256), valW_some, stW_some, csW_some, optW_some, condW_true, condW_false, guardW_t, guardW_f, guardT_mv, guardT_true, guardT_false, gv_true, gv_false, pick_and, pick_or, pick_t, pick_f, nilck_ptr, faddr_ptr, ext_0, ext_1, ext_2, not_bool, cells_agg, newW_eq, mapW_eq, int_lss, int_leq, int_gtr, int_geq, int_eql, int_neq, ptr_eq_nil, ptr_ne_nil, nil_eq_nil, nil_ne_nil, Nat.zero_add, gT_load1, gT_loadn, gT_faddr, gT_nilck, gT_bin1, gT_bin2, gT_un, gT_len, gT_conv, gT_iaddr1, gT_iaddr2, gT_ext, gT_field, gT_pick1, gT_pick2, guardT_mvg, Bool.not_true, Bool.not_false, Bool.true_and, Bool.false_and, Bool.and_true, Bool.and_false, Bool.true_or, Bool.false_or, Bool.or_true, Bool.or_false, Bool.not_not, decide_true, decide_false, pick_orn]
  rw [bsl_three]
  have e5 : aConv .toStr σ (.sl 1 .exact [48 + p / 100, 48 + p / 10 % 10, 48 + p % 10].length (byteCells [48 + p / 100, 48 + p / 10 % 10, 48 + p % 10])) = some (.str [48 + p / 100, 48 + p / 10 % 10, 48 + p % 10]) :=
    toStr_flat (Flat.sl .exact _) (by intro c hc; simp at hc; omega) σ
  rw [e5, valW_some]
  exact hK

/-- May a commit be? -/
def mayB (p o m g : Int) : Bool := decide (p ≥ 0) && decide (p ≤ 255) && decide (o ≥ 0) && decide (o ≤ 1099511627776) && decide (m ≥ 0) && decide (m ≤ 64) && decide (g ≥ 0) && decide (g ≤ 2147483647)

theorem mayB_iff {p o m g : Int} : mayB p o m g = true ↔ 0 ≤ p ∧ p ≤ 255 ∧ 0 ≤ o ∧ o ≤ 1099511627776 ∧ 0 ≤ m ∧ m ≤ 64 ∧ 0 ≤ g ∧ g ≤ 2147483647 := by
  simp only [mayB, Bool.and_eq_true, decide_eq_true_eq]
  omega

theorem may_ret (H : Has P tab) {p o m g : Int} (hK : ∀ σ', Ext σ σ' → K (.bool (mayB p o m g)) σ') : Ret P N.offsets_Commit_may [.agg [.int .i64 p, .int .i64 o, .int .i64 m, .int .i64 g]] σ K := by
  refine r_offsets_Commit_may H ?_
  rw [w_offsets_Commit_may_eq]
  have hg : (σ.new (.cells [.int .i64 p, .int .i64 o, .int .i64 m, .int .i64 g])).get σ.next = some (.cells [.int .i64 p, .int .i64 o, .int .i64 m, .int .i64 g]) := by rw [St.get_new, if_pos rfl]
  have g0 : load1V (σ.new (.cells [.int .i64 p, .int .i64 o, .int .i64 m, .int .i64 g])) (.ptr σ.next 0) = some (.int .i64 p) := load1_ptr hg rfl
  have g1 : load1V (σ.new (.cells [.int .i64 p, .int .i64 o, .int .i64 m, .int .i64 g])) (.ptr σ.next 1) = some (.int .i64 o) := load1_ptr hg rfl
  have g2 : load1V (σ.new (.cells [.int .i64 p, .int .i64 o, .int .i64 m, .int .i64 g])) (.ptr σ.next 2) = some (.int .i64 m) := load1_ptr hg rfl
  have g3 : load1V (σ.new (.cells [.int .i64 p, .int .i64 o, .int .i64 m, .int .i64 g])) (.ptr σ.next 3) = some (.int .i64 g) := load1_ptr hg rfl
  simp only [g0, g1, g2, g3, valW_some, stW_some, csW_some, optW_some, condW_true, condW_false, guardW_t, guardW_f, guardT_mv, guardT_true, guardT_false, gv_true, gv_false, pick_and, pick_or, pick_t, pick_f, nilck_ptr, faddr_ptr, ext_0, ext_1, ext_2, not_bool, cells_agg, newW_eq, mapW_eq, int_lss, int_leq, int_gtr, int_geq, int_eql, int_neq, ptr_eq_nil, ptr_ne_nil, nil_eq_nil, nil_ne_nil, Nat.zero_add, gT_load1, gT_loadn, gT_faddr, gT_nilck, gT_bin1, gT_bin2, gT_un, gT_len, gT_conv, gT_iaddr1, gT_iaddr2, gT_ext, gT_field, gT_pick1, gT_pick2, guardT_mvg, Bool.not_true, Bool.not_false, Bool.true_and, Bool.false_and, Bool.and_true, Bool.and_false, Bool.true_or, Bool.false_or, Bool.or_true, Bool.or_false, Bool.not_not, decide_true, decide_false, pick_orn]
  exact hK _ ((Ext.refl σ).new _)
end Go.AM.P

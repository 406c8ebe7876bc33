import Derived.Test.YthbkgikjaiaigaaGreatY4More
import Derived.Test.YthbkgikjaiaigaaGreatAmGg
namespace Go.AM.P
set_option linter.all false
open Go.AM
variable {P : Program} {σ : St}

/-- A number, seven bits a byte. -/
def uv (n : Nat) : List Nat := if h : n < 128 then [n] else (n % 128 + 128) :: uv (n / 128)
termination_by n
decreasing_by omega

theorem uv_small {n : Nat} (h : n < 128) : uv n = [n] := by rw [uv, dif_pos h]
theorem uv_big {n : Nat} (h : ¬ n < 128) : uv n = (n % 128 + 128) :: uv (n / 128) := by rw [uv, dif_neg h]

theorem uv_lt (n : Nat) : ∀ c ∈ uv n, c < 256 := by
  induction n using Nat.strongRecOn with
  | _ n ih =>
    intro c hc
    by_cases h : n < 128
    · rw [uv_small h] at hc; simp at hc; omega
    · rw [uv_big h] at hc
      rcases List.mem_cons.1 hc with rfl | hc
      · omega
      · exact ih (n / 128) (by omega) c hc

theorem uv_len (k n : Nat) (h : n < 128 ^ (k + 1)) : (uv n).length ≤ k + 1 := by
  induction k generalizing n with
  | zero => rw [uv_small (by simpa using h)]; simp
  | succ k ih =>
    by_cases h1 : n < 128
    · rw [uv_small h1]; simp
    · rw [uv_big h1]
      have : n / 128 < 128 ^ (k + 1) := by
        rw [Nat.div_lt_iff_lt_mul (by omega)]
        rw [Nat.pow_succ 128 (k + 1)] at h; exact h
      have := ih _ this
      simp only [List.length_cons]; omega

theorem uv_len10 {n : Nat} (h : n < 18446744073709551616) : (uv n).length ≤ 10 := uv_len 9 n (by
  have : (128 : Nat) ^ 10 = 1180591620717411303424 := by decide
  omega)

theorem u64_u8 (n : Nat) (σ : St) : aConv (.int .u8) σ (.int .u64 (n : Nat)) = some (.int .u8 ((n % 256 : Nat) : Int)) := by
  show some (AV.int .u8 (IntKind.u8.wrap n)) = _
  rw [wrap_u8]; rfl

theorem or128 {m : Nat} (h : m < 256) : m ||| 128 = m % 128 + 128 := by
  have : ∀ m : Fin 256, m.val ||| 128 = m.val % 128 + 128 := by decide +kernel
  exact this ⟨m, h⟩

theorem u8_or128 {m : Nat} (h : m < 256) : aBin .or .num (.int .u8 (m : Nat)) (.int .u8 128) = some (.int .u8 ((m % 128 + 128 : Nat) : Int)) := by
  show some (AV.int .u8 (IntKind.u8.wrap ((BitVec.ofInt 8 (m : Int) ||| BitVec.ofInt 8 ((128 : Nat) : Int)).toNat))) = _
  rw [ofInt_nat, ofInt_nat, BitVec.toNat_or, BitVec.toNat_ofNat, BitVec.toNat_ofNat, Nat.mod_eq_of_lt (by omega), Nat.mod_eq_of_lt (by omega), or128 h, wrap_u8]
  congr 2
  omega

theorem u64_shr7 (n : Nat) : aBin .shr .num (.int .u64 (n : Nat)) (.int .u64 7) = some (.int .u64 ((n / 128 : Nat) : Int)) := by
  have e : aBin .shr .num (.int .u64 (n : Nat)) (.int .u64 7) = some (AV.int .u64 ((n : Int).fdiv 128)) := by simp [aBin, IntKind.bits]
  rw [e, Int.fdiv_eq_ediv_of_nonneg _ (by omega)]
  congr 2

theorem bsl_one (c : Nat) (σ : St) (K : AV → St → Prop) : bslW false 1 1 [(.int .u8 0)] σ [(0, 1, .int .u8 (c : Nat))] K = K (.sl 1 .exact [c].length (byteCells [c])) σ := rfl

theorem wire_Uint_ret (H : Has P tab) {n : Nat} (hn : n < 18446744073709551616) : Ret P N.wire_Uint [.int .u64 (n : Nat)] σ fun r σ' => Owned σ.next σ' r (uv n) ∧ Kept σ.next σ σ' ∧ σ.next < σ'.next := by
  refine r_wire_Uint H ?_
  rw [w_wire_Uint_eq]
  refine l_wire_Uint_1_of (fun m x0 x3 σ' => ∃ pre, x0 = .int .u64 (m : Nat) ∧ m ≤ n ∧ Owned σ.next σ' x3 pre ∧ pre ++ uv m = uv n ∧ Kept σ.next σ σ') n ⟨[], rfl, Nat.le_refl _, .nil, rfl, Kept.refl _ _⟩ ?_
  rintro m x0 x3 s ⟨pre, rfl, hm, ho, he, hk⟩
  have hlen : pre.length + 1 ≤ 10 := by
    have h1 := congrArg List.length he
    have h2 := uv_len10 hn
    have h3 : 1 ≤ (uv m).length := by
      by_cases h : m < 128
      · rw [uv_small h]; simp
      · rw [uv_big h]; simp
    simp only [List.length_append] at h1
    omega
  rw [b_wire_Uint_1_eq, int_geq, valW_some, condW_dec]
  refine ⟨fun h => ?_, fun h => ?_⟩
  · have h' : ¬ m < 128 := by omega
    rw [u64_u8, valW_some, u8_or128 (by omega), valW_some, bsl_one]
    obtain ⟨v', s', e1, e2, e3⟩ := app_bytes (x := .sl 1 .exact [m % 256 % 128 + 128].length (byteCells [m % 256 % 128 + 128])) ho (Owned.exact (B := 0) (σ := s) _).bytes (by simp; omega) hk.next
    rw [e1, optW_some, u64_shr7, valW_some]
    refine ⟨m / 128, by omega, pre ++ [m % 256 % 128 + 128], rfl, by omega, e2, ?_, hk.trans e3⟩
    rw [← he, uv_big h', List.append_assoc]
    simp
  · have h' : m < 128 := by omega
    rw [u64_u8, valW_some, bsl_one]
    obtain ⟨v', s', e1, e2, e3, e4⟩ := app_bytes' (x := .sl 1 .exact [m % 256].length (byteCells [m % 256])) ho (Owned.exact (B := 0) (σ := s) _).bytes (by simp; omega) hk.next
    rw [e1, optW_some]
    refine ⟨?_, hk.trans e3, e4 (by simp)⟩
    rw [← he, uv_small h']
    rw [Nat.mod_eq_of_lt (by omega)] at e2
    exact e2
end Go.AM.P

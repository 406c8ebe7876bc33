import Derived.Test.YthbkgikjaiaigaaGreatY4Wire
namespace Go.AM.P
set_option linter.all false
open Go.AM
variable {P : Program} {σ : St}

theorem u64_rem128 (n : Nat) : aBin .rem .num (.int .u64 (n : Nat)) (.int .u64 128) = some (.int .u64 ((n % 128 : Nat) : Int)) := by
  have e : aBin .rem .num (.int .u64 (n : Nat)) (.int .u64 128) = some (AV.int .u64 ((n : Int).tmod 128)) := by simp [aBin, kindEq]
  rw [e, Int.tmod_eq_emod_of_nonneg (by omega)]; rfl

theorem u64_quo128 {n : Nat} (hn : n < 18446744073709551616) : aBin .quo .num (.int .u64 (n : Nat)) (.int .u64 128) = some (.int .u64 ((n / 128 : Nat) : Int)) := by
  have e : aBin .quo .num (.int .u64 (n : Nat)) (.int .u64 128) = some (AV.int .u64 (IntKind.u64.wrap ((n : Int).tdiv 128))) := by simp [aBin, kindEq]
  rw [e, Int.tdiv_eq_ediv_of_nonneg (by omega), wrap_u64]
  congr 2
  omega

theorem u64_add {a b : Nat} (h : a + b < 18446744073709551616) : aBin .add .num (.int .u64 (a : Nat)) (.int .u64 (b : Nat)) = some (.int .u64 ((a + b : Nat) : Int)) := by
  show some (AV.int .u64 (IntKind.u64.wrap ((a : Int) + b))) = _
  rw [wrap_u64]
  congr 2
  omega

theorem ref_Uint_ret (H : Has P tab) : ∀ (n : Nat) (σ : St), n < 18446744073709551616 → Ret P N.towpathref01_Uint [.int .u64 (n : Nat)] σ fun r σ' => Owned σ.next σ' r (uv n) ∧ Kept σ.next σ σ' := by
  intro n
  induction n using Nat.strongRecOn with
  | _ n ih =>
    intro σ hn
    refine r_towpathref01_Uint H ?_
    rw [w_towpathref01_Uint_eq, int_lss, valW_some, condW_dec]
    refine ⟨fun h => ?_, fun h => ?_⟩
    · have h' : n < 128 := by omega
      rw [u64_u8, valW_some, bsl_one, uv_small h', Nat.mod_eq_of_lt (by omega)]
      exact ⟨.exact _, Kept.refl _ _⟩
    · have h' : ¬ n < 128 := by omega
      have e1 : aBin .add .num (.int .u64 ((n % 128 : Nat) : Int)) (.int .u64 128) = some (.int .u64 ((n % 128 + 128 : Nat) : Int)) := u64_add (b := 128) (by omega)
      rw [u64_rem128, valW_some, e1, valW_some, u64_u8, valW_some, bsl_one, u64_quo128 hn, valW_some]
      refine (ih (n / 128) (by omega) σ (by omega)).mono ?_
      rintro r σ' ⟨h1, h2⟩
      have hl : (uv (n / 128)).length ≤ 10 := uv_len10 (by omega)
      obtain ⟨v', s', e3, e4, e5⟩ := app_bytes (B := σ.next) (x := r) (Owned.exact (σ := σ') [(n % 128 + 128) % 256]) h1.bytes (by simp; omega) h2.next
      rw [e3, optW_some]
      refine ⟨?_, h2.trans e5⟩
      rw [uv_big h']
      rw [Nat.mod_eq_of_lt (by omega)] at e4
      exact e4

/-- Slices of bytes that lie in no object. -/
def PartsF (v : AV) (ps : List (List Nat)) : Prop := ∀ τ, PartsV τ v ps

def lens : List (List Nat) → Nat
  | [] => 0
  | p :: r => p.length + lens r

theorem lens_flatten : ∀ ps : List (List Nat), ps.flatten.length = lens ps
  | [] => rfl
  | p :: r => by simp [lens, lens_flatten r]

theorem lens_drop {ps : List (List Nat)} {n : Nat} (h : n < ps.length) : lens (ps.drop n) = ps[n].length + lens (ps.drop (n + 1)) := by
  rw [List.drop_eq_getElem_cons h]; rfl

theorem lens_le_drop (ps : List (List Nat)) (n : Nat) : lens (ps.drop n) ≤ lens ps := by
  induction ps generalizing n with
  | nil => simp
  | cons p r ih =>
    cases n with
    | zero => simp
    | succ n => simp only [List.drop_succ_cons, lens]; have := ih n; omega

theorem PartsV.at {v : AV} {ps : List (List Nat)} (h : PartsV σ v ps) {n : Nat} (hn : n < ps.length) : ∃ a x, iaddrV 1 v (.int .i64 n) = some a ∧ load1V σ a = some x ∧ BytesV σ x ps[n] := by
  obtain ⟨cs, h1, h2, h3⟩ := h
  obtain ⟨x, hx⟩ : ∃ x, cs[n]? = some x := ⟨cs[n], by simp [h2, hn]⟩
  obtain ⟨a, e1, e2⟩ := view_at1 h1 h2 hx
  exact ⟨a, x, e1, e2, h3 n x ps[n] hx (by simp [hn])⟩
theorem PartsV.len {v : AV} {ps : List (List Nat)} (h : PartsV σ v ps) : lenV .slice σ v = some (.int .i64 (ps.length : Nat)) := by
  obtain ⟨cs, h1, h2, h3⟩ := h
  exact view_len h1

theorem wire_Join_ret (H : Has P tab) {v : AV} {ps : List (List Nat)} (hv : PartsF v ps) (hl : lens ps ≤ 1099511627776) (hp : ps.length < 9223372036854775807) : Ret P N.wire_Join [v] σ fun r σ' => Owned σ.next σ' r ps.flatten ∧ Kept σ.next σ σ' := by
  refine r_wire_Join H ?_
  rw [w_wire_Join_eq, (hv σ).len, valW_some]
  refine l_wire_Join_1_of (fun m x0 x3 x9 x10 x11 s => ∃ n, m = ps.length - n ∧ n ≤ ps.length ∧ x0 = v ∧ x9 = v ∧ x10 = .int .i64 (ps.length : Nat) ∧ x11 = .int .i64 (n : Nat) ∧ s = σ ∧ ∃ k : Nat, x3 = .int .i64 (k : Nat) ∧ k + lens (ps.drop n) = lens ps) ps.length ⟨0, rfl, by omega, rfl, rfl, rfl, rfl, rfl, 0, rfl, by simp⟩ ?_
  rintro m x0 x3 x9 x10 x11 s ⟨n, rfl, hn, rfl, rfl, rfl, rfl, rfl, k, rfl, hk⟩
  rw [b_wire_Join_1_eq, int_lss, valW_some, condW_dec]
  refine ⟨fun h => ?_, fun h => ?_⟩
  · have h' : n < ps.length := by omega
    obtain ⟨a, x, e1, e2, e3⟩ := (hv s).at h'
    have hd := lens_drop h'
    have hle := lens_le_drop ps n
    rw [e1, valW_some, e2, valW_some, e3.len, valW_some, i64_add (by omega) (by omega), valW_some, i64_add (by omega) (by omega), valW_some]
    exact ⟨ps.length - (n + 1), by omega, n + 1, rfl, by omega, rfl, rfl, rfl, rfl, rfl, k + ps[n].length, rfl, by omega⟩
  · obtain rfl : n = ps.length := by omega
    rw [List.drop_length] at hk
    have hk' : k = lens ps := hk
    subst hk'
    have e0 : mkslS 1 1 [(.int .u8 0)] s (.int .i64 0) (.int .i64 (lens ps : Nat)) = some (.sl 1 (.fam s.next ([] : List Nat).length) ([] : List Nat).length (byteCells []), s.new (.fam 0)) := by
      have e1 : asNat (.int .i64 (lens ps : Nat)) = some (lens ps) := by simp [asNat]
      have e2 : asNat (.int .i64 0) = some 0 := rfl
      simp only [mkslS, e1, e2]
      rw [if_pos ⟨by omega, by simpa [room] using hl⟩]
      rfl
    rw [e0, optW_some, (hv _).len, valW_some]
    refine l_wire_Join_2_of (fun m x6 x22 x23 x24 s' => ∃ n, m = ps.length - n ∧ n ≤ ps.length ∧ x22 = x9 ∧ x23 = .int .i64 (ps.length : Nat) ∧ x24 = .int .i64 (n : Nat) ∧ Kept s.next s s' ∧ ∃ pre, Owned s.next s' x6 pre ∧ pre ++ (ps.drop n).flatten = ps.flatten) ps.length
      ⟨0, rfl, by omega, rfl, rfl, rfl, ⟨by simp, fun l hl => by rw [St.get_new, if_neg (by omega)], fun l o hg _ hl => by rw [St.get_new, if_neg (by omega)]; exact hg⟩, [], .fam s.next [] (Nat.le_refl _) (by simp) (by rw [St.get_new, if_pos rfl]; rfl), by simp⟩ ?_
    rintro m x6 x22 x23 x24 s' ⟨n, rfl, hn, rfl, rfl, rfl, hkp, pre, ho, he⟩
    rw [b_wire_Join_2_eq, int_lss, valW_some, condW_dec]
    have hpl : pre.length + lens (ps.drop n) = lens ps := by
      have := congrArg List.length he
      rw [List.length_append, lens_flatten, lens_flatten] at this
      exact this
    refine ⟨fun h => ?_, fun h => ?_⟩
    · have h' : n < ps.length := by omega
      obtain ⟨a, x, e1, e2, e3⟩ := (hv s').at h'
      have hd := lens_drop h'
      obtain ⟨v', t, e4, e5, e6⟩ := app_bytes ho e3 (by omega) hkp.next
      rw [e1, valW_some, e2, valW_some, e4, optW_some, i64_add (by omega) (by omega), valW_some]
      refine ⟨ps.length - (n + 1), by omega, n + 1, rfl, by omega, rfl, rfl, rfl, hkp.trans e6, pre ++ ps[n], e5, ?_⟩
      rw [← he, List.drop_eq_getElem_cons h', List.append_assoc]; rfl
    · obtain rfl : n = ps.length := by omega
      rw [List.drop_length] at he
      simp only [List.flatten_nil, List.append_nil] at he
      subst he
      exact ⟨ho, hkp⟩
end Go.AM.P

import Derived.Test.YthbkgikjaiaigaaGreatY4S0
import Derived.Test.YthbkgikjaiaigaaGreatAmGg
namespace Go.AM.P
set_option linter.all false
open Go.AM

/-- One bit of the sum. -/
def crcBit (s : Nat) : Nat := bif (s % 2).beq 1 then (s / 2) ^^^ 3988292384 else s / 2
def crcByte (s c : Nat) : Nat := crcBit (crcBit (crcBit (crcBit (crcBit (crcBit (crcBit (crcBit (s ^^^ c))))))))
def crcBytes : Nat → List Nat → Nat
  | s, [] => s
  | s, c :: r => crcBytes (crcByte s c) r
def crcParts : Nat → List (List Nat) → Nat
  | s, [] => s
  | s, p :: r => crcParts (crcBytes s p) r
def more (s : Nat) (ps : List (List Nat)) : Nat := 4294967295 ^^^ crcParts (4294967295 ^^^ s) ps

theorem crcBit_lt {s : Nat} (h : s < 4294967296) : crcBit s < 4294967296 := by
  unfold crcBit
  cases (s % 2).beq 1
  · simp only [cond_false]; omega
  · simp only [cond_true]
    exact Nat.xor_lt_two_pow (n := 32) (by omega) (by omega)

theorem crcByte_lt {s c : Nat} (h : s < 4294967296) (hc : c < 256) : crcByte s c < 4294967296 := by
  have h1 : s ^^^ c < 4294967296 := Nat.xor_lt_two_pow (n := 32) (by omega) (by omega)
  exact crcBit_lt (crcBit_lt (crcBit_lt (crcBit_lt (crcBit_lt (crcBit_lt (crcBit_lt (crcBit_lt h1)))))))

def iter (f : Nat → Nat) : Nat → Nat → Nat
  | 0, s => s
  | n + 1, s => iter f n (f s)

theorem bit_step (x28 : Nat) {s : Nat} (hs : s < 4294967296) {P : Program} {K : AV → St → Prop} {N1 : AV → AV → AV → AV → St → Prop} {N2 : AV → AV → AV → AV → AV → AV → AV → St → Prop} {N3 : AV → AV → AV → AV → AV → AV → AV → AV → St → Prop} {x12 x13 x14 x18 x19 x20 : AV} {σ : St} (h28 : x28 < 8)
    (h : N3 (.int .u32 (crcBit s : Nat)) x12 x13 x14 x18 x19 x20 (.int .i64 (x28 + 1 : Nat)) σ) : b_frame_More_3 P K N1 N2 N3 (.int .u32 (s : Nat)) x12 x13 x14 x18 x19 x20 (.int .i64 (x28 : Nat)) σ := by
  rw [b_frame_More_3_eq]
  rw [int_lss, valW_some, decide_eq_true (by omega), condW_true, u32_shr1 hs, valW_some]
  have e1 : aBin .and .num (.int .u32 (s : Nat)) (.int .u32 1) = some (.int .u32 ((s % 2 : Nat) : Int)) := by
    have := u32_and (a := s) (b := 1) hs (by omega)
    rw [Nat.and_one_is_mod] at this
    exact this
  rw [e1, valW_some]
  have e28 : aBin .add .num (.int .i64 (x28 : Nat)) (.int .i64 1) = some (.int .i64 (x28 + 1 : Nat)) := by
    rw [i64_add (by omega) (by omega)]; rfl
  have hb : s / 2 < 4294967296 := by omega
  unfold crcBit at h
  rcases Nat.mod_two_eq_zero_or_one s with h0 | h0
  · rw [h0] at h ⊢
    rw [u32_neg0, valW_some]
    have e2 := u32_and (a := 3988292384) (b := 0) (by omega) (by omega)
    rw [Nat.and_zero] at e2
    have e2' : aBin .and .num (.int .u32 3988292384) (.int .u32 ((0 : Nat) : Int)) = some (.int .u32 ((0 : Nat) : Int)) := e2
    rw [e2', valW_some, u32_xor hb (by omega), valW_some, Nat.xor_zero, e28, valW_some]
    exact h
  · rw [h0] at h ⊢
    rw [u32_neg1, valW_some]
    have e2 := u32_and (a := 3988292384) (b := 4294967295) (by omega) (by omega)
    rw [show (3988292384 : Nat) &&& 4294967295 = 3988292384 by decide] at e2
    have e2' : aBin .and .num (.int .u32 3988292384) (.int .u32 ((4294967295 : Nat) : Int)) = some (.int .u32 ((3988292384 : Nat) : Int)) := e2
    rw [e2', valW_some, u32_xor hb (by omega), valW_some, e28, valW_some]
    exact h

theorem iter_eight (s : Nat) : iter crcBit 8 s = crcBit (crcBit (crcBit (crcBit (crcBit (crcBit (crcBit (crcBit s))))))) := rfl

variable {P : Program} {K : AV → St → Prop} {σ : St}

theorem bits_loop {N1 : AV → AV → AV → AV → St → Prop} {N2 : AV → AV → AV → AV → AV → AV → AV → St → Prop} {x12 x13 x14 x18 x19 : AV} {s j : Nat} (hs : s < 4294967296) (hj : j < 9223372036854775807)
    (h : N2 (.int .u32 (iter crcBit 8 s : Nat)) x12 x13 x14 x18 x19 (.int .i64 (j + 1 : Nat)) σ) : l_frame_More_3 P K N1 N2 (.int .u32 (s : Nat)) x12 x13 x14 x18 x19 (.int .i64 (j : Nat)) (.int .i64 0) σ := by
  refine l_frame_More_3_of (fun m a5 a12 a13 a14 a18 a19 a20 a28 σ' => ∃ (t n : Nat), a5 = .int .u32 (t : Nat) ∧ t < 4294967296 ∧ n ≤ 8 ∧ a28 = .int .i64 (n : Nat) ∧ m = 8 - n ∧ iter crcBit (8 - n) t = iter crcBit 8 s ∧
    a12 = x12 ∧ a13 = x13 ∧ a14 = x14 ∧ a18 = x18 ∧ a19 = x19 ∧ a20 = .int .i64 (j : Nat) ∧ σ' = σ) 8 ⟨s, 0, rfl, hs, by omega, rfl, rfl, rfl, rfl, rfl, rfl, rfl, rfl, rfl, rfl⟩ ?_
  rintro m a5 a12 a13 a14 a18 a19 a20 a28 σ' ⟨t, n, rfl, ht, hn, rfl, rfl, hi, rfl, rfl, rfl, rfl, rfl, rfl, rfl⟩
  by_cases h8 : n < 8
  · refine bit_step n ht h8 ⟨8 - (n + 1), by omega, _, n + 1, rfl, crcBit_lt ht, by omega, rfl, rfl, ?_, rfl, rfl, rfl, rfl, rfl, rfl, rfl⟩
    rw [← hi, show 8 - n = (8 - (n + 1)) + 1 by omega]; rfl
  · obtain rfl : n = 8 := by omega
    rw [b_frame_More_3_eq, int_lss, valW_some, decide_eq_false (by omega), condW_false, i64_add (by omega) (by omega), valW_some]
    have e : iter crcBit (8 - 8) t = t := rfl
    rw [e] at hi
    rw [hi]
    exact h

theorem u8_u32 {c : Nat} (hc : c < 256) (σ : St) : aConv (.int .u32) σ (.int .u8 (c : Nat)) = some (.int .u32 (c : Nat)) := by
  show some (AV.int .u32 (IntKind.u32.wrap c)) = _
  rw [wrap_u32]
  congr 2
  omega

theorem bytes_loop {N1 : AV → AV → AV → AV → St → Prop} {x12 x13 v : AV} {bs : List Nat} {s j : Nat} (hs : s < 4294967296) (hv : BytesV σ v bs) (hb : ∀ c ∈ bs, c < 256) (hl : bs.length < 9223372036854775807) (hj : j < 9223372036854775807)
    (h : N1 (.int .u32 (crcBytes s bs : Nat)) x12 x13 (.int .i64 (j + 1 : Nat)) σ) : l_frame_More_2 P K N1 (.int .u32 (s : Nat)) x12 x13 (.int .i64 (j : Nat)) v (.int .i64 (bs.length : Nat)) (.int .i64 0) σ := by
  refine l_frame_More_2_of (fun m a5 a12 a13 a14 a18 a19 a20 σ' => ∃ (t n : Nat), a5 = .int .u32 (t : Nat) ∧ t < 4294967296 ∧ n ≤ bs.length ∧ a20 = .int .i64 (n : Nat) ∧ m = bs.length - n ∧ crcBytes t (bs.drop n) = crcBytes s bs ∧
    a12 = x12 ∧ a13 = x13 ∧ a14 = .int .i64 (j : Nat) ∧ a18 = v ∧ a19 = .int .i64 (bs.length : Nat) ∧ σ' = σ) bs.length ⟨s, 0, rfl, hs, by omega, rfl, rfl, rfl, rfl, rfl, rfl, rfl, rfl, rfl⟩ ?_
  rintro m a5 a12 a13 a14 a18 a19 a20 σ' ⟨t, n, rfl, ht, hn, rfl, rfl, hi, rfl, rfl, rfl, rfl, rfl, rfl⟩
  rw [b_frame_More_2_eq, int_lss, valW_some]
  by_cases hlt : n < bs.length
  · obtain ⟨a, e1, e2⟩ := hv.at hlt
    have hc : bs[n] < 256 := hb _ (List.getElem_mem _)
    rw [decide_eq_true (by omega), condW_true, e1, valW_some, e2, valW_some, u8_u32 hc, valW_some, u32_xor ht (by omega), valW_some]
    have hx : t ^^^ bs[n] < 4294967296 := Nat.xor_lt_two_pow (n := 32) (by omega) (by omega)
    refine bits_loop hx (by omega) ⟨bs.length - (n + 1), by omega, _, n + 1, rfl, crcByte_lt ht hc, by omega, rfl, rfl, ?_, rfl, rfl, rfl, rfl, rfl, rfl⟩
    rw [← hi, List.drop_eq_getElem_cons hlt]; rfl
  · obtain rfl : n = bs.length := by omega
    rw [decide_eq_false (by omega), condW_false, i64_add (by omega) (by omega), valW_some]
    rw [List.drop_length] at hi
    have hi' : t = crcBytes s bs := hi
    rw [hi']
    exact h

theorem crcBytes_lt : ∀ {bs : List Nat} {s : Nat}, s < 4294967296 → (∀ c ∈ bs, c < 256) → crcBytes s bs < 4294967296
  | [], _, h, _ => h
  | c :: r, _, h, hb => crcBytes_lt (bs := r) (crcByte_lt h (hb c (by simp))) (fun x hx => hb x (by simp [hx]))
theorem crcParts_lt : ∀ {ps : List (List Nat)} {s : Nat}, s < 4294967296 → (∀ p ∈ ps, ∀ c ∈ p, c < 256) → crcParts s ps < 4294967296
  | [], _, h, _ => h
  | p :: r, _, h, hb => crcParts_lt (ps := r) (crcBytes_lt h (hb p (by simp))) (fun x hx => hb x (by simp [hx]))

/-- Slices of bytes, each of them. -/
def PartsV (σ : St) (v : AV) (ps : List (List Nat)) : Prop := ∃ cs, slView 1 σ v = some (ps.length, cs) ∧ cs.length = ps.length ∧ ∀ (i : Nat) (x : AV) (p : List Nat), cs[i]? = some x → ps[i]? = some p → BytesV σ x p

theorem more_ret (H : Has P tab) {s : Nat} (hs : s < 4294967296) {v : AV} {ps : List (List Nat)} (hv : PartsV σ v ps) (hb : ∀ p ∈ ps, ∀ c ∈ p, c < 256)
    (hl : ps.length < 9223372036854775807) (hl' : ∀ p ∈ ps, p.length < 9223372036854775807) : Ret P N.frame_More [.int .u32 (s : Nat), v] σ fun r σ' => r = .int .u32 (more s ps : Nat) ∧ σ' = σ := by
  refine r_frame_More H ?_
  obtain ⟨cs, hv1, hv2, hv3⟩ := hv
  have hx : 4294967295 ^^^ s < 4294967296 := Nat.xor_lt_two_pow (n := 32) (by omega) (by omega)
  rw [w_frame_More_eq, u32_not hs, valW_some, view_len hv1, valW_some]
  refine l_frame_More_1_of (fun m a5 a12 a13 a14 σ' => ∃ (t n : Nat), a5 = .int .u32 (t : Nat) ∧ t < 4294967296 ∧ n ≤ ps.length ∧ a14 = .int .i64 (n : Nat) ∧ m = ps.length - n ∧ crcParts t (ps.drop n) = crcParts (4294967295 ^^^ s) ps ∧
    a12 = v ∧ a13 = .int .i64 (ps.length : Nat) ∧ σ' = σ) ps.length ⟨_, 0, rfl, hx, by omega, rfl, rfl, rfl, rfl, rfl, rfl⟩ ?_
  rintro m a5 a12 a13 a14 σ' ⟨t, n, rfl, ht, hn, rfl, rfl, hi, rfl, rfl, rfl⟩
  rw [b_frame_More_1_eq, int_lss, valW_some]
  by_cases hlt : n < ps.length
  · obtain ⟨x, hxn⟩ : ∃ x, cs[n]? = some x := ⟨cs[n], by simp [hv2, hlt]⟩
    obtain ⟨a, e1, e2⟩ := view_at1 hv1 hv2 hxn
    have hm : ps[n] ∈ ps := List.getElem_mem _
    have hp := hv3 n x ps[n] hxn (by simp [hlt])
    rw [decide_eq_true (by omega), condW_true, e1, valW_some, e2, valW_some, hp.len, valW_some]
    refine bytes_loop ht hp (hb _ hm) (hl' _ hm) (by omega) ⟨ps.length - (n + 1), by omega, _, n + 1, rfl, crcBytes_lt ht (hb _ hm), by omega, rfl, rfl, ?_, rfl, rfl, rfl⟩
    rw [← hi, List.drop_eq_getElem_cons hlt]; rfl
  · obtain rfl : n = ps.length := by omega
    rw [decide_eq_false (by omega), condW_false, u32_not ht, valW_some]
    rw [List.drop_length] at hi
    have hi' : t = crcParts (4294967295 ^^^ s) ps := hi
    rw [hi']
    exact ⟨rfl, rfl⟩

/-- The bytes of each part. -/
def partsOf (σ : St) : List AV → Option (List (List Nat))
  | [] => some []
  | v :: r => match slView 1 σ v, partsOf σ r with
    | some (n, cs), some ps => match bytesOf cs with
      | some bs => if bs.length = n then some (bs :: ps) else .none
      | .none => .none
    | _, _ => .none

theorem bytesOf_cells : ∀ {cs : List AV} {bs : List Nat}, bytesOf cs = some bs → cs = byteCells bs ∧ ∀ c ∈ bs, c < 256
  | [], bs, h => by cases h; exact ⟨rfl, fun c hc => by simp at hc⟩
  | v :: r, bs, h => by
    unfold bytesOf at h
    split at h
    · rename_i heq; cases heq
    · rename_i n r' heq
      cases heq
      split at h
      · rename_i hn
        split at h
        · rename_i l hl
          cases h
          obtain ⟨h1, h2⟩ := bytesOf_cells hl
          have e : ((n.toNat : Nat) : Int) = n := by omega
          refine ⟨by rw [h1]; simp [byteCells, e], fun c hc => ?_⟩
          rcases List.mem_cons.1 hc with rfl | hc
          · omega
          · exact h2 c hc
        · cases h
      · cases h
    · cases h

theorem partsOf_inv : ∀ {vs : List AV} {ps : List (List Nat)}, partsOf σ vs = some ps → vs.length = ps.length ∧ (∀ (i : Nat) (x : AV) (p : List Nat), vs[i]? = some x → ps[i]? = some p → BytesV σ x p) ∧ ∀ p ∈ ps, ∀ c ∈ p, c < 256
  | [], ps, h => by cases h; exact ⟨rfl, fun i x p h => by simp at h, fun p hp => by simp at hp⟩
  | v :: r, ps, h => by
    simp only [partsOf] at h
    split at h
    · rename_i n cs ps' h1 h2
      split at h
      · rename_i bs hb
        split at h
        · rename_i hn
          cases h
          obtain ⟨g1, g2, g3⟩ := partsOf_inv h2
          obtain ⟨e1, e2⟩ := bytesOf_cells hb
          refine ⟨by simp [g1], fun i x p hx hp => ?_, fun p hp => ?_⟩
          · cases i with
            | zero =>
              simp at hx hp
              subst hx hp
              unfold BytesV
              rw [h1, hn, e1]
            | succ i => exact g2 i x p (by simpa using hx) (by simpa using hp)
          · rcases List.mem_cons.1 hp with rfl | hp
            · exact e2
            · exact g3 p hp
        · cases h
      · cases h
    · cases h

def shortL : List (List Nat) → Bool
  | [] => true
  | p :: r => Nat.blt p.length 9223372036854775807 && shortL r

theorem shortL_inv : ∀ {ps : List (List Nat)}, shortL ps = true → ∀ p ∈ ps, p.length < 9223372036854775807
  | [], _, p, hp => by simp at hp
  | q :: r, h, p, hp => by
    simp only [shortL, Bool.and_eq_true, Nat.blt_eq] at h
    rcases List.mem_cons.1 hp with rfl | hp
    · exact h.1
    · exact shortL_inv h.2 p hp

/-- The sum, as a summary. -/
def moreI : Intr := fun _ args σ => match args with
  | [.int .u32 (.ofNat s), v] => match slView 1 σ v with
    | some (n, cs) => match partsOf σ cs with
      | some ps => if Nat.blt s 4294967296 && (n.beq ps.length && (Nat.blt n 9223372036854775807 && shortL ps)) then some (.int .u32 (.ofNat (more s ps)), σ) else .none
      | .none => .none
    | .none => .none
  | _ => .none

theorem moreI_ok (H : Has P tab) : IntrOk P N.frame_More moreI := by
  intro calls _ args σ r σ' h
  unfold moreI at h
  split at h
  · rename_i s v
    split at h
    · rename_i n cs hv
      split at h
      · rename_i ps hp
        split at h
        · rename_i hc
          simp only [Bool.and_eq_true, Nat.blt_eq, Nat.beq_eq] at hc
          obtain ⟨h1, rfl, h2, h3⟩ := hc
          cases h
          obtain ⟨g1, g2, g3⟩ := partsOf_inv hp
          obtain ⟨r, σ', e, rfl, rfl⟩ := more_ret H h1 ⟨cs, hv, g1, g2⟩ g3 h2 (shortL_inv h3)
          exact e
        · cases h
      · cases h
    · cases h
  · cases h
end Go.AM.P

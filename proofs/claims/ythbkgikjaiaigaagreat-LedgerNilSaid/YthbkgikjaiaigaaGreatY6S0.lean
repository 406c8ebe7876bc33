import Derived.Test.YthbkgikjaiaigaaGreatY6T
namespace Go.AM.P
set_option linter.all false
set_option linter.all false
/- towpathlaw13_short -/
theorem w_towpathlaw13_short_eq {P : Program} {K : AV → St → Prop} {a0 : AV} {σ : St} : fnW P f_towpathlaw13_short [a0] σ K = (
valW (lenV .str σ a0) fun v1 =>
valW (aBin .gtr .num v1 (.int .i64 12)) fun v2 =>
condW v2 (
valW (sslcV a0 .none (some (.int .i64 12))) fun v3 =>
K v3 σ) (
K a0 σ)) := by kernel_rfl
theorem r_towpathlaw13_short {P : Program} (H : Has P tab) {a0 : AV} {σ : St} {K : AV → St → Prop} (h : fnW P f_towpathlaw13_short [a0] σ K) : Ret P N.towpathlaw13_short [a0] σ K := H.ret (n := 33) (F := f_towpathlaw13_short) (by kernel_rfl) (by kernel_rfl) h
/- frame_More -/
def l_frame_More_1 (P : Program) (K : AV → St → Prop) (x5 : AV) (x12 : AV) (x13 : AV) (x14 : AV) (σ : St) : Prop := aw P (.loop (.keep 6 [5, 12, 13, 14] f_frame_More_c16)) (blockP 0 (seqP (aw P f_frame_More_c19) (retW f_frame_More K))) (frL 6 [(5, x5), (12, x12), (13, x13), (14, x14)]) σ
def b_frame_More_1 (P : Program) (K : AV → St → Prop) (N1 : AV → AV → AV → AV → St → Prop) (x5 : AV) (x12 : AV) (x13 : AV) (x14 : AV) (σ : St) : Prop := aw P f_frame_More_c16 (loopP (fun fr σ => N1 (fr.at 5) (fr.at 12) (fr.at 13) (fr.at 14) σ) (blockP 0 (seqP (aw P f_frame_More_c19) (retW f_frame_More K)))) (frL 6 [(5, x5), (12, x12), (13, x13), (14, x14)]) σ
def l_frame_More_2 (P : Program) (K : AV → St → Prop) (N1 : AV → AV → AV → AV → St → Prop) (x5 : AV) (x12 : AV) (x13 : AV) (x14 : AV) (x18 : AV) (x19 : AV) (x20 : AV) (σ : St) : Prop := aw P (.loop (.keep 6 [5, 12, 13, 14, 18, 19, 20] f_frame_More_c10)) (blockP 2 (blockP 1 (seqP (aw P f_frame_More_c13) (loopP (fun fr σ => N1 (fr.at 5) (fr.at 12) (fr.at 13) (fr.at 14) σ) (blockP 0 (seqP (aw P f_frame_More_c19) (retW f_frame_More K))))))) (frL 6 [(5, x5), (12, x12), (13, x13), (14, x14), (18, x18), (19, x19), (20, x20)]) σ
def b_frame_More_2 (P : Program) (K : AV → St → Prop) (N1 : AV → AV → AV → AV → St → Prop) (N2 : AV → AV → AV → AV → AV → AV → AV → St → Prop) (x5 : AV) (x12 : AV) (x13 : AV) (x14 : AV) (x18 : AV) (x19 : AV) (x20 : AV) (σ : St) : Prop := aw P f_frame_More_c10 (loopP (fun fr σ => N2 (fr.at 5) (fr.at 12) (fr.at 13) (fr.at 14) (fr.at 18) (fr.at 19) (fr.at 20) σ) (blockP 2 (blockP 1 (seqP (aw P f_frame_More_c13) (loopP (fun fr σ => N1 (fr.at 5) (fr.at 12) (fr.at 13) (fr.at 14) σ) (blockP 0 (seqP (aw P f_frame_More_c19) (retW f_frame_More K)))))))) (frL 6 [(5, x5), (12, x12), (13, x13), (14, x14), (18, x18), (19, x19), (20, x20)]) σ
def l_frame_More_3 (P : Program) (K : AV → St → Prop) (N1 : AV → AV → AV → AV → St → Prop) (N2 : AV → AV → AV → AV → AV → AV → AV → St → Prop) (x5 : AV) (x12 : AV) (x13 : AV) (x14 : AV) (x18 : AV) (x19 : AV) (x20 : AV) (x28 : AV) (σ : St) : Prop := aw P (.loop (.keep 6 [5, 12, 13, 14, 18, 19, 20, 28] f_frame_More_c3)) (blockP 4 (blockP 3 (seqP (aw P f_frame_More_c7) (loopP (fun fr σ => N2 (fr.at 5) (fr.at 12) (fr.at 13) (fr.at 14) (fr.at 18) (fr.at 19) (fr.at 20) σ) (blockP 2 (blockP 1 (seqP (aw P f_frame_More_c13) (loopP (fun fr σ => N1 (fr.at 5) (fr.at 12) (fr.at 13) (fr.at 14) σ) (blockP 0 (seqP (aw P f_frame_More_c19) (retW f_frame_More K))))))))))) (frL 6 [(5, x5), (12, x12), (13, x13), (14, x14), (18, x18), (19, x19), (20, x20), (28, x28)]) σ
def b_frame_More_3 (P : Program) (K : AV → St → Prop) (N1 : AV → AV → AV → AV → St → Prop) (N2 : AV → AV → AV → AV → AV → AV → AV → St → Prop) (N3 : AV → AV → AV → AV → AV → AV → AV → AV → St → Prop) (x5 : AV) (x12 : AV) (x13 : AV) (x14 : AV) (x18 : AV) (x19 : AV) (x20 : AV) (x28 : AV) (σ : St) : Prop := aw P f_frame_More_c3 (loopP (fun fr σ => N3 (fr.at 5) (fr.at 12) (fr.at 13) (fr.at 14) (fr.at 18) (fr.at 19) (fr.at 20) (fr.at 28) σ) (blockP 4 (blockP 3 (seqP (aw P f_frame_More_c7) (loopP (fun fr σ => N2 (fr.at 5) (fr.at 12) (fr.at 13) (fr.at 14) (fr.at 18) (fr.at 19) (fr.at 20) σ) (blockP 2 (blockP 1 (seqP (aw P f_frame_More_c13) (loopP (fun fr σ => N1 (fr.at 5) (fr.at 12) (fr.at 13) (fr.at 14) σ) (blockP 0 (seqP (aw P f_frame_More_c19) (retW f_frame_More K)))))))))))) (frL 6 [(5, x5), (12, x12), (13, x13), (14, x14), (18, x18), (19, x19), (20, x20), (28, x28)]) σ
theorem b_frame_More_3_eq {P : Program} {K : AV → St → Prop} {N1 : AV → AV → AV → AV → St → Prop} {N2 : AV → AV → AV → AV → AV → AV → AV → St → Prop} {N3 : AV → AV → AV → AV → AV → AV → AV → AV → St → Prop} {x5 : AV} {x12 : AV} {x13 : AV} {x14 : AV} {x18 : AV} {x19 : AV} {x20 : AV} {x28 : AV} {σ : St} : b_frame_More_3 P K N1 N2 N3 x5 x12 x13 x14 x18 x19 x20 x28 σ = (
valW (aBin .lss .num x28 (.int .i64 8)) fun v12 =>
condW v12 (
valW (aBin .shr .num x5 (.int .u64 1)) fun v13 =>
valW (aBin .and .num x5 (.int .u32 1)) fun v14 =>
valW (aUn .neg v14) fun v15 =>
valW (aBin .and .num (.int .u32 3988292384) v15) fun v16 =>
valW (aBin .xor .num v13 v16) fun v17 =>
valW (aBin .add .num x28 (.int .i64 1)) fun v18 =>
N3 v17 x12 x13 x14 x18 x19 x20 v18 σ) (
valW (aBin .add .num x20 (.int .i64 1)) fun v19 =>
N2 x5 x12 x13 x14 x18 x19 v19 σ)) := by kernel_rfl
theorem l_frame_More_3_of {P : Program} {K : AV → St → Prop} {N1 : AV → AV → AV → AV → St → Prop} {N2 : AV → AV → AV → AV → AV → AV → AV → St → Prop} {x5 : AV} {x12 : AV} {x13 : AV} {x14 : AV} {x18 : AV} {x19 : AV} {x20 : AV} {x28 : AV} {σ : St} (I : Nat → AV → AV → AV → AV → AV → AV → AV → AV → St → Prop) (m : Nat) (h0 : I m x5 x12 x13 x14 x18 x19 x20 x28 σ) (hs : ∀ m x5 x12 x13 x14 x18 x19 x20 x28 σ, I m x5 x12 x13 x14 x18 x19 x20 x28 σ → b_frame_More_3 P K N1 N2 (fun x5 x12 x13 x14 x18 x19 x20 x28 σ => ∃ m', m' < m ∧ I m' x5 x12 x13 x14 x18 x19 x20 x28 σ) x5 x12 x13 x14 x18 x19 x20 x28 σ) : l_frame_More_3 P K N1 N2 x5 x12 x13 x14 x18 x19 x20 x28 σ :=
  loop_intro (fun m fr σ => I m (fr.at 5) (fr.at 12) (fr.at 13) (fr.at 14) (fr.at 18) (fr.at 19) (fr.at 20) (fr.at 28) σ) m h0 (fun m fr σ h => hs m (fr.at 5) (fr.at 12) (fr.at 13) (fr.at 14) (fr.at 18) (fr.at 19) (fr.at 20) (fr.at 28) σ h)
theorem b_frame_More_2_eq {P : Program} {K : AV → St → Prop} {N1 : AV → AV → AV → AV → St → Prop} {N2 : AV → AV → AV → AV → AV → AV → AV → St → Prop} {x5 : AV} {x12 : AV} {x13 : AV} {x14 : AV} {x18 : AV} {x19 : AV} {x20 : AV} {σ : St} : b_frame_More_2 P K N1 N2 x5 x12 x13 x14 x18 x19 x20 σ = (
valW (aBin .lss .num x20 x19) fun v7 =>
condW v7 (
valW (iaddrV 1 x18 x20) fun v8 =>
valW (load1V σ v8) fun v9 =>
valW (aConv (.int .u32) σ v9) fun v10 =>
valW (aBin .xor .num x5 v10) fun v11 =>
l_frame_More_3 P K N1 N2 v11 x12 x13 x14 x18 x19 x20 (.int .i64 0) σ) (
valW (aBin .add .num x14 (.int .i64 1)) fun v20 =>
N1 x5 x12 x13 v20 σ)) := by kernel_rfl
theorem l_frame_More_2_of {P : Program} {K : AV → St → Prop} {N1 : AV → AV → AV → AV → St → Prop} {x5 : AV} {x12 : AV} {x13 : AV} {x14 : AV} {x18 : AV} {x19 : AV} {x20 : AV} {σ : St} (I : Nat → AV → AV → AV → AV → AV → AV → AV → St → Prop) (m : Nat) (h0 : I m x5 x12 x13 x14 x18 x19 x20 σ) (hs : ∀ m x5 x12 x13 x14 x18 x19 x20 σ, I m x5 x12 x13 x14 x18 x19 x20 σ → b_frame_More_2 P K N1 (fun x5 x12 x13 x14 x18 x19 x20 σ => ∃ m', m' < m ∧ I m' x5 x12 x13 x14 x18 x19 x20 σ) x5 x12 x13 x14 x18 x19 x20 σ) : l_frame_More_2 P K N1 x5 x12 x13 x14 x18 x19 x20 σ :=
  loop_intro (fun m fr σ => I m (fr.at 5) (fr.at 12) (fr.at 13) (fr.at 14) (fr.at 18) (fr.at 19) (fr.at 20) σ) m h0 (fun m fr σ h => hs m (fr.at 5) (fr.at 12) (fr.at 13) (fr.at 14) (fr.at 18) (fr.at 19) (fr.at 20) σ h)
theorem b_frame_More_1_eq {P : Program} {K : AV → St → Prop} {N1 : AV → AV → AV → AV → St → Prop} {x5 : AV} {x12 : AV} {x13 : AV} {x14 : AV} {σ : St} : b_frame_More_1 P K N1 x5 x12 x13 x14 σ = (
valW (aBin .lss .num x14 x13) fun v3 =>
condW v3 (
valW (iaddrV 1 x12 x14) fun v4 =>
valW (load1V σ v4) fun v5 =>
valW (lenV .slice σ v5) fun v6 =>
l_frame_More_2 P K N1 x5 x12 x13 x14 v5 v6 (.int .i64 0) σ) (
valW (aUn .xor x5) fun v21 =>
K v21 σ)) := by kernel_rfl
theorem l_frame_More_1_of {P : Program} {K : AV → St → Prop} {x5 : AV} {x12 : AV} {x13 : AV} {x14 : AV} {σ : St} (I : Nat → AV → AV → AV → AV → St → Prop) (m : Nat) (h0 : I m x5 x12 x13 x14 σ) (hs : ∀ m x5 x12 x13 x14 σ, I m x5 x12 x13 x14 σ → b_frame_More_1 P K (fun x5 x12 x13 x14 σ => ∃ m', m' < m ∧ I m' x5 x12 x13 x14 σ) x5 x12 x13 x14 σ) : l_frame_More_1 P K x5 x12 x13 x14 σ :=
  loop_intro (fun m fr σ => I m (fr.at 5) (fr.at 12) (fr.at 13) (fr.at 14) σ) m h0 (fun m fr σ h => hs m (fr.at 5) (fr.at 12) (fr.at 13) (fr.at 14) σ h)
theorem w_frame_More_eq {P : Program} {K : AV → St → Prop} {a0 : AV} {a1 : AV} {σ : St} : fnW P f_frame_More [a0, a1] σ K = (
valW (aUn .xor a0) fun v1 =>
valW (lenV .slice σ a1) fun v2 =>
l_frame_More_1 P K v1 a1 v2 (.int .i64 0) σ) := by kernel_rfl
theorem r_frame_More {P : Program} (H : Has P tab) {a0 : AV} {a1 : AV} {σ : St} {K : AV → St → Prop} (h : fnW P f_frame_More [a0, a1] σ K) : Ret P N.frame_More [a0, a1] σ K := H.ret (n := 323) (F := f_frame_More) (by kernel_rfl) (by kernel_rfl) h
end Go.AM.P

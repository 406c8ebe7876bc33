import Derived.Test.YthbkgikjaiaigaaGreatY4T
namespace Go.AM.P
set_option linter.all false
set_option linter.all false
/- towpathlaw14_OffsetsRecords -/
def j_towpathlaw14_OffsetsRecords_1 (P : Program) (K : AV → St → Prop) (x1 : AV) (x3 : AV) (x5 : AV) (σ : St) : Prop := aw P f_towpathlaw14_OffsetsRecords_c16 (retW f_towpathlaw14_OffsetsRecords K) (frL 7 [(1, x1), (3, x3), (5, x5)]) σ
def j_towpathlaw14_OffsetsRecords_2 (P : Program) (K : AV → St → Prop) (x1 : AV) (x3 : AV) (x5 : AV) (σ : St) : Prop := aw P f_towpathlaw14_OffsetsRecords_c15 (retW f_towpathlaw14_OffsetsRecords K) (frL 7 [(1, x1), (3, x3), (5, x5)]) σ
def j_towpathlaw14_OffsetsRecords_3 (P : Program) (K : AV → St → Prop) (x5 : AV) (σ : St) : Prop := aw P f_towpathlaw14_OffsetsRecords_c11 (retW f_towpathlaw14_OffsetsRecords K) (frL 7 [(5, x5)]) σ
theorem j_towpathlaw14_OffsetsRecords_3_eq {P : Program} {K : AV → St → Prop} {x5 : AV} {σ : St} : j_towpathlaw14_OffsetsRecords_3 P K x5 σ = (
valW (loadnV σ 4 x5) fun v24 =>
Ret P N.offsets_Parse [v24] σ fun v25 s13 =>
valW (extV v25 0) fun v26 =>
valW (extV v25 1) fun v27 =>
newW s13 (.cells [(.int .i64 0), (.int .i64 0), (.int .i64 0), (.int .i64 0)]) fun v28 s14 =>
stW (storeS 4 s14 v28 v26) fun s15 =>
valW (loadnV s15 4 x5) fun v29 =>
Ret P N.towpathref14_Parse [v29] s15 fun v30 s16 =>
valW (extV v30 0) fun v31 =>
valW (extV v30 1) fun v32 =>
newW s16 (.cells [(.int .i64 0), (.int .i64 0), (.int .i64 0), (.int .i64 0)]) fun v33 s17 =>
stW (storeS 4 s17 v33 v31) fun s18 =>
valW (aBin .eql .num v27 v32) fun v34 =>
guardW v34 true (fun K0 => valW (loadnV s18 4 v28) fun v36 =>
K0 v36 s18) s18 fun v35 s19 =>
gcallW P v34 true N.towpathlaw14_plain [v35] s18 fun d38 v37 s20 =>
guardW v34 true (fun K0 => valW (loadnV s20 4 v33) fun v40 =>
K0 v40 s20) s20 fun v39 s21 =>
guardW v34 true (fun K0 => valW (aBin .eql (.agg [.num, .num, .num, .num]) v37 v39) fun v42 =>
K0 v42 s20) s20 fun v41 s22 =>
valW (pickV v34 v41 (.bool false)) fun v43 =>
gcallW P v43 true N.towpathlaw14_awake [] s20 fun d45 v44 s23 =>
valW (pickV v43 v44 (.bool false)) fun v46 =>
((gchkW v34 true (loadnV s18 4 v33 = some v39) (v39 = .tup [])) ∧ True) ∧
K v46 s23) := by kernel_rfl
theorem j_towpathlaw14_OffsetsRecords_2_eq {P : Program} {K : AV → St → Prop} {x1 : AV} {x3 : AV} {x5 : AV} {σ : St} : j_towpathlaw14_OffsetsRecords_2 P K x1 x3 x5 σ = (
valW (loadnV σ 4 x3) fun v5 =>
Ret P N.towpathlaw14_ours [v5] σ fun v6 s3 =>
Ret P N.offsets_Record [v6, x1] s3 fun v7 s4 =>
valW (extV v7 0) fun v8 =>
valW (extV v7 1) fun v9 =>
newW s4 (.cells [(.str []), (.str []), (.bool false), (.int .i64 0)]) fun v10 s5 =>
stW (storeS 4 s5 v10 v8) fun s6 =>
valW (loadnV s6 4 x3) fun v11 =>
Ret P N.towpathref14_Record [v11, x1] s6 fun v12 s7 =>
valW (extV v12 0) fun v13 =>
valW (extV v12 1) fun v14 =>
newW s7 (.cells [(.str []), (.str []), (.bool false), (.int .i64 0)]) fun v15 s8 =>
stW (storeS 4 s8 v15 v13) fun s9 =>
valW (loadnV s9 4 v10) fun v16 =>
valW (loadnV s9 4 v15) fun v17 =>
valW (aBin .neq (.agg [.str, .str, .bool, .num]) v16 v17) fun v18 =>
guardW v18 false (fun K0 => K0 v9 s9) s9 fun v19 s10 =>
guardW v18 false (fun K0 => K0 v14 s10) s10 fun v20 s11 =>
guardW v18 false (fun K0 => valW (aBin .neq .num v19 v20) fun v22 =>
K0 v22 s11) s11 fun v21 s12 =>
valW (pickV v18 (.bool true) v21) fun v23 =>
condW v23 (
K (.bool false) s12) (
valW (aBin .eql .num v9 (.int .i64 0)) fun v47 =>
condW v47 (
valW (loadnV s12 4 v10) fun v48 =>
Ret P N.offsets_Parse [v48] s12 fun v49 s24 =>
valW (extV v49 0) fun v50 =>
valW (extV v49 1) fun v51 =>
newW s24 (.cells [(.int .i64 0), (.int .i64 0), (.int .i64 0), (.int .i64 0)]) fun v52 s25 =>
stW (storeS 4 s25 v52 v50) fun s26 =>
valW (aBin .neq .num v51 (.int .i64 0)) fun v53 =>
guardW v53 false (fun K0 => valW (loadnV s26 4 v52) fun v55 =>
K0 v55 s26) s26 fun v54 s27 =>
gcallW P v53 false N.towpathlaw14_plain [v54] s26 fun d57 v56 s28 =>
guardW v53 false (fun K0 => valW (loadnV s28 4 x3) fun v59 =>
K0 v59 s28) s28 fun v58 s29 =>
guardW v53 false (fun K0 => valW (aBin .neq (.agg [.num, .num, .num, .num]) v56 v58) fun v61 =>
K0 v61 s28) s28 fun v60 s30 =>
valW (pickV v53 (.bool true) v60) fun v62 =>
((gchkW v53 false (loadnV s26 4 x3 = some v58) (v58 = .tup [])) ∧ True) ∧
condW v62 (
K (.bool false) s28) (
j_towpathlaw14_OffsetsRecords_3 P K x5 s28)) (
j_towpathlaw14_OffsetsRecords_3 P K x5 s12))) := by kernel_rfl
theorem j_towpathlaw14_OffsetsRecords_1_eq {P : Program} {K : AV → St → Prop} {x1 : AV} {x3 : AV} {x5 : AV} {σ : St} : j_towpathlaw14_OffsetsRecords_1 P K x1 x3 x5 σ = (
valW (faddrV 1 x5) fun v63 =>
valW (load1V σ v63) fun v64 =>
valW (lenV .str σ v64) fun v65 =>
valW (aBin .gtr .num v65 (.int .i64 60)) fun v66 =>
condW v66 (
valW (faddrV 1 x5) fun v67 =>
valW (load1V σ v67) fun v68 =>
valW (sslcV v68 .none (some (.int .i64 60))) fun v69 =>
valW (faddrV 1 x5) fun v70 =>
stW (storeS 1 σ v70 v69) fun s31 =>
j_towpathlaw14_OffsetsRecords_2 P K x1 x3 x5 s31) (
j_towpathlaw14_OffsetsRecords_2 P K x1 x3 x5 σ)) := by kernel_rfl
theorem w_towpathlaw14_OffsetsRecords_eq {P : Program} {K : AV → St → Prop} {a0 : AV} {a1 : AV} {a2 : AV} {σ : St} : fnW P f_towpathlaw14_OffsetsRecords [a0, a1, a2] σ K = (
csW (AV.cellsO a0) fun c1 => newW σ (.cells c1) fun v2 s1 =>
csW (AV.cellsO a2) fun c3 => newW s1 (.cells c3) fun v4 s2 =>
valW (faddrV 0 v4) fun v71 =>
valW (load1V s2 v71) fun v72 =>
valW (lenV .str s2 v72) fun v73 =>
valW (aBin .gtr .num v73 (.int .i64 40)) fun v74 =>
condW v74 (
valW (faddrV 0 v4) fun v75 =>
valW (load1V s2 v75) fun v76 =>
valW (sslcV v76 .none (some (.int .i64 40))) fun v77 =>
valW (faddrV 0 v4) fun v78 =>
stW (storeS 1 s2 v78 v77) fun s32 =>
j_towpathlaw14_OffsetsRecords_1 P K a1 v2 v4 s32) (
j_towpathlaw14_OffsetsRecords_1 P K a1 v2 v4 s2)) := by kernel_rfl
theorem r_towpathlaw14_OffsetsRecords {P : Program} (H : Has P tab) {a0 : AV} {a1 : AV} {a2 : AV} {σ : St} {K : AV → St → Prop} (h : fnW P f_towpathlaw14_OffsetsRecords [a0, a1, a2] σ K) : Ret P N.towpathlaw14_OffsetsRecords [a0, a1, a2] σ K := H.ret (n := 4) (F := f_towpathlaw14_OffsetsRecords) (by kernel_rfl) (by kernel_rfl) h
/- offsets_Record -/
theorem w_offsets_Record_eq {P : Program} {K : AV → St → Prop} {a0 : AV} {a1 : AV} {σ : St} : fnW P f_offsets_Record [a0, a1] σ K = (
csW (AV.cellsO a0) fun c1 => newW σ (.cells c1) fun v2 s1 =>
newW s1 (.cells [(.str []), (.str []), (.bool false), (.int .i64 0)]) fun v3 s2 =>
valW (loadnV s2 4 v2) fun v4 =>
Ret P N.offsets_Commit_may [v4] s2 fun v5 s3 =>
valW (aUn .not v5) fun v6 =>
guardW v6 false (fun K0 => K0 a1 s3) s3 fun v7 s4 =>
guardW v6 false (fun K0 => valW (aBin .lss .num v7 (.int .i64 0)) fun v9 =>
K0 v9 s4) s4 fun v8 s5 =>
valW (pickV v6 (.bool true) v8) fun v10 =>
guardW v10 false (fun K0 => K0 a1 s5) s5 fun v11 s6 =>
guardW v10 false (fun K0 => valW (aBin .gtr .num v11 (.int .i64 1099511627776)) fun v13 =>
K0 v13 s6) s6 fun v12 s7 =>
valW (pickV v10 (.bool true) v12) fun v14 =>
condW v14 (
csW (fillV [(.str []), (.str []), (.bool false), (.int .i64 0)] []) fun c15 =>
stW (storeS 4 s7 v3 (.agg c15)) fun s8 =>
valW (loadnV s8 4 v3) fun v16 =>
K (.tup [v16, (.int .i64 2)]) s8) (
valW (faddrV 1 v2) fun v17 =>
valW (load1V s7 v17) fun v18 =>
valW (aConv (.int .u64) s7 v18) fun v19 =>
Ret P N.wire_Uint [v19] s7 fun v20 s9 =>
valW (faddrV 2 v2) fun v21 =>
valW (load1V s9 v21) fun v22 =>
valW (aConv (.int .u64) s9 v22) fun v23 =>
Ret P N.wire_Uint [v23] s9 fun v24 s10 =>
(true = true → true = true → [v19] = [v23] → s7 = s9 → v20 = v24 ∧ s9 = s10) ∧
valW (faddrV 3 v2) fun v25 =>
valW (load1V s10 v25) fun v26 =>
valW (aConv (.int .u64) s10 v26) fun v27 =>
Ret P N.wire_Uint [v27] s10 fun v28 s11 =>
(true = true → true = true → [v23] = [v27] → s9 = s10 → v24 = v28 ∧ s10 = s11) ∧
(true = true → true = true → [v19] = [v27] → s7 = s10 → v20 = v28 ∧ s9 = s11) ∧
bslW false 1 3 [.nils] s11 [(0, 1, v20), (1, 1, v24), (2, 1, v28)] fun v29 s12 =>
Ret P N.wire_Join [v29] s11 fun v30 s13 =>
((load1V s7 v21 = some v22) ∧ (load1V s7 v25 = some v26) ∧ (load1V s9 v25 = some v26) ∧ True) ∧
valW (faddrV 0 v2) fun v31 =>
valW (load1V s13 v31) fun v32 =>
Ret P N.offsets_key [v32] s13 fun v33 s14 =>
valW (aConv .toStr s14 v30) fun v34 =>
csW (fillV [(.str []), (.str []), (.bool false), (.int .i64 0)] [(0, 1, v33), (1, 1, v34), (3, 1, a1)]) fun c35 =>
stW (storeS 4 s14 v3 (.agg c35)) fun s15 =>
((aConv .toStr s13 v30 = some v34) ∧ True) ∧
valW (loadnV s15 4 v3) fun v36 =>
K (.tup [v36, (.int .i64 0)]) s15)) := by kernel_rfl
theorem r_offsets_Record {P : Program} (H : Has P tab) {a0 : AV} {a1 : AV} {σ : St} {K : AV → St → Prop} (h : fnW P f_offsets_Record [a0, a1] σ K) : Ret P N.offsets_Record [a0, a1] σ K := H.ret (n := 15) (F := f_offsets_Record) (by kernel_rfl) (by kernel_rfl) h
/- towpathlaw14_ours -/
theorem w_towpathlaw14_ours_eq {P : Program} {K : AV → St → Prop} {a0 : AV} {σ : St} : fnW P f_towpathlaw14_ours [a0] σ K = (
csW (AV.cellsO a0) fun c1 => newW σ (.cells c1) fun v2 s1 =>
newW s1 (.cells [(.int .i64 0), (.int .i64 0), (.int .i64 0), (.int .i64 0)]) fun v3 s2 =>
valW (faddrV 0 v2) fun v4 =>
valW (load1V s2 v4) fun v5 =>
valW (faddrV 1 v2) fun v6 =>
valW (load1V s2 v6) fun v7 =>
valW (faddrV 2 v2) fun v8 =>
valW (load1V s2 v8) fun v9 =>
valW (faddrV 3 v2) fun v10 =>
valW (load1V s2 v10) fun v11 =>
csW (fillV [(.int .i64 0), (.int .i64 0), (.int .i64 0), (.int .i64 0)] [(0, 1, v5), (1, 1, v7), (2, 1, v9), (3, 1, v11)]) fun c12 =>
stW (storeS 4 s2 v3 (.agg c12)) fun s3 =>
valW (loadnV s3 4 v3) fun v13 =>
K v13 s3) := by kernel_rfl
theorem r_towpathlaw14_ours {P : Program} (H : Has P tab) {a0 : AV} {σ : St} {K : AV → St → Prop} (h : fnW P f_towpathlaw14_ours [a0] σ K) : Ret P N.towpathlaw14_ours [a0] σ K := H.ret (n := 16) (F := f_towpathlaw14_ours) (by kernel_rfl) (by kernel_rfl) h
/- towpathref14_Record -/
theorem w_towpathref14_Record_eq {P : Program} {K : AV → St → Prop} {a0 : AV} {a1 : AV} {σ : St} : fnW P f_towpathref14_Record [a0, a1] σ K = (
csW (AV.cellsO a0) fun c1 => newW σ (.cells c1) fun v2 s1 =>
newW s1 (.cells [(.str []), (.str []), (.bool false), (.int .i64 0)]) fun v3 s2 =>
valW (faddrV 0 v2) fun v4 =>
valW (load1V s2 v4) fun v5 =>
valW (aBin .lss .num v5 (.int .i64 0)) fun v6 =>
guardW v6 false (fun K0 => valW (faddrV 0 v2) fun v8 =>
K0 v8 s2) s2 fun v7 s3 =>
guardW v6 false (fun K0 => valW (load1V s3 v7) fun v10 =>
K0 v10 s3) s3 fun v9 s4 =>
guardW v6 false (fun K0 => valW (aBin .gtr .num v9 (.int .i64 255)) fun v12 =>
K0 v12 s4) s4 fun v11 s5 =>
valW (pickV v6 (.bool true) v11) fun v13 =>
guardW v13 false (fun K0 => valW (faddrV 1 v2) fun v15 =>
K0 v15 s5) s5 fun v14 s6 =>
guardW v13 false (fun K0 => valW (load1V s6 v14) fun v17 =>
K0 v17 s6) s6 fun v16 s7 =>
guardW v13 false (fun K0 => valW (aBin .lss .num v16 (.int .i64 0)) fun v19 =>
K0 v19 s7) s7 fun v18 s8 =>
valW (pickV v13 (.bool true) v18) fun v20 =>
guardW v20 false (fun K0 => valW (faddrV 1 v2) fun v22 =>
K0 v22 s8) s8 fun v21 s9 =>
guardW v20 false (fun K0 => valW (load1V s9 v21) fun v24 =>
K0 v24 s9) s9 fun v23 s10 =>
guardW v20 false (fun K0 => valW (aBin .gtr .num v23 (.int .i64 1099511627776)) fun v26 =>
K0 v26 s10) s10 fun v25 s11 =>
valW (pickV v20 (.bool true) v25) fun v27 =>
guardW v27 false (fun K0 => valW (faddrV 2 v2) fun v29 =>
K0 v29 s11) s11 fun v28 s12 =>
guardW v27 false (fun K0 => valW (load1V s12 v28) fun v31 =>
K0 v31 s12) s12 fun v30 s13 =>
guardW v27 false (fun K0 => valW (aBin .lss .num v30 (.int .i64 0)) fun v33 =>
K0 v33 s13) s13 fun v32 s14 =>
valW (pickV v27 (.bool true) v32) fun v34 =>
guardW v34 false (fun K0 => valW (faddrV 2 v2) fun v36 =>
K0 v36 s14) s14 fun v35 s15 =>
guardW v34 false (fun K0 => valW (load1V s15 v35) fun v38 =>
K0 v38 s15) s15 fun v37 s16 =>
guardW v34 false (fun K0 => valW (aBin .gtr .num v37 (.int .i64 64)) fun v40 =>
K0 v40 s16) s16 fun v39 s17 =>
valW (pickV v34 (.bool true) v39) fun v41 =>
guardW v41 false (fun K0 => valW (faddrV 3 v2) fun v43 =>
K0 v43 s17) s17 fun v42 s18 =>
guardW v41 false (fun K0 => valW (load1V s18 v42) fun v45 =>
K0 v45 s18) s18 fun v44 s19 =>
guardW v41 false (fun K0 => valW (aBin .lss .num v44 (.int .i64 0)) fun v47 =>
K0 v47 s19) s19 fun v46 s20 =>
valW (pickV v41 (.bool true) v46) fun v48 =>
guardW v48 false (fun K0 => valW (faddrV 3 v2) fun v50 =>
K0 v50 s20) s20 fun v49 s21 =>
guardW v48 false (fun K0 => valW (load1V s21 v49) fun v52 =>
K0 v52 s21) s21 fun v51 s22 =>
guardW v48 false (fun K0 => valW (aBin .gtr .num v51 (.int .i64 2147483647)) fun v54 =>
K0 v54 s22) s22 fun v53 s23 =>
valW (pickV v48 (.bool true) v53) fun v55 =>
guardW v55 false (fun K0 => K0 a1 s23) s23 fun v56 s24 =>
guardW v55 false (fun K0 => valW (aBin .lss .num v56 (.int .i64 0)) fun v58 =>
K0 v58 s24) s24 fun v57 s25 =>
valW (pickV v55 (.bool true) v57) fun v59 =>
guardW v59 false (fun K0 => K0 a1 s25) s25 fun v60 s26 =>
guardW v59 false (fun K0 => valW (aBin .gtr .num v60 (.int .i64 1099511627776)) fun v62 =>
K0 v62 s26) s26 fun v61 s27 =>
valW (pickV v59 (.bool true) v61) fun v63 =>
condW v63 (
csW (fillV [(.str []), (.str []), (.bool false), (.int .i64 0)] []) fun c64 =>
stW (storeS 4 s27 v3 (.agg c64)) fun s28 =>
valW (loadnV s28 4 v3) fun v65 =>
K (.tup [v65, (.int .i64 2)]) s28) (
valW (faddrV 1 v2) fun v66 =>
valW (load1V s27 v66) fun v67 =>
valW (aConv (.int .u64) s27 v67) fun v68 =>
Ret P N.towpathref01_Uint [v68] s27 fun v69 s29 =>
valW (faddrV 2 v2) fun v70 =>
valW (load1V s29 v70) fun v71 =>
valW (aConv (.int .u64) s29 v71) fun v72 =>
Ret P N.towpathref01_Uint [v72] s29 fun v73 s30 =>
optW (aApp false 1 1 s30 v69 v73) fun v74 s31 =>
valW (faddrV 3 v2) fun v75 =>
valW (load1V s31 v75) fun v76 =>
valW (aConv (.int .u64) s31 v76) fun v77 =>
Ret P N.towpathref01_Uint [v77] s31 fun v78 s32 =>
optW (aApp false 1 1 s32 v74 v78) fun v79 s33 =>
valW (faddrV 0 v2) fun v80 =>
valW (load1V s33 v80) fun v81 =>
Ret P N.towpathref14_digits [v81] s33 fun v82 s34 =>
valW (aBin .add .str (.str [111]) v82) fun v83 =>
valW (aConv .toStr s34 v79) fun v84 =>
csW (fillV [(.str []), (.str []), (.bool false), (.int .i64 0)] [(0, 1, v83), (1, 1, v84), (3, 1, a1)]) fun c85 =>
stW (storeS 4 s34 v3 (.agg c85)) fun s35 =>
((aConv .toStr s33 v79 = some v84) ∧ True) ∧
valW (loadnV s35 4 v3) fun v86 =>
K (.tup [v86, (.int .i64 0)]) s35)) := by kernel_rfl
theorem r_towpathref14_Record {P : Program} (H : Has P tab) {a0 : AV} {a1 : AV} {σ : St} {K : AV → St → Prop} (h : fnW P f_towpathref14_Record [a0, a1] σ K) : Ret P N.towpathref14_Record [a0, a1] σ K := H.ret (n := 17) (F := f_towpathref14_Record) (by kernel_rfl) (by kernel_rfl) h
/- offsets_Parse -/
def l_offsets_Parse_1 (P : Program) (K : AV → St → Prop) (x1 : AV) (x2 : AV) (x4 : AV) (x24 : AV) (x25 : AV) (x26 : AV) (σ : St) : Prop := aw P (.loop (.keep 7 [1, 2, 4, 24, 25, 26] f_offsets_Parse_c9)) (blockP 0 (seqP (aw P f_offsets_Parse_c21) (retW f_offsets_Parse K))) (frL 7 [(1, x1), (2, x2), (4, x4), (24, x24), (25, x25), (26, x26)]) σ
def b_offsets_Parse_1 (P : Program) (K : AV → St → Prop) (N1 : AV → AV → AV → AV → AV → AV → St → Prop) (x1 : AV) (x2 : AV) (x4 : AV) (x24 : AV) (x25 : AV) (x26 : AV) (σ : St) : Prop := aw P f_offsets_Parse_c9 (loopP (fun fr σ => N1 (fr.at 1) (fr.at 2) (fr.at 4) (fr.at 24) (fr.at 25) (fr.at 26) σ) (blockP 0 (seqP (aw P f_offsets_Parse_c21) (retW f_offsets_Parse K)))) (frL 7 [(1, x1), (2, x2), (4, x4), (24, x24), (25, x25), (26, x26)]) σ
theorem b_offsets_Parse_1_eq {P : Program} {K : AV → St → Prop} {N1 : AV → AV → AV → AV → AV → AV → St → Prop} {x1 : AV} {x2 : AV} {x4 : AV} {x24 : AV} {x25 : AV} {x26 : AV} {σ : St} : b_offsets_Parse_1 P K N1 x1 x2 x4 x24 x25 x26 σ = (
valW (aBin .lss .num x26 x25) fun v22 =>
condW v22 (
valW (iaddrV 1 x24 x26) fun v23 =>
valW (load1V σ v23) fun v24 =>
valW (aBin .lss .num v24 (.int .u8 48)) fun v25 =>
guardW v25 false (fun K0 => K0 v24 σ) σ fun v26 s8 =>
guardW v25 false (fun K0 => valW (aBin .gtr .num v26 (.int .u8 57)) fun v28 =>
K0 v28 s8) s8 fun v27 s9 =>
valW (pickV v25 (.bool true) v27) fun v29 =>
condW v29 (
csW (fillV [(.int .i64 0), (.int .i64 0), (.int .i64 0), (.int .i64 0)] []) fun c30 =>
stW (storeS 4 s9 x2 (.agg c30)) fun s10 =>
valW (loadnV s10 4 x2) fun v31 =>
K (.tup [v31, (.int .i64 6)]) s10) (
valW (faddrV 0 x4) fun v32 =>
valW (load1V s9 v32) fun v33 =>
valW (aBin .mul .num v33 (.int .i64 10)) fun v34 =>
valW (aBin .sub .num v24 (.int .u8 48)) fun v35 =>
valW (aConv (.int .i64) s9 v35) fun v36 =>
valW (aBin .add .num v34 v36) fun v37 =>
valW (faddrV 0 x4) fun v38 =>
stW (storeS 1 s9 v38 v37) fun s11 =>
valW (aBin .add .num x26 (.int .i64 1)) fun v39 =>
N1 x1 x2 x4 x24 x25 v39 s11)) (
valW (faddrV 1 x1) fun v40 =>
valW (load1V σ v40) fun v41 =>
valW (aConv .toBytes σ v41) fun v42 =>
Ret P N.wire_NewReader [v42] σ fun v43 s12 =>
Ret P N.wire_Reader_Uint [v43] s12 fun v44 s13 =>
Ret P N.wire_Reader_Uint [v43] s13 fun v45 s14 =>
Ret P N.wire_Reader_Uint [v43] s14 fun v46 s15 =>
Ret P N.wire_Reader_End [v43] s15 fun v47 s16 =>
valW (aBin .neq .num v47 (.int .i64 0)) fun v48 =>
guardW v48 false (fun K0 => K0 v44 s16) s16 fun v49 s17 =>
guardW v48 false (fun K0 => valW (aBin .gtr .num v49 (.int .u64 1099511627776)) fun v51 =>
K0 v51 s17) s17 fun v50 s18 =>
valW (pickV v48 (.bool true) v50) fun v52 =>
guardW v52 false (fun K0 => K0 v45 s18) s18 fun v53 s19 =>
guardW v52 false (fun K0 => valW (aBin .gtr .num v53 (.int .u64 64)) fun v55 =>
K0 v55 s19) s19 fun v54 s20 =>
valW (pickV v52 (.bool true) v54) fun v56 =>
guardW v56 false (fun K0 => K0 v46 s20) s20 fun v57 s21 =>
guardW v56 false (fun K0 => valW (aBin .gtr .num v57 (.int .u64 2147483647)) fun v59 =>
K0 v59 s21) s21 fun v58 s22 =>
valW (pickV v56 (.bool true) v58) fun v60 =>
condW v60 (
csW (fillV [(.int .i64 0), (.int .i64 0), (.int .i64 0), (.int .i64 0)] []) fun c61 =>
stW (storeS 4 s22 x2 (.agg c61)) fun s23 =>
valW (loadnV s23 4 x2) fun v62 =>
K (.tup [v62, (.int .i64 6)]) s23) (
valW (aConv (.int .i64) s22 v44) fun v63 =>
valW (aConv (.int .i64) s22 v45) fun v64 =>
valW (aConv (.int .i64) s22 v46) fun v65 =>
valW (faddrV 1 x4) fun v66 =>
stW (storeS 1 s22 v66 v63) fun s24 =>
valW (faddrV 2 x4) fun v67 =>
stW (storeS 1 s24 v67 v64) fun s25 =>
valW (faddrV 3 x4) fun v68 =>
stW (storeS 1 s25 v68 v65) fun s26 =>
valW (loadnV s26 4 x4) fun v69 =>
Ret P N.offsets_Commit_may [v69] s26 fun v70 s27 =>
valW (aUn .not v70) fun v71 =>
guardW v71 false (fun K0 => valW (faddrV 0 x1) fun v73 =>
K0 v73 s27) s27 fun v72 s28 =>
guardW v71 false (fun K0 => valW (load1V s27 v72) fun v75 =>
K0 v75 s27) s27 fun v74 s29 =>
guardW v71 false (fun K0 => valW (faddrV 0 x4) fun v77 =>
K0 v77 s27) s27 fun v76 s30 =>
guardW v71 false (fun K0 => valW (load1V s27 v76) fun v79 =>
K0 v79 s27) s27 fun v78 s31 =>
gcallW P v71 false N.offsets_key [v78] s27 fun d81 v80 s32 =>
guardW v71 false (fun K0 => valW (aBin .neq .str v74 v80) fun v83 =>
K0 v83 s32) s32 fun v82 s33 =>
valW (pickV v71 (.bool true) v82) fun v84 =>
((gchkW v71 false (load1V s32 v72 = some v74) (v74 = .tup [])) ∧ True) ∧
condW v84 (
csW (fillV [(.int .i64 0), (.int .i64 0), (.int .i64 0), (.int .i64 0)] []) fun c85 =>
stW (storeS 4 s32 x2 (.agg c85)) fun s34 =>
valW (loadnV s34 4 x2) fun v86 =>
K (.tup [v86, (.int .i64 6)]) s34) (
valW (loadnV s32 4 x4) fun v87 =>
stW (storeS 4 s32 x2 v87) fun s35 =>
valW (loadnV s35 4 x2) fun v88 =>
K (.tup [v88, (.int .i64 0)]) s35)))) := by kernel_rfl
theorem l_offsets_Parse_1_of {P : Program} {K : AV → St → Prop} {x1 : AV} {x2 : AV} {x4 : AV} {x24 : AV} {x25 : AV} {x26 : AV} {σ : St} (I : Nat → AV → AV → AV → AV → AV → AV → St → Prop) (m : Nat) (h0 : I m x1 x2 x4 x24 x25 x26 σ) (hs : ∀ m x1 x2 x4 x24 x25 x26 σ, I m x1 x2 x4 x24 x25 x26 σ → b_offsets_Parse_1 P K (fun x1 x2 x4 x24 x25 x26 σ => ∃ m', m' < m ∧ I m' x1 x2 x4 x24 x25 x26 σ) x1 x2 x4 x24 x25 x26 σ) : l_offsets_Parse_1 P K x1 x2 x4 x24 x25 x26 σ :=
  loop_intro (fun m fr σ => I m (fr.at 1) (fr.at 2) (fr.at 4) (fr.at 24) (fr.at 25) (fr.at 26) σ) m h0 (fun m fr σ h => hs m (fr.at 1) (fr.at 2) (fr.at 4) (fr.at 24) (fr.at 25) (fr.at 26) σ h)
theorem w_offsets_Parse_eq {P : Program} {K : AV → St → Prop} {a0 : AV} {σ : St} : fnW P f_offsets_Parse [a0] σ K = (
csW (AV.cellsO a0) fun c1 => newW σ (.cells c1) fun v2 s1 =>
newW s1 (.cells [(.int .i64 0), (.int .i64 0), (.int .i64 0), (.int .i64 0)]) fun v3 s2 =>
valW (faddrV 0 v2) fun v4 =>
valW (load1V s2 v4) fun v5 =>
valW (lenV .str s2 v5) fun v6 =>
valW (aBin .neq .num v6 (.int .i64 4)) fun v7 =>
guardW v7 false (fun K0 => valW (faddrV 2 v2) fun v9 =>
K0 v9 s2) s2 fun v8 s3 =>
guardW v7 false (fun K0 => valW (load1V s3 v8) fun v11 =>
K0 v11 s3) s3 fun v10 s4 =>
valW (pickV v7 (.bool true) v10) fun v12 =>
condW v12 (
csW (fillV [(.int .i64 0), (.int .i64 0), (.int .i64 0), (.int .i64 0)] []) fun c13 =>
stW (storeS 4 s4 v3 (.agg c13)) fun s5 =>
valW (loadnV s5 4 v3) fun v14 =>
K (.tup [v14, (.int .i64 6)]) s5) (
csW (fillV [(.int .i64 0), (.int .i64 0), (.int .i64 0), (.int .i64 0)] []) fun c15 =>
newW s4 (.cells [(.int .i64 0), (.int .i64 0), (.int .i64 0), (.int .i64 0)]) fun v16 s6 =>
stW (storeS 4 s6 v16 (.agg c15)) fun s7 =>
valW (faddrV 0 v2) fun v17 =>
valW (load1V s7 v17) fun v18 =>
valW (sslcV v18 (some (.int .i64 1)) .none) fun v19 =>
valW (aConv .toBytes s7 v19) fun v20 =>
valW (lenV .slice s7 v20) fun v21 =>
l_offsets_Parse_1 P K v2 v3 v16 v20 v21 (.int .i64 0) s7)) := by kernel_rfl
theorem r_offsets_Parse {P : Program} (H : Has P tab) {a0 : AV} {σ : St} {K : AV → St → Prop} (h : fnW P f_offsets_Parse [a0] σ K) : Ret P N.offsets_Parse [a0] σ K := H.ret (n := 18) (F := f_offsets_Parse) (by kernel_rfl) (by kernel_rfl) h
/- towpathlaw14_plain -/
theorem w_towpathlaw14_plain_eq {P : Program} {K : AV → St → Prop} {a0 : AV} {σ : St} : fnW P f_towpathlaw14_plain [a0] σ K = (
csW (AV.cellsO a0) fun c1 => newW σ (.cells c1) fun v2 s1 =>
newW s1 (.cells [(.int .i64 0), (.int .i64 0), (.int .i64 0), (.int .i64 0)]) fun v3 s2 =>
valW (faddrV 0 v2) fun v4 =>
valW (load1V s2 v4) fun v5 =>
valW (faddrV 1 v2) fun v6 =>
valW (load1V s2 v6) fun v7 =>
valW (faddrV 2 v2) fun v8 =>
valW (load1V s2 v8) fun v9 =>
valW (faddrV 3 v2) fun v10 =>
valW (load1V s2 v10) fun v11 =>
csW (fillV [(.int .i64 0), (.int .i64 0), (.int .i64 0), (.int .i64 0)] [(0, 1, v5), (1, 1, v7), (2, 1, v9), (3, 1, v11)]) fun c12 =>
stW (storeS 4 s2 v3 (.agg c12)) fun s3 =>
valW (loadnV s3 4 v3) fun v13 =>
K v13 s3) := by kernel_rfl
theorem r_towpathlaw14_plain {P : Program} (H : Has P tab) {a0 : AV} {σ : St} {K : AV → St → Prop} (h : fnW P f_towpathlaw14_plain [a0] σ K) : Ret P N.towpathlaw14_plain [a0] σ K := H.ret (n := 19) (F := f_towpathlaw14_plain) (by kernel_rfl) (by kernel_rfl) h
/- towpathref14_Parse -/
def l_towpathref14_Parse_1 (P : Program) (K : AV → St → Prop) (x1 : AV) (x2 : AV) (x5 : AV) (x6 : AV) (x7 : AV) (x8 : AV) (σ : St) : Prop := aw P (.loop (.keep 7 [1, 2, 5, 6, 7, 8] f_towpathref14_Parse_c9)) (blockP 0 (seqP (aw P f_towpathref14_Parse_c12) (retW f_towpathref14_Parse K))) (frL 7 [(1, x1), (2, x2), (5, x5), (6, x6), (7, x7), (8, x8)]) σ
def b_towpathref14_Parse_1 (P : Program) (K : AV → St → Prop) (N1 : AV → AV → AV → AV → AV → AV → St → Prop) (x1 : AV) (x2 : AV) (x5 : AV) (x6 : AV) (x7 : AV) (x8 : AV) (σ : St) : Prop := aw P f_towpathref14_Parse_c9 (loopP (fun fr σ => N1 (fr.at 1) (fr.at 2) (fr.at 5) (fr.at 6) (fr.at 7) (fr.at 8) σ) (blockP 0 (seqP (aw P f_towpathref14_Parse_c12) (retW f_towpathref14_Parse K)))) (frL 7 [(1, x1), (2, x2), (5, x5), (6, x6), (7, x7), (8, x8)]) σ
theorem b_towpathref14_Parse_1_eq {P : Program} {K : AV → St → Prop} {N1 : AV → AV → AV → AV → AV → AV → St → Prop} {x1 : AV} {x2 : AV} {x5 : AV} {x6 : AV} {x7 : AV} {x8 : AV} {σ : St} : b_towpathref14_Parse_1 P K N1 x1 x2 x5 x6 x7 x8 σ = (
valW (aBin .leq .num x8 (.int .i64 255)) fun v24 =>
condW v24 (
valW (aConv (.int .i64) σ x5) fun v25 =>
valW (aConv (.int .i64) σ x6) fun v26 =>
valW (aConv (.int .i64) σ x7) fun v27 =>
csW (fillV [(.int .i64 0), (.int .i64 0), (.int .i64 0), (.int .i64 0)] [(0, 1, x8), (1, 1, v25), (2, 1, v26), (3, 1, v27)]) fun c28 =>
newW σ (.cells [(.int .i64 0), (.int .i64 0), (.int .i64 0), (.int .i64 0)]) fun v29 s12 =>
stW (storeS 4 s12 v29 (.agg c28)) fun s13 =>
valW (loadnV s13 4 v29) fun v30 =>
Ret P N.towpathref14_Record [v30, (.int .i64 0)] s13 fun v31 s14 =>
valW (extV v31 0) fun v32 =>
valW (extV v31 1) fun v33 =>
newW s14 (.cells [(.str []), (.str []), (.bool false), (.int .i64 0)]) fun v34 s15 =>
stW (storeS 4 s15 v34 v32) fun s16 =>
valW (aBin .eql .num v33 (.int .i64 0)) fun v35 =>
guardW v35 true (fun K0 => valW (faddrV 0 v34) fun v37 =>
K0 v37 s16) s16 fun v36 s17 =>
guardW v35 true (fun K0 => valW (load1V s17 v36) fun v39 =>
K0 v39 s17) s17 fun v38 s18 =>
guardW v35 true (fun K0 => valW (faddrV 0 x1) fun v41 =>
K0 v41 s18) s18 fun v40 s19 =>
guardW v35 true (fun K0 => valW (load1V s19 v40) fun v43 =>
K0 v43 s19) s19 fun v42 s20 =>
guardW v35 true (fun K0 => valW (aBin .eql .str v38 v42) fun v45 =>
K0 v45 s20) s20 fun v44 s21 =>
valW (pickV v35 v44 (.bool false)) fun v46 =>
guardW v46 true (fun K0 => valW (faddrV 1 v34) fun v48 =>
K0 v48 s21) s21 fun v47 s22 =>
guardW v46 true (fun K0 => valW (load1V s22 v47) fun v50 =>
K0 v50 s22) s22 fun v49 s23 =>
guardW v46 true (fun K0 => valW (faddrV 1 x1) fun v52 =>
K0 v52 s23) s23 fun v51 s24 =>
guardW v46 true (fun K0 => valW (load1V s24 v51) fun v54 =>
K0 v54 s24) s24 fun v53 s25 =>
guardW v46 true (fun K0 => valW (aBin .eql .str v49 v53) fun v56 =>
K0 v56 s25) s25 fun v55 s26 =>
valW (pickV v46 v55 (.bool false)) fun v57 =>
guardW v57 true (fun K0 => valW (faddrV 2 x1) fun v59 =>
K0 v59 s26) s26 fun v58 s27 =>
guardW v57 true (fun K0 => valW (load1V s27 v58) fun v61 =>
K0 v61 s27) s27 fun v60 s28 =>
guardW v57 true (fun K0 => valW (aUn .not v60) fun v63 =>
K0 v63 s28) s28 fun v62 s29 =>
valW (pickV v57 v62 (.bool false)) fun v64 =>
condW v64 (
valW (loadnV s29 4 v29) fun v65 =>
stW (storeS 4 s29 x2 v65) fun s30 =>
valW (loadnV s30 4 x2) fun v66 =>
K (.tup [v66, (.int .i64 0)]) s30) (
valW (aBin .add .num x8 (.int .i64 1)) fun v67 =>
N1 x1 x2 x5 x6 x7 v67 s29)) (
csW (fillV [(.int .i64 0), (.int .i64 0), (.int .i64 0), (.int .i64 0)] []) fun c68 =>
stW (storeS 4 σ x2 (.agg c68)) fun s31 =>
valW (loadnV s31 4 x2) fun v69 =>
K (.tup [v69, (.int .i64 6)]) s31)) := by kernel_rfl
theorem l_towpathref14_Parse_1_of {P : Program} {K : AV → St → Prop} {x1 : AV} {x2 : AV} {x5 : AV} {x6 : AV} {x7 : AV} {x8 : AV} {σ : St} (I : Nat → AV → AV → AV → AV → AV → AV → St → Prop) (m : Nat) (h0 : I m x1 x2 x5 x6 x7 x8 σ) (hs : ∀ m x1 x2 x5 x6 x7 x8 σ, I m x1 x2 x5 x6 x7 x8 σ → b_towpathref14_Parse_1 P K (fun x1 x2 x5 x6 x7 x8 σ => ∃ m', m' < m ∧ I m' x1 x2 x5 x6 x7 x8 σ) x1 x2 x5 x6 x7 x8 σ) : l_towpathref14_Parse_1 P K x1 x2 x5 x6 x7 x8 σ :=
  loop_intro (fun m fr σ => I m (fr.at 1) (fr.at 2) (fr.at 5) (fr.at 6) (fr.at 7) (fr.at 8) σ) m h0 (fun m fr σ h => hs m (fr.at 1) (fr.at 2) (fr.at 5) (fr.at 6) (fr.at 7) (fr.at 8) σ h)
theorem w_towpathref14_Parse_eq {P : Program} {K : AV → St → Prop} {a0 : AV} {σ : St} : fnW P f_towpathref14_Parse [a0] σ K = (
csW (AV.cellsO a0) fun c1 => newW σ (.cells c1) fun v2 s1 =>
newW s1 (.cells [(.int .i64 0), (.int .i64 0), (.int .i64 0), (.int .i64 0)]) fun v3 s2 =>
valW (faddrV 1 v2) fun v4 =>
valW (load1V s2 v4) fun v5 =>
valW (aConv .toBytes s2 v5) fun v6 =>
csW (fillV [.nils, (.int .i64 0), (.int .i64 0)] [(0, 1, v6)]) fun c7 =>
csW (AV.cellsO (.agg c7)) fun c8 => newW s2 (.cells c8) fun v9 s3 =>
Ret P N.towpathref01_Reader_Uint [v9] s3 fun v10 s4 =>
Ret P N.towpathref01_Reader_Uint [v9] s4 fun v11 s5 =>
Ret P N.towpathref01_Reader_Uint [v9] s5 fun v12 s6 =>
valW (aBin .gtr .num v10 (.int .u64 2199023255552)) fun v13 =>
guardW v13 false (fun K0 => K0 v11 s6) s6 fun v14 s7 =>
guardW v13 false (fun K0 => valW (aBin .gtr .num v14 (.int .u64 1000)) fun v16 =>
K0 v16 s7) s7 fun v15 s8 =>
valW (pickV v13 (.bool true) v15) fun v17 =>
guardW v17 false (fun K0 => K0 v12 s8) s8 fun v18 s9 =>
guardW v17 false (fun K0 => valW (aBin .gtr .num v18 (.int .u64 1099511627776)) fun v20 =>
K0 v20 s9) s9 fun v19 s10 =>
valW (pickV v17 (.bool true) v19) fun v21 =>
condW v21 (
csW (fillV [(.int .i64 0), (.int .i64 0), (.int .i64 0), (.int .i64 0)] []) fun c22 =>
stW (storeS 4 s10 v3 (.agg c22)) fun s11 =>
valW (loadnV s11 4 v3) fun v23 =>
K (.tup [v23, (.int .i64 6)]) s11) (
l_towpathref14_Parse_1 P K v2 v3 v10 v11 v12 (.int .i64 0) s10)) := by kernel_rfl
theorem r_towpathref14_Parse {P : Program} (H : Has P tab) {a0 : AV} {σ : St} {K : AV → St → Prop} (h : fnW P f_towpathref14_Parse [a0] σ K) : Ret P N.towpathref14_Parse [a0] σ K := H.ret (n := 20) (F := f_towpathref14_Parse) (by kernel_rfl) (by kernel_rfl) h
/- offsets_Commit_may -/
theorem w_offsets_Commit_may_eq {P : Program} {K : AV → St → Prop} {a0 : AV} {σ : St} : fnW P f_offsets_Commit_may [a0] σ K = (
csW (AV.cellsO a0) fun c1 => newW σ (.cells c1) fun v2 s1 =>
valW (faddrV 0 v2) fun v3 =>
valW (load1V s1 v3) fun v4 =>
valW (aBin .geq .num v4 (.int .i64 0)) fun v5 =>
guardW v5 true (fun K0 => valW (faddrV 0 v2) fun v7 =>
K0 v7 s1) s1 fun v6 s2 =>
guardW v5 true (fun K0 => valW (load1V s2 v6) fun v9 =>
K0 v9 s2) s2 fun v8 s3 =>
guardW v5 true (fun K0 => valW (aBin .leq .num v8 (.int .i64 255)) fun v11 =>
K0 v11 s3) s3 fun v10 s4 =>
valW (pickV v5 v10 (.bool false)) fun v12 =>
guardW v12 true (fun K0 => valW (faddrV 1 v2) fun v14 =>
K0 v14 s4) s4 fun v13 s5 =>
guardW v12 true (fun K0 => valW (load1V s5 v13) fun v16 =>
K0 v16 s5) s5 fun v15 s6 =>
guardW v12 true (fun K0 => valW (aBin .geq .num v15 (.int .i64 0)) fun v18 =>
K0 v18 s6) s6 fun v17 s7 =>
valW (pickV v12 v17 (.bool false)) fun v19 =>
guardW v19 true (fun K0 => valW (faddrV 1 v2) fun v21 =>
K0 v21 s7) s7 fun v20 s8 =>
guardW v19 true (fun K0 => valW (load1V s8 v20) fun v23 =>
K0 v23 s8) s8 fun v22 s9 =>
guardW v19 true (fun K0 => valW (aBin .leq .num v22 (.int .i64 1099511627776)) fun v25 =>
K0 v25 s9) s9 fun v24 s10 =>
valW (pickV v19 v24 (.bool false)) fun v26 =>
guardW v26 true (fun K0 => valW (faddrV 2 v2) fun v28 =>
K0 v28 s10) s10 fun v27 s11 =>
guardW v26 true (fun K0 => valW (load1V s11 v27) fun v30 =>
K0 v30 s11) s11 fun v29 s12 =>
guardW v26 true (fun K0 => valW (aBin .geq .num v29 (.int .i64 0)) fun v32 =>
K0 v32 s12) s12 fun v31 s13 =>
valW (pickV v26 v31 (.bool false)) fun v33 =>
guardW v33 true (fun K0 => valW (faddrV 2 v2) fun v35 =>
K0 v35 s13) s13 fun v34 s14 =>
guardW v33 true (fun K0 => valW (load1V s14 v34) fun v37 =>
K0 v37 s14) s14 fun v36 s15 =>
guardW v33 true (fun K0 => valW (aBin .leq .num v36 (.int .i64 64)) fun v39 =>
K0 v39 s15) s15 fun v38 s16 =>
valW (pickV v33 v38 (.bool false)) fun v40 =>
guardW v40 true (fun K0 => valW (faddrV 3 v2) fun v42 =>
K0 v42 s16) s16 fun v41 s17 =>
guardW v40 true (fun K0 => valW (load1V s17 v41) fun v44 =>
K0 v44 s17) s17 fun v43 s18 =>
guardW v40 true (fun K0 => valW (aBin .geq .num v43 (.int .i64 0)) fun v46 =>
K0 v46 s18) s18 fun v45 s19 =>
valW (pickV v40 v45 (.bool false)) fun v47 =>
guardW v47 true (fun K0 => valW (faddrV 3 v2) fun v49 =>
K0 v49 s19) s19 fun v48 s20 =>
guardW v47 true (fun K0 => valW (load1V s20 v48) fun v51 =>
K0 v51 s20) s20 fun v50 s21 =>
guardW v47 true (fun K0 => valW (aBin .leq .num v50 (.int .i64 2147483647)) fun v53 =>
K0 v53 s21) s21 fun v52 s22 =>
valW (pickV v47 v52 (.bool false)) fun v54 =>
K v54 s22) := by kernel_rfl
theorem r_offsets_Commit_may {P : Program} (H : Has P tab) {a0 : AV} {σ : St} {K : AV → St → Prop} (h : fnW P f_offsets_Commit_may [a0] σ K) : Ret P N.offsets_Commit_may [a0] σ K := H.ret (n := 76) (F := f_offsets_Commit_may) (by kernel_rfl) (by kernel_rfl) h
/- wire_Join -/
def l_wire_Join_1 (P : Program) (K : AV → St → Prop) (x0 : AV) (x3 : AV) (x9 : AV) (x10 : AV) (x11 : AV) (σ : St) : Prop := aw P (.loop (.keep 6 [0, 3, 9, 10, 11] f_wire_Join_c4)) (blockP 0 (seqP (aw P f_wire_Join_c15) (retW f_wire_Join K))) (frL 6 [(0, x0), (3, x3), (9, x9), (10, x10), (11, x11)]) σ
def b_wire_Join_1 (P : Program) (K : AV → St → Prop) (N1 : AV → AV → AV → AV → AV → St → Prop) (x0 : AV) (x3 : AV) (x9 : AV) (x10 : AV) (x11 : AV) (σ : St) : Prop := aw P f_wire_Join_c4 (loopP (fun fr σ => N1 (fr.at 0) (fr.at 3) (fr.at 9) (fr.at 10) (fr.at 11) σ) (blockP 0 (seqP (aw P f_wire_Join_c15) (retW f_wire_Join K)))) (frL 6 [(0, x0), (3, x3), (9, x9), (10, x10), (11, x11)]) σ
def l_wire_Join_2 (P : Program) (K : AV → St → Prop) (x6 : AV) (x22 : AV) (x23 : AV) (x24 : AV) (σ : St) : Prop := aw P (.loop (.keep 6 [6, 22, 23, 24] f_wire_Join_c10)) (blockP 2 (seqP (aw P f_wire_Join_c13) (retW f_wire_Join K))) (frL 6 [(6, x6), (22, x22), (23, x23), (24, x24)]) σ
def b_wire_Join_2 (P : Program) (K : AV → St → Prop) (N1 : AV → AV → AV → AV → St → Prop) (x6 : AV) (x22 : AV) (x23 : AV) (x24 : AV) (σ : St) : Prop := aw P f_wire_Join_c10 (loopP (fun fr σ => N1 (fr.at 6) (fr.at 22) (fr.at 23) (fr.at 24) σ) (blockP 2 (seqP (aw P f_wire_Join_c13) (retW f_wire_Join K)))) (frL 6 [(6, x6), (22, x22), (23, x23), (24, x24)]) σ
theorem b_wire_Join_2_eq {P : Program} {K : AV → St → Prop} {N1 : AV → AV → AV → AV → St → Prop} {x6 : AV} {x22 : AV} {x23 : AV} {x24 : AV} {σ : St} : b_wire_Join_2 P K N1 x6 x22 x23 x24 σ = (
valW (aBin .lss .num x24 x23) fun v10 =>
condW v10 (
valW (iaddrV 1 x22 x24) fun v11 =>
valW (load1V σ v11) fun v12 =>
optW (aApp false 1 1 σ x6 v12) fun v13 s2 =>
valW (aBin .add .num x24 (.int .i64 1)) fun v14 =>
N1 v13 x22 x23 v14 s2) (
K x6 σ)) := by kernel_rfl
theorem l_wire_Join_2_of {P : Program} {K : AV → St → Prop} {x6 : AV} {x22 : AV} {x23 : AV} {x24 : AV} {σ : St} (I : Nat → AV → AV → AV → AV → St → Prop) (m : Nat) (h0 : I m x6 x22 x23 x24 σ) (hs : ∀ m x6 x22 x23 x24 σ, I m x6 x22 x23 x24 σ → b_wire_Join_2 P K (fun x6 x22 x23 x24 σ => ∃ m', m' < m ∧ I m' x6 x22 x23 x24 σ) x6 x22 x23 x24 σ) : l_wire_Join_2 P K x6 x22 x23 x24 σ :=
  loop_intro (fun m fr σ => I m (fr.at 6) (fr.at 22) (fr.at 23) (fr.at 24) σ) m h0 (fun m fr σ h => hs m (fr.at 6) (fr.at 22) (fr.at 23) (fr.at 24) σ h)
theorem b_wire_Join_1_eq {P : Program} {K : AV → St → Prop} {N1 : AV → AV → AV → AV → AV → St → Prop} {x0 : AV} {x3 : AV} {x9 : AV} {x10 : AV} {x11 : AV} {σ : St} : b_wire_Join_1 P K N1 x0 x3 x9 x10 x11 σ = (
valW (aBin .lss .num x11 x10) fun v2 =>
condW v2 (
valW (iaddrV 1 x9 x11) fun v3 =>
valW (load1V σ v3) fun v4 =>
valW (lenV .slice σ v4) fun v5 =>
valW (aBin .add .num x3 v5) fun v6 =>
valW (aBin .add .num x11 (.int .i64 1)) fun v7 =>
N1 x0 v6 x9 x10 v7 σ) (
optW (mkslS 1 1 [(.int .u8 0)] σ (.int .i64 0) x3) fun v8 s1 =>
valW (lenV .slice s1 x0) fun v9 =>
l_wire_Join_2 P K v8 x0 v9 (.int .i64 0) s1)) := by kernel_rfl
theorem l_wire_Join_1_of {P : Program} {K : AV → St → Prop} {x0 : AV} {x3 : AV} {x9 : AV} {x10 : AV} {x11 : AV} {σ : St} (I : Nat → AV → AV → AV → AV → AV → St → Prop) (m : Nat) (h0 : I m x0 x3 x9 x10 x11 σ) (hs : ∀ m x0 x3 x9 x10 x11 σ, I m x0 x3 x9 x10 x11 σ → b_wire_Join_1 P K (fun x0 x3 x9 x10 x11 σ => ∃ m', m' < m ∧ I m' x0 x3 x9 x10 x11 σ) x0 x3 x9 x10 x11 σ) : l_wire_Join_1 P K x0 x3 x9 x10 x11 σ :=
  loop_intro (fun m fr σ => I m (fr.at 0) (fr.at 3) (fr.at 9) (fr.at 10) (fr.at 11) σ) m h0 (fun m fr σ h => hs m (fr.at 0) (fr.at 3) (fr.at 9) (fr.at 10) (fr.at 11) σ h)
theorem w_wire_Join_eq {P : Program} {K : AV → St → Prop} {a0 : AV} {σ : St} : fnW P f_wire_Join [a0] σ K = (
valW (lenV .slice σ a0) fun v1 =>
l_wire_Join_1 P K a0 (.int .i64 0) a0 v1 (.int .i64 0) σ) := by kernel_rfl
theorem r_wire_Join {P : Program} (H : Has P tab) {a0 : AV} {σ : St} {K : AV → St → Prop} (h : fnW P f_wire_Join [a0] σ K) : Ret P N.wire_Join [a0] σ K := H.ret (n := 77) (F := f_wire_Join) (by kernel_rfl) (by kernel_rfl) h
/- wire_Uint -/
def l_wire_Uint_1 (P : Program) (K : AV → St → Prop) (x0 : AV) (x3 : AV) (σ : St) : Prop := aw P (.loop (.keep 5 [0, 3] f_wire_Uint_c3)) (blockP 0 (seqP (aw P f_wire_Uint_c5) (retW f_wire_Uint K))) (frL 5 [(0, x0), (3, x3)]) σ
def b_wire_Uint_1 (P : Program) (K : AV → St → Prop) (N1 : AV → AV → St → Prop) (x0 : AV) (x3 : AV) (σ : St) : Prop := aw P f_wire_Uint_c3 (loopP (fun fr σ => N1 (fr.at 0) (fr.at 3) σ) (blockP 0 (seqP (aw P f_wire_Uint_c5) (retW f_wire_Uint K)))) (frL 5 [(0, x0), (3, x3)]) σ
theorem b_wire_Uint_1_eq {P : Program} {K : AV → St → Prop} {N1 : AV → AV → St → Prop} {x0 : AV} {x3 : AV} {σ : St} : b_wire_Uint_1 P K N1 x0 x3 σ = (
valW (aBin .geq .num x0 (.int .u64 128)) fun v1 =>
condW v1 (
valW (aConv (.int .u8) σ x0) fun v2 =>
valW (aBin .or .num v2 (.int .u8 128)) fun v3 =>
bslW false 1 1 [(.int .u8 0)] σ [(0, 1, v3)] fun v4 s1 =>
optW (aApp false 1 1 s1 x3 v4) fun v5 s2 =>
valW (aBin .shr .num x0 (.int .u64 7)) fun v6 =>
N1 v6 v5 s2) (
valW (aConv (.int .u8) σ x0) fun v7 =>
bslW false 1 1 [(.int .u8 0)] σ [(0, 1, v7)] fun v8 s3 =>
optW (aApp false 1 1 s3 x3 v8) fun v9 s4 =>
K v9 s4)) := by kernel_rfl
theorem l_wire_Uint_1_of {P : Program} {K : AV → St → Prop} {x0 : AV} {x3 : AV} {σ : St} (I : Nat → AV → AV → St → Prop) (m : Nat) (h0 : I m x0 x3 σ) (hs : ∀ m x0 x3 σ, I m x0 x3 σ → b_wire_Uint_1 P K (fun x0 x3 σ => ∃ m', m' < m ∧ I m' x0 x3 σ) x0 x3 σ) : l_wire_Uint_1 P K x0 x3 σ :=
  loop_intro (fun m fr σ => I m (fr.at 0) (fr.at 3) σ) m h0 (fun m fr σ h => hs m (fr.at 0) (fr.at 3) σ h)
theorem w_wire_Uint_eq {P : Program} {K : AV → St → Prop} {a0 : AV} {σ : St} : fnW P f_wire_Uint [a0] σ K = (
l_wire_Uint_1 P K a0 .nils σ) := by kernel_rfl
theorem r_wire_Uint {P : Program} (H : Has P tab) {a0 : AV} {σ : St} {K : AV → St → Prop} (h : fnW P f_wire_Uint [a0] σ K) : Ret P N.wire_Uint [a0] σ K := H.ret (n := 78) (F := f_wire_Uint) (by kernel_rfl) (by kernel_rfl) h
/- offsets_key -/
theorem w_offsets_key_eq {P : Program} {K : AV → St → Prop} {a0 : AV} {σ : St} : fnW P f_offsets_key [a0] σ K = (
valW (aBin .quo .num a0 (.int .i64 100)) fun v1 =>
valW (aBin .add .num (.int .i64 48) v1) fun v2 =>
valW (aConv (.int .u8) σ v2) fun v3 =>
valW (aBin .quo .num a0 (.int .i64 10)) fun v4 =>
valW (aBin .rem .num v4 (.int .i64 10)) fun v5 =>
valW (aBin .add .num (.int .i64 48) v5) fun v6 =>
valW (aConv (.int .u8) σ v6) fun v7 =>
valW (aBin .rem .num a0 (.int .i64 10)) fun v8 =>
valW (aBin .add .num (.int .i64 48) v8) fun v9 =>
valW (aConv (.int .u8) σ v9) fun v10 =>
bslW false 1 3 [(.int .u8 0)] σ [(0, 1, v3), (1, 1, v7), (2, 1, v10)] fun v11 s1 =>
valW (aConv .toStr s1 v11) fun v12 =>
valW (aBin .add .str (.str [111]) v12) fun v13 =>
K v13 s1) := by kernel_rfl
theorem r_offsets_key {P : Program} (H : Has P tab) {a0 : AV} {σ : St} {K : AV → St → Prop} (h : fnW P f_offsets_key [a0] σ K) : Ret P N.offsets_key [a0] σ K := H.ret (n := 79) (F := f_offsets_key) (by kernel_rfl) (by kernel_rfl) h
/- towpathref01_Uint -/
theorem w_towpathref01_Uint_eq {P : Program} {K : AV → St → Prop} {a0 : AV} {σ : St} : fnW P f_towpathref01_Uint [a0] σ K = (
valW (aBin .lss .num a0 (.int .u64 128)) fun v1 =>
condW v1 (
valW (aConv (.int .u8) σ a0) fun v2 =>
bslW false 1 1 [(.int .u8 0)] σ [(0, 1, v2)] fun v3 s1 =>
K v3 s1) (
valW (aBin .rem .num a0 (.int .u64 128)) fun v4 =>
valW (aBin .add .num v4 (.int .u64 128)) fun v5 =>
valW (aConv (.int .u8) σ v5) fun v6 =>
bslW false 1 1 [(.int .u8 0)] σ [(0, 1, v6)] fun v7 s2 =>
valW (aBin .quo .num a0 (.int .u64 128)) fun v8 =>
Ret P N.towpathref01_Uint [v8] s2 fun v9 s3 =>
optW (aApp false 1 1 s3 v7 v9) fun v10 s4 =>
K v10 s4)) := by kernel_rfl
theorem r_towpathref01_Uint {P : Program} (H : Has P tab) {a0 : AV} {σ : St} {K : AV → St → Prop} (h : fnW P f_towpathref01_Uint [a0] σ K) : Ret P N.towpathref01_Uint [a0] σ K := H.ret (n := 80) (F := f_towpathref01_Uint) (by kernel_rfl) (by kernel_rfl) h
/- towpathref14_digits -/
theorem w_towpathref14_digits_eq {P : Program} {K : AV → St → Prop} {a0 : AV} {σ : St} : fnW P f_towpathref14_digits [a0] σ K = (
valW (aBin .quo .num a0 (.int .i64 100)) fun v1 =>
valW (aBin .quo .num a0 (.int .i64 100)) fun v2 =>
valW (aBin .add .num v2 (.int .i64 1)) fun v3 =>
valW (sslcV (.str [48, 49, 50, 51, 52, 53, 54, 55, 56, 57]) (some v1) (some v3)) fun v4 =>
valW (aBin .quo .num a0 (.int .i64 10)) fun v5 =>
valW (aBin .rem .num v5 (.int .i64 10)) fun v6 =>
valW (aBin .quo .num a0 (.int .i64 10)) fun v7 =>
valW (aBin .rem .num v7 (.int .i64 10)) fun v8 =>
valW (aBin .add .num v8 (.int .i64 1)) fun v9 =>
valW (sslcV (.str [48, 49, 50, 51, 52, 53, 54, 55, 56, 57]) (some v6) (some v9)) fun v10 =>
valW (aBin .add .str v4 v10) fun v11 =>
valW (aBin .rem .num a0 (.int .i64 10)) fun v12 =>
valW (aBin .rem .num a0 (.int .i64 10)) fun v13 =>
valW (aBin .add .num v13 (.int .i64 1)) fun v14 =>
valW (sslcV (.str [48, 49, 50, 51, 52, 53, 54, 55, 56, 57]) (some v12) (some v14)) fun v15 =>
valW (aBin .add .str v11 v15) fun v16 =>
(True) ∧
K v16 σ) := by kernel_rfl
theorem r_towpathref14_digits {P : Program} (H : Has P tab) {a0 : AV} {σ : St} {K : AV → St → Prop} (h : fnW P f_towpathref14_digits [a0] σ K) : Ret P N.towpathref14_digits [a0] σ K := H.ret (n := 81) (F := f_towpathref14_digits) (by kernel_rfl) (by kernel_rfl) h
/- wire_NewReader -/
theorem w_wire_NewReader_eq {P : Program} {K : AV → St → Prop} {a0 : AV} {σ : St} : fnW P f_wire_NewReader [a0] σ K = (
Ret P N.bytes_Clone [a0] σ fun v1 s1 =>
csW (fillV [.nils, (.int .i64 0), (.int .i64 0)] [(0, 1, v1)]) fun c2 =>
csW (fillV [.nils, (.int .i64 0), (.int .i64 0)] [(0, 3, (.agg c2))]) fun c3 =>
csW (AV.cellsO (.agg c3)) fun c4 => newW s1 (.cells c4) fun v5 s2 =>
K v5 s2) := by kernel_rfl
theorem r_wire_NewReader {P : Program} (H : Has P tab) {a0 : AV} {σ : St} {K : AV → St → Prop} (h : fnW P f_wire_NewReader [a0] σ K) : Ret P N.wire_NewReader [a0] σ K := H.ret (n := 82) (F := f_wire_NewReader) (by kernel_rfl) (by kernel_rfl) h
/- wire_Reader_Uint -/
theorem w_wire_Reader_Uint_eq {P : Program} {K : AV → St → Prop} {a0 : AV} {σ : St} : fnW P f_wire_Reader_Uint [a0] σ K = (
Ret P N.wire_Reader_good [a0] σ fun v1 s1 =>
valW (aUn .not v1) fun v2 =>
condW v2 (
K (.int .u64 0) s1) (
valW (nilckV a0) fun v3 =>
valW (faddrV 0 v3) fun v4 =>
Ret P N.wire_place_uint [v4] s1 fun v5 s2 =>
K v5 s2)) := by kernel_rfl
theorem r_wire_Reader_Uint {P : Program} (H : Has P tab) {a0 : AV} {σ : St} {K : AV → St → Prop} (h : fnW P f_wire_Reader_Uint [a0] σ K) : Ret P N.wire_Reader_Uint [a0] σ K := H.ret (n := 83) (F := f_wire_Reader_Uint) (by kernel_rfl) (by kernel_rfl) h
/- wire_Reader_End -/
def j_wire_Reader_End_1 (P : Program) (K : AV → St → Prop) (x0 : AV) (σ : St) : Prop := aw P f_wire_Reader_End_c4 (retW f_wire_Reader_End K) (frL 5 [(0, x0)]) σ
theorem j_wire_Reader_End_1_eq {P : Program} {K : AV → St → Prop} {x0 : AV} {σ : St} : j_wire_Reader_End_1 P K x0 σ = (
valW (nilckV x0) fun v2 =>
valW (faddrV 0 v2) fun v3 =>
valW (faddrV 2 v3) fun v4 =>
valW (load1V σ v4) fun v5 =>
K v5 σ) := by kernel_rfl
theorem w_wire_Reader_End_eq {P : Program} {K : AV → St → Prop} {a0 : AV} {σ : St} : fnW P f_wire_Reader_End [a0] σ K = (
valW (aBin .eql .ptr a0 .nilp) fun v1 =>
condW v1 (
K (.int .i64 1) σ) (
valW (nilckV a0) fun v6 =>
valW (faddrV 0 v6) fun v7 =>
Ret P N.wire_place_left [v7] σ fun v8 s1 =>
valW (aBin .gtr .num v8 (.int .i64 0)) fun v9 =>
condW v9 (
valW (nilckV a0) fun v10 =>
valW (faddrV 0 v10) fun v11 =>
Ret P N.wire_place_fail [v11, (.int .i64 6)] s1 fun v12 s2 =>
j_wire_Reader_End_1 P K a0 s2) (
j_wire_Reader_End_1 P K a0 s1))) := by kernel_rfl
theorem r_wire_Reader_End {P : Program} (H : Has P tab) {a0 : AV} {σ : St} {K : AV → St → Prop} (h : fnW P f_wire_Reader_End [a0] σ K) : Ret P N.wire_Reader_End [a0] σ K := H.ret (n := 84) (F := f_wire_Reader_End) (by kernel_rfl) (by kernel_rfl) h
/- towpathref01_Reader_Uint -/
theorem w_towpathref01_Reader_Uint_eq {P : Program} {K : AV → St → Prop} {a0 : AV} {σ : St} : fnW P f_towpathref01_Reader_Uint [a0] σ K = (
valW (nilckV a0) fun v1 =>
valW (faddrV 2 v1) fun v2 =>
valW (load1V σ v2) fun v3 =>
valW (aBin .neq .num v3 (.int .i64 0)) fun v4 =>
condW v4 (
K (.int .u64 0) σ) (
valW (nilckV a0) fun v5 =>
valW (faddrV 0 v5) fun v6 =>
valW (load1V σ v6) fun v7 =>
valW (nilckV a0) fun v8 =>
valW (faddrV 1 v8) fun v9 =>
valW (load1V σ v9) fun v10 =>
valW (slcV 1 v7 (some v10) .none .none) fun v11 =>
Ret P N.towpathref01_number [v11] σ fun v12 s1 =>
valW (extV v12 0) fun v13 =>
valW (extV v12 1) fun v14 =>
(True) ∧
valW (aBin .eql .num v14 (.int .i64 0)) fun v15 =>
condW v15 (
Ret P N.towpathref01_Reader_fail [a0, (.int .i64 6)] s1 fun v16 s2 =>
K (.int .u64 0) s2) (
valW (nilckV a0) fun v17 =>
valW (faddrV 1 v17) fun v18 =>
valW (load1V s1 v18) fun v19 =>
valW (aBin .add .num v19 v14) fun v20 =>
valW (nilckV a0) fun v21 =>
valW (faddrV 1 v21) fun v22 =>
stW (storeS 1 s1 v22 v20) fun s3 =>
K v13 s3))) := by kernel_rfl
theorem r_towpathref01_Reader_Uint {P : Program} (H : Has P tab) {a0 : AV} {σ : St} {K : AV → St → Prop} (h : fnW P f_towpathref01_Reader_Uint [a0] σ K) : Ret P N.towpathref01_Reader_Uint [a0] σ K := H.ret (n := 85) (F := f_towpathref01_Reader_Uint) (by kernel_rfl) (by kernel_rfl) h
/- bytes_Clone -/
theorem w_bytes_Clone_eq {P : Program} {K : AV → St → Prop} {a0 : AV} {σ : St} : fnW P f_bytes_Clone [a0] σ K = (
valW (aBin .eql .slice a0 .nils) fun v1 =>
condW v1 (
K .nils σ) (
bslW false 1 0 [(.int .u8 0)] σ [] fun v2 s1 =>
optW (aApp false 1 1 s1 v2 a0) fun v3 s2 =>
K v3 s2)) := by kernel_rfl
theorem r_bytes_Clone {P : Program} (H : Has P tab) {a0 : AV} {σ : St} {K : AV → St → Prop} (h : fnW P f_bytes_Clone [a0] σ K) : Ret P N.bytes_Clone [a0] σ K := H.ret (n := 165) (F := f_bytes_Clone) (by kernel_rfl) (by kernel_rfl) h
/- wire_Reader_good -/
theorem w_wire_Reader_good_eq {P : Program} {K : AV → St → Prop} {a0 : AV} {σ : St} : fnW P f_wire_Reader_good [a0] σ K = (
valW (aBin .neq .ptr a0 .nilp) fun v1 =>
guardW v1 true (fun K0 => K0 a0 σ) σ fun v2 s1 =>
guardW v1 true (fun K0 => valW (nilckV v2) fun v4 =>
K0 v4 s1) s1 fun v3 s2 =>
guardW v1 true (fun K0 => valW (faddrV 0 v3) fun v6 =>
K0 v6 s2) s2 fun v5 s3 =>
guardW v1 true (fun K0 => valW (faddrV 2 v5) fun v8 =>
K0 v8 s3) s3 fun v7 s4 =>
guardW v1 true (fun K0 => valW (load1V s4 v7) fun v10 =>
K0 v10 s4) s4 fun v9 s5 =>
guardW v1 true (fun K0 => valW (aBin .eql .num v9 (.int .i64 0)) fun v12 =>
K0 v12 s5) s5 fun v11 s6 =>
valW (pickV v1 v11 (.bool false)) fun v13 =>
K v13 s6) := by kernel_rfl
theorem r_wire_Reader_good {P : Program} (H : Has P tab) {a0 : AV} {σ : St} {K : AV → St → Prop} (h : fnW P f_wire_Reader_good [a0] σ K) : Ret P N.wire_Reader_good [a0] σ K := H.ret (n := 166) (F := f_wire_Reader_good) (by kernel_rfl) (by kernel_rfl) h
/- wire_place_uint -/
def l_wire_place_uint_1 (P : Program) (K : AV → St → Prop) (x0 : AV) (x3 : AV) (x4 : AV) (σ : St) : Prop := aw P (.loop (.keep 6 [0, 3, 4] f_wire_place_uint_c15)) (blockP 0 (seqP (aw P f_wire_place_uint_c19) (retW f_wire_place_uint K))) (frL 6 [(0, x0), (3, x3), (4, x4)]) σ
def b_wire_place_uint_1 (P : Program) (K : AV → St → Prop) (N1 : AV → AV → AV → St → Prop) (x0 : AV) (x3 : AV) (x4 : AV) (σ : St) : Prop := aw P f_wire_place_uint_c15 (loopP (fun fr σ => N1 (fr.at 0) (fr.at 3) (fr.at 4) σ) (blockP 0 (seqP (aw P f_wire_place_uint_c19) (retW f_wire_place_uint K)))) (frL 6 [(0, x0), (3, x3), (4, x4)]) σ
theorem b_wire_place_uint_1_eq {P : Program} {K : AV → St → Prop} {N1 : AV → AV → AV → St → Prop} {x0 : AV} {x3 : AV} {x4 : AV} {σ : St} : b_wire_place_uint_1 P K N1 x0 x3 x4 σ = (
valW (aBin .lss .num x4 (.int .i64 10)) fun v1 =>
condW v1 (
Ret P N.wire_place_left [x0] σ fun v2 s1 =>
valW (aBin .geq .num x4 v2) fun v3 =>
condW v3 (
Ret P N.wire_place_fail [x0, (.int .i64 6)] s1 fun v4 s2 =>
K (.int .u64 0) s2) (
valW (nilckV x0) fun v5 =>
valW (faddrV 0 v5) fun v6 =>
valW (load1V s1 v6) fun v7 =>
valW (nilckV x0) fun v8 =>
valW (faddrV 1 v8) fun v9 =>
valW (load1V s1 v9) fun v10 =>
valW (aBin .add .num v10 x4) fun v11 =>
valW (iaddrV 1 v7 v11) fun v12 =>
valW (load1V s1 v12) fun v13 =>
(True) ∧
valW (aBin .eql .num x4 (.int .i64 9)) fun v14 =>
guardW v14 true (fun K0 => K0 v13 s1) s1 fun v15 s3 =>
guardW v14 true (fun K0 => valW (aBin .gtr .num v15 (.int .u8 1)) fun v17 =>
K0 v17 s3) s3 fun v16 s4 =>
valW (pickV v14 v16 (.bool false)) fun v18 =>
condW v18 (
Ret P N.wire_place_fail [x0, (.int .i64 6)] s4 fun v19 s5 =>
K (.int .u64 0) s5) (
valW (aBin .and .num v13 (.int .u8 127)) fun v20 =>
valW (aConv (.int .u64) s4 v20) fun v21 =>
valW (aBin .mul .num (.int .i64 7) x4) fun v22 =>
valW (aBin .shl .num v21 v22) fun v23 =>
valW (aBin .or .num x3 v23) fun v24 =>
valW (aBin .geq .num v13 (.int .u8 128)) fun v25 =>
condW v25 (
valW (aBin .add .num x4 (.int .i64 1)) fun v26 =>
N1 x0 v24 v26 s4) (
valW (aBin .eql .num v13 (.int .u8 0)) fun v27 =>
guardW v27 true (fun K0 => K0 x4 s4) s4 fun v28 s6 =>
guardW v27 true (fun K0 => valW (aBin .gtr .num v28 (.int .i64 0)) fun v30 =>
K0 v30 s6) s6 fun v29 s7 =>
valW (pickV v27 v29 (.bool false)) fun v31 =>
condW v31 (
Ret P N.wire_place_fail [x0, (.int .i64 6)] s7 fun v32 s8 =>
K (.int .u64 0) s8) (
valW (nilckV x0) fun v33 =>
valW (faddrV 1 v33) fun v34 =>
valW (load1V s7 v34) fun v35 =>
valW (aBin .add .num x4 (.int .i64 1)) fun v36 =>
valW (aBin .add .num v35 v36) fun v37 =>
valW (nilckV x0) fun v38 =>
valW (faddrV 1 v38) fun v39 =>
stW (storeS 1 s7 v39 v37) fun s9 =>
K v24 s9))))) (
Ret P N.wire_place_fail [x0, (.int .i64 6)] σ fun v40 s10 =>
K (.int .u64 0) s10)) := by kernel_rfl
theorem l_wire_place_uint_1_of {P : Program} {K : AV → St → Prop} {x0 : AV} {x3 : AV} {x4 : AV} {σ : St} (I : Nat → AV → AV → AV → St → Prop) (m : Nat) (h0 : I m x0 x3 x4 σ) (hs : ∀ m x0 x3 x4 σ, I m x0 x3 x4 σ → b_wire_place_uint_1 P K (fun x0 x3 x4 σ => ∃ m', m' < m ∧ I m' x0 x3 x4 σ) x0 x3 x4 σ) : l_wire_place_uint_1 P K x0 x3 x4 σ :=
  loop_intro (fun m fr σ => I m (fr.at 0) (fr.at 3) (fr.at 4) σ) m h0 (fun m fr σ h => hs m (fr.at 0) (fr.at 3) (fr.at 4) σ h)
theorem w_wire_place_uint_eq {P : Program} {K : AV → St → Prop} {a0 : AV} {σ : St} : fnW P f_wire_place_uint [a0] σ K = (
l_wire_place_uint_1 P K a0 (.int .u64 0) (.int .i64 0) σ) := by kernel_rfl
theorem r_wire_place_uint {P : Program} (H : Has P tab) {a0 : AV} {σ : St} {K : AV → St → Prop} (h : fnW P f_wire_place_uint [a0] σ K) : Ret P N.wire_place_uint [a0] σ K := H.ret (n := 167) (F := f_wire_place_uint) (by kernel_rfl) (by kernel_rfl) h
/- wire_place_left -/
theorem w_wire_place_left_eq {P : Program} {K : AV → St → Prop} {a0 : AV} {σ : St} : fnW P f_wire_place_left [a0] σ K = (
valW (nilckV a0) fun v1 =>
valW (faddrV 0 v1) fun v2 =>
valW (load1V σ v2) fun v3 =>
valW (lenV .slice σ v3) fun v4 =>
valW (nilckV a0) fun v5 =>
valW (faddrV 1 v5) fun v6 =>
valW (load1V σ v6) fun v7 =>
valW (aBin .sub .num v4 v7) fun v8 =>
(True) ∧
K v8 σ) := by kernel_rfl
theorem r_wire_place_left {P : Program} (H : Has P tab) {a0 : AV} {σ : St} {K : AV → St → Prop} (h : fnW P f_wire_place_left [a0] σ K) : Ret P N.wire_place_left [a0] σ K := H.ret (n := 168) (F := f_wire_place_left) (by kernel_rfl) (by kernel_rfl) h
/- wire_place_fail -/
theorem w_wire_place_fail_eq {P : Program} {K : AV → St → Prop} {a0 : AV} {a1 : AV} {σ : St} : fnW P f_wire_place_fail [a0, a1] σ K = (
valW (nilckV a0) fun v1 =>
valW (faddrV 2 v1) fun v2 =>
valW (load1V σ v2) fun v3 =>
valW (aBin .eql .num v3 (.int .i64 0)) fun v4 =>
condW v4 (
valW (nilckV a0) fun v5 =>
valW (faddrV 2 v5) fun v6 =>
stW (storeS 1 σ v6 a1) fun s1 =>
K (.tup []) s1) (
K (.tup []) σ)) := by kernel_rfl
theorem r_wire_place_fail {P : Program} (H : Has P tab) {a0 : AV} {a1 : AV} {σ : St} {K : AV → St → Prop} (h : fnW P f_wire_place_fail [a0, a1] σ K) : Ret P N.wire_place_fail [a0, a1] σ K := H.ret (n := 169) (F := f_wire_place_fail) (by kernel_rfl) (by kernel_rfl) h
/- towpathref01_number -/
def l_towpathref01_number_1 (P : Program) (K : AV → St → Prop) (x0 : AV) (x4 : AV) (σ : St) : Prop := aw P (.loop (.keep 7 [0, 4] f_towpathref01_number_c2)) (blockP 0 (seqP (aw P f_towpathref01_number_c17) (retW f_towpathref01_number K))) (frL 7 [(0, x0), (4, x4)]) σ
def b_towpathref01_number_1 (P : Program) (K : AV → St → Prop) (N1 : AV → AV → St → Prop) (x0 : AV) (x4 : AV) (σ : St) : Prop := aw P f_towpathref01_number_c2 (loopP (fun fr σ => N1 (fr.at 0) (fr.at 4) σ) (blockP 0 (seqP (aw P f_towpathref01_number_c17) (retW f_towpathref01_number K)))) (frL 7 [(0, x0), (4, x4)]) σ
def l_towpathref01_number_2 (P : Program) (K : AV → St → Prop) (x0 : AV) (x4 : AV) (x5 : AV) (x6 : AV) (σ : St) : Prop := aw P (.loop (.keep 7 [0, 4, 5, 6] f_towpathref01_number_c10)) (blockP 2 (seqP (aw P f_towpathref01_number_c13) (retW f_towpathref01_number K))) (frL 7 [(0, x0), (4, x4), (5, x5), (6, x6)]) σ
def b_towpathref01_number_2 (P : Program) (K : AV → St → Prop) (N1 : AV → AV → AV → AV → St → Prop) (x0 : AV) (x4 : AV) (x5 : AV) (x6 : AV) (σ : St) : Prop := aw P f_towpathref01_number_c10 (loopP (fun fr σ => N1 (fr.at 0) (fr.at 4) (fr.at 5) (fr.at 6) σ) (blockP 2 (seqP (aw P f_towpathref01_number_c13) (retW f_towpathref01_number K)))) (frL 7 [(0, x0), (4, x4), (5, x5), (6, x6)]) σ
theorem b_towpathref01_number_2_eq {P : Program} {K : AV → St → Prop} {N1 : AV → AV → AV → AV → St → Prop} {x0 : AV} {x4 : AV} {x5 : AV} {x6 : AV} {σ : St} : b_towpathref01_number_2 P K N1 x0 x4 x5 x6 σ = (
valW (aBin .geq .num x6 (.int .i64 0)) fun v48 =>
condW v48 (
valW (aBin .mul .num x5 (.int .u64 128)) fun v49 =>
valW (iaddrV 1 x0 x6) fun v50 =>
valW (load1V σ v50) fun v51 =>
valW (aBin .rem .num v51 (.int .u8 128)) fun v52 =>
valW (aConv (.int .u64) σ v52) fun v53 =>
valW (aBin .add .num v49 v53) fun v54 =>
valW (aBin .sub .num x6 (.int .i64 1)) fun v55 =>
N1 x0 x4 v54 v55 σ) (
valW (aBin .add .num x4 (.int .i64 1)) fun v56 =>
K (.tup [x5, v56]) σ)) := by kernel_rfl
theorem l_towpathref01_number_2_of {P : Program} {K : AV → St → Prop} {x0 : AV} {x4 : AV} {x5 : AV} {x6 : AV} {σ : St} (I : Nat → AV → AV → AV → AV → St → Prop) (m : Nat) (h0 : I m x0 x4 x5 x6 σ) (hs : ∀ m x0 x4 x5 x6 σ, I m x0 x4 x5 x6 σ → b_towpathref01_number_2 P K (fun x0 x4 x5 x6 σ => ∃ m', m' < m ∧ I m' x0 x4 x5 x6 σ) x0 x4 x5 x6 σ) : l_towpathref01_number_2 P K x0 x4 x5 x6 σ :=
  loop_intro (fun m fr σ => I m (fr.at 0) (fr.at 4) (fr.at 5) (fr.at 6) σ) m h0 (fun m fr σ h => hs m (fr.at 0) (fr.at 4) (fr.at 5) (fr.at 6) σ h)
theorem b_towpathref01_number_1_eq {P : Program} {K : AV → St → Prop} {N1 : AV → AV → St → Prop} {x0 : AV} {x4 : AV} {σ : St} : b_towpathref01_number_1 P K N1 x0 x4 σ = (
valW (lenV .slice σ x0) fun v1 =>
valW (aBin .lss .num x4 v1) fun v2 =>
guardW v2 true (fun K0 => K0 x4 σ) σ fun v3 s1 =>
guardW v2 true (fun K0 => valW (aBin .lss .num v3 (.int .i64 10)) fun v5 =>
K0 v5 s1) s1 fun v4 s2 =>
valW (pickV v2 v4 (.bool false)) fun v6 =>
guardW v6 true (fun K0 => K0 x0 s2) s2 fun v7 s3 =>
guardW v6 true (fun K0 => K0 x4 s3) s3 fun v8 s4 =>
guardW v6 true (fun K0 => valW (iaddrV 1 v7 v8) fun v10 =>
K0 v10 s4) s4 fun v9 s5 =>
guardW v6 true (fun K0 => valW (load1V s5 v9) fun v12 =>
K0 v12 s5) s5 fun v11 s6 =>
guardW v6 true (fun K0 => valW (aBin .geq .num v11 (.int .u8 128)) fun v14 =>
K0 v14 s6) s6 fun v13 s7 =>
valW (pickV v6 v13 (.bool false)) fun v15 =>
condW v15 (
valW (aBin .add .num x4 (.int .i64 1)) fun v16 =>
N1 x0 v16 s7) (
valW (lenV .slice s7 x0) fun v17 =>
valW (aBin .geq .num x4 v17) fun v18 =>
guardW v18 false (fun K0 => K0 x4 s7) s7 fun v19 s8 =>
guardW v18 false (fun K0 => valW (aBin .geq .num v19 (.int .i64 10)) fun v21 =>
K0 v21 s8) s8 fun v20 s9 =>
valW (pickV v18 (.bool true) v20) fun v22 =>
condW v22 (
K (.tup [(.int .u64 0), (.int .i64 0)]) s9) (
valW (aBin .gtr .num x4 (.int .i64 0)) fun v23 =>
guardW v23 true (fun K0 => K0 x0 s9) s9 fun v24 s10 =>
guardW v23 true (fun K0 => K0 x4 s10) s10 fun v25 s11 =>
guardW v23 true (fun K0 => valW (iaddrV 1 v24 v25) fun v27 =>
K0 v27 s11) s11 fun v26 s12 =>
guardW v23 true (fun K0 => valW (load1V s12 v26) fun v29 =>
K0 v29 s12) s12 fun v28 s13 =>
guardW v23 true (fun K0 => valW (aBin .eql .num v28 (.int .u8 0)) fun v31 =>
K0 v31 s13) s13 fun v30 s14 =>
valW (pickV v23 v30 (.bool false)) fun v32 =>
guardW v32 false (fun K0 => K0 x4 s14) s14 fun v33 s15 =>
guardW v32 false (fun K0 => valW (aBin .eql .num v33 (.int .i64 9)) fun v35 =>
K0 v35 s15) s15 fun v34 s16 =>
guardW v32 false (fun K0 => K0 v34 s16) s16 fun v36 s17 =>
guardW v36 true (fun K0 => K0 x0 s17) s17 fun v37 s18 =>
guardW v36 true (fun K0 => K0 x4 s18) s18 fun v38 s19 =>
guardW v36 true (fun K0 => valW (iaddrV 1 v37 v38) fun v40 =>
K0 v40 s19) s19 fun v39 s20 =>
guardW v36 true (fun K0 => valW (load1V s20 v39) fun v42 =>
K0 v42 s20) s20 fun v41 s21 =>
guardW v36 true (fun K0 => valW (aBin .gtr .num v41 (.int .u8 1)) fun v44 =>
K0 v44 s21) s21 fun v43 s22 =>
guardW v32 false (fun K0 => valW (pickV v36 v43 (.bool false)) fun v46 =>
K0 v46 s22) s22 fun v45 s23 =>
valW (pickV v32 (.bool true) v45) fun v47 =>
condW v47 (
K (.tup [(.int .u64 0), (.int .i64 0)]) s23) (
l_towpathref01_number_2 P K x0 x4 (.int .u64 0) x4 s23)))) := by kernel_rfl
theorem l_towpathref01_number_1_of {P : Program} {K : AV → St → Prop} {x0 : AV} {x4 : AV} {σ : St} (I : Nat → AV → AV → St → Prop) (m : Nat) (h0 : I m x0 x4 σ) (hs : ∀ m x0 x4 σ, I m x0 x4 σ → b_towpathref01_number_1 P K (fun x0 x4 σ => ∃ m', m' < m ∧ I m' x0 x4 σ) x0 x4 σ) : l_towpathref01_number_1 P K x0 x4 σ :=
  loop_intro (fun m fr σ => I m (fr.at 0) (fr.at 4) σ) m h0 (fun m fr σ h => hs m (fr.at 0) (fr.at 4) σ h)
theorem w_towpathref01_number_eq {P : Program} {K : AV → St → Prop} {a0 : AV} {σ : St} : fnW P f_towpathref01_number [a0] σ K = (
l_towpathref01_number_1 P K a0 (.int .i64 0) σ) := by kernel_rfl
theorem r_towpathref01_number {P : Program} (H : Has P tab) {a0 : AV} {σ : St} {K : AV → St → Prop} (h : fnW P f_towpathref01_number [a0] σ K) : Ret P N.towpathref01_number [a0] σ K := H.ret (n := 170) (F := f_towpathref01_number) (by kernel_rfl) (by kernel_rfl) h
/- towpathref01_Reader_fail -/
theorem w_towpathref01_Reader_fail_eq {P : Program} {K : AV → St → Prop} {a0 : AV} {a1 : AV} {σ : St} : fnW P f_towpathref01_Reader_fail [a0, a1] σ K = (
valW (nilckV a0) fun v1 =>
valW (faddrV 2 v1) fun v2 =>
valW (load1V σ v2) fun v3 =>
valW (aBin .eql .num v3 (.int .i64 0)) fun v4 =>
condW v4 (
valW (nilckV a0) fun v5 =>
valW (faddrV 2 v5) fun v6 =>
stW (storeS 1 σ v6 a1) fun s1 =>
K (.tup []) s1) (
K (.tup []) σ)) := by kernel_rfl
theorem r_towpathref01_Reader_fail {P : Program} (H : Has P tab) {a0 : AV} {a1 : AV} {σ : St} {K : AV → St → Prop} (h : fnW P f_towpathref01_Reader_fail [a0, a1] σ K) : Ret P N.towpathref01_Reader_fail [a0, a1] σ K := H.ret (n := 171) (F := f_towpathref01_Reader_fail) (by kernel_rfl) (by kernel_rfl) h
/- frame_More -/
def l_frame_More_1 (P : Program) (K : AV → St → Prop) (x5 : AV) (x12 : AV) (x13 : AV) (x14 : AV) (σ : St) : Prop := aw P (.loop (.keep 6 [5, 12, 13, 14] f_frame_More_c16)) (blockP 0 (seqP (aw P f_frame_More_c19) (retW f_frame_More K))) (frL 6 [(5, x5), (12, x12), (13, x13), (14, x14)]) σ
def b_frame_More_1 (P : Program) (K : AV → St → Prop) (N1 : AV → AV → AV → AV → St → Prop) (x5 : AV) (x12 : AV) (x13 : AV) (x14 : AV) (σ : St) : Prop := aw P f_frame_More_c16 (loopP (fun fr σ => N1 (fr.at 5) (fr.at 12) (fr.at 13) (fr.at 14) σ) (blockP 0 (seqP (aw P f_frame_More_c19) (retW f_frame_More K)))) (frL 6 [(5, x5), (12, x12), (13, x13), (14, x14)]) σ
def l_frame_More_2 (P : Program) (K : AV → St → Prop) (N1 : AV → AV → AV → AV → St → Prop) (x5 : AV) (x12 : AV) (x13 : AV) (x14 : AV) (x18 : AV) (x19 : AV) (x20 : AV) (σ : St) : Prop := aw P (.loop (.keep 6 [5, 12, 13, 14, 18, 19, 20] f_frame_More_c10)) (blockP 2 (blockP 1 (seqP (aw P f_frame_More_c13) (loopP (fun fr σ => N1 (fr.at 5) (fr.at 12) (fr.at 13) (fr.at 14) σ) (blockP 0 (seqP (aw P f_frame_More_c19) (retW f_frame_More K))))))) (frL 6 [(5, x5), (12, x12), (13, x13), (14, x14), (18, x18), (19, x19), (20, x20)]) σ
def b_frame_More_2 (P : Program) (K : AV → St → Prop) (N1 : AV → AV → AV → AV → St → Prop) (N2 : AV → AV → AV → AV → AV → AV → AV → St → Prop) (x5 : AV) (x12 : AV) (x13 : AV) (x14 : AV) (x18 : AV) (x19 : AV) (x20 : AV) (σ : St) : Prop := aw P f_frame_More_c10 (loopP (fun fr σ => N2 (fr.at 5) (fr.at 12) (fr.at 13) (fr.at 14) (fr.at 18) (fr.at 19) (fr.at 20) σ) (blockP 2 (blockP 1 (seqP (aw P f_frame_More_c13) (loopP (fun fr σ => N1 (fr.at 5) (fr.at 12) (fr.at 13) (fr.at 14) σ) (blockP 0 (seqP (aw P f_frame_More_c19) (retW f_frame_More K)))))))) (frL 6 [(5, x5), (12, x12), (13, x13), (14, x14), (18, x18), (19, x19), (20, x20)]) σ
def l_frame_More_3 (P : Program) (K : AV → St → Prop) (N1 : AV → AV → AV → AV → St → Prop) (N2 : AV → AV → AV → AV → AV → AV → AV → St → Prop) (x5 : AV) (x12 : AV) (x13 : AV) (x14 : AV) (x18 : AV) (x19 : AV) (x20 : AV) (x28 : AV) (σ : St) : Prop := aw P (.loop (.keep 6 [5, 12, 13, 14, 18, 19, 20, 28] f_frame_More_c3)) (blockP 4 (blockP 3 (seqP (aw P f_frame_More_c7) (loopP (fun fr σ => N2 (fr.at 5) (fr.at 12) (fr.at 13) (fr.at 14) (fr.at 18) (fr.at 19) (fr.at 20) σ) (blockP 2 (blockP 1 (seqP (aw P f_frame_More_c13) (loopP (fun fr σ => N1 (fr.at 5) (fr.at 12) (fr.at 13) (fr.at 14) σ) (blockP 0 (seqP (aw P f_frame_More_c19) (retW f_frame_More K))))))))))) (frL 6 [(5, x5), (12, x12), (13, x13), (14, x14), (18, x18), (19, x19), (20, x20), (28, x28)]) σ
def b_frame_More_3 (P : Program) (K : AV → St → Prop) (N1 : AV → AV → AV → AV → St → Prop) (N2 : AV → AV → AV → AV → AV → AV → AV → St → Prop) (N3 : AV → AV → AV → AV → AV → AV → AV → AV → St → Prop) (x5 : AV) (x12 : AV) (x13 : AV) (x14 : AV) (x18 : AV) (x19 : AV) (x20 : AV) (x28 : AV) (σ : St) : Prop := aw P f_frame_More_c3 (loopP (fun fr σ => N3 (fr.at 5) (fr.at 12) (fr.at 13) (fr.at 14) (fr.at 18) (fr.at 19) (fr.at 20) (fr.at 28) σ) (blockP 4 (blockP 3 (seqP (aw P f_frame_More_c7) (loopP (fun fr σ => N2 (fr.at 5) (fr.at 12) (fr.at 13) (fr.at 14) (fr.at 18) (fr.at 19) (fr.at 20) σ) (blockP 2 (blockP 1 (seqP (aw P f_frame_More_c13) (loopP (fun fr σ => N1 (fr.at 5) (fr.at 12) (fr.at 13) (fr.at 14) σ) (blockP 0 (seqP (aw P f_frame_More_c19) (retW f_frame_More K)))))))))))) (frL 6 [(5, x5), (12, x12), (13, x13), (14, x14), (18, x18), (19, x19), (20, x20), (28, x28)]) σ
theorem b_frame_More_3_eq {P : Program} {K : AV → St → Prop} {N1 : AV → AV → AV → AV → St → Prop} {N2 : AV → AV → AV → AV → AV → AV → AV → St → Prop} {N3 : AV → AV → AV → AV → AV → AV → AV → AV → St → Prop} {x5 : AV} {x12 : AV} {x13 : AV} {x14 : AV} {x18 : AV} {x19 : AV} {x20 : AV} {x28 : AV} {σ : St} : b_frame_More_3 P K N1 N2 N3 x5 x12 x13 x14 x18 x19 x20 x28 σ = (
valW (aBin .lss .num x28 (.int .i64 8)) fun v12 =>
condW v12 (
valW (aBin .shr .num x5 (.int .u64 1)) fun v13 =>
valW (aBin .and .num x5 (.int .u32 1)) fun v14 =>
valW (aUn .neg v14) fun v15 =>
valW (aBin .and .num (.int .u32 3988292384) v15) fun v16 =>
valW (aBin .xor .num v13 v16) fun v17 =>
valW (aBin .add .num x28 (.int .i64 1)) fun v18 =>
N3 v17 x12 x13 x14 x18 x19 x20 v18 σ) (
valW (aBin .add .num x20 (.int .i64 1)) fun v19 =>
N2 x5 x12 x13 x14 x18 x19 v19 σ)) := by kernel_rfl
theorem l_frame_More_3_of {P : Program} {K : AV → St → Prop} {N1 : AV → AV → AV → AV → St → Prop} {N2 : AV → AV → AV → AV → AV → AV → AV → St → Prop} {x5 : AV} {x12 : AV} {x13 : AV} {x14 : AV} {x18 : AV} {x19 : AV} {x20 : AV} {x28 : AV} {σ : St} (I : Nat → AV → AV → AV → AV → AV → AV → AV → AV → St → Prop) (m : Nat) (h0 : I m x5 x12 x13 x14 x18 x19 x20 x28 σ) (hs : ∀ m x5 x12 x13 x14 x18 x19 x20 x28 σ, I m x5 x12 x13 x14 x18 x19 x20 x28 σ → b_frame_More_3 P K N1 N2 (fun x5 x12 x13 x14 x18 x19 x20 x28 σ => ∃ m', m' < m ∧ I m' x5 x12 x13 x14 x18 x19 x20 x28 σ) x5 x12 x13 x14 x18 x19 x20 x28 σ) : l_frame_More_3 P K N1 N2 x5 x12 x13 x14 x18 x19 x20 x28 σ :=
  loop_intro (fun m fr σ => I m (fr.at 5) (fr.at 12) (fr.at 13) (fr.at 14) (fr.at 18) (fr.at 19) (fr.at 20) (fr.at 28) σ) m h0 (fun m fr σ h => hs m (fr.at 5) (fr.at 12) (fr.at 13) (fr.at 14) (fr.at 18) (fr.at 19) (fr.at 20) (fr.at 28) σ h)
theorem b_frame_More_2_eq {P : Program} {K : AV → St → Prop} {N1 : AV → AV → AV → AV → St → Prop} {N2 : AV → AV → AV → AV → AV → AV → AV → St → Prop} {x5 : AV} {x12 : AV} {x13 : AV} {x14 : AV} {x18 : AV} {x19 : AV} {x20 : AV} {σ : St} : b_frame_More_2 P K N1 N2 x5 x12 x13 x14 x18 x19 x20 σ = (
valW (aBin .lss .num x20 x19) fun v7 =>
condW v7 (
valW (iaddrV 1 x18 x20) fun v8 =>
valW (load1V σ v8) fun v9 =>
valW (aConv (.int .u32) σ v9) fun v10 =>
valW (aBin .xor .num x5 v10) fun v11 =>
l_frame_More_3 P K N1 N2 v11 x12 x13 x14 x18 x19 x20 (.int .i64 0) σ) (
valW (aBin .add .num x14 (.int .i64 1)) fun v20 =>
N1 x5 x12 x13 v20 σ)) := by kernel_rfl
theorem l_frame_More_2_of {P : Program} {K : AV → St → Prop} {N1 : AV → AV → AV → AV → St → Prop} {x5 : AV} {x12 : AV} {x13 : AV} {x14 : AV} {x18 : AV} {x19 : AV} {x20 : AV} {σ : St} (I : Nat → AV → AV → AV → AV → AV → AV → AV → St → Prop) (m : Nat) (h0 : I m x5 x12 x13 x14 x18 x19 x20 σ) (hs : ∀ m x5 x12 x13 x14 x18 x19 x20 σ, I m x5 x12 x13 x14 x18 x19 x20 σ → b_frame_More_2 P K N1 (fun x5 x12 x13 x14 x18 x19 x20 σ => ∃ m', m' < m ∧ I m' x5 x12 x13 x14 x18 x19 x20 σ) x5 x12 x13 x14 x18 x19 x20 σ) : l_frame_More_2 P K N1 x5 x12 x13 x14 x18 x19 x20 σ :=
  loop_intro (fun m fr σ => I m (fr.at 5) (fr.at 12) (fr.at 13) (fr.at 14) (fr.at 18) (fr.at 19) (fr.at 20) σ) m h0 (fun m fr σ h => hs m (fr.at 5) (fr.at 12) (fr.at 13) (fr.at 14) (fr.at 18) (fr.at 19) (fr.at 20) σ h)
theorem b_frame_More_1_eq {P : Program} {K : AV → St → Prop} {N1 : AV → AV → AV → AV → St → Prop} {x5 : AV} {x12 : AV} {x13 : AV} {x14 : AV} {σ : St} : b_frame_More_1 P K N1 x5 x12 x13 x14 σ = (
valW (aBin .lss .num x14 x13) fun v3 =>
condW v3 (
valW (iaddrV 1 x12 x14) fun v4 =>
valW (load1V σ v4) fun v5 =>
valW (lenV .slice σ v5) fun v6 =>
l_frame_More_2 P K N1 x5 x12 x13 x14 v5 v6 (.int .i64 0) σ) (
valW (aUn .xor x5) fun v21 =>
K v21 σ)) := by kernel_rfl
theorem l_frame_More_1_of {P : Program} {K : AV → St → Prop} {x5 : AV} {x12 : AV} {x13 : AV} {x14 : AV} {σ : St} (I : Nat → AV → AV → AV → AV → St → Prop) (m : Nat) (h0 : I m x5 x12 x13 x14 σ) (hs : ∀ m x5 x12 x13 x14 σ, I m x5 x12 x13 x14 σ → b_frame_More_1 P K (fun x5 x12 x13 x14 σ => ∃ m', m' < m ∧ I m' x5 x12 x13 x14 σ) x5 x12 x13 x14 σ) : l_frame_More_1 P K x5 x12 x13 x14 σ :=
  loop_intro (fun m fr σ => I m (fr.at 5) (fr.at 12) (fr.at 13) (fr.at 14) σ) m h0 (fun m fr σ h => hs m (fr.at 5) (fr.at 12) (fr.at 13) (fr.at 14) σ h)
theorem w_frame_More_eq {P : Program} {K : AV → St → Prop} {a0 : AV} {a1 : AV} {σ : St} : fnW P f_frame_More [a0, a1] σ K = (
valW (aUn .xor a0) fun v1 =>
valW (lenV .slice σ a1) fun v2 =>
l_frame_More_1 P K v1 a1 v2 (.int .i64 0) σ) := by kernel_rfl
theorem r_frame_More {P : Program} (H : Has P tab) {a0 : AV} {a1 : AV} {σ : St} {K : AV → St → Prop} (h : fnW P f_frame_More [a0, a1] σ K) : Ret P N.frame_More [a0, a1] σ K := H.ret (n := 323) (F := f_frame_More) (by kernel_rfl) (by kernel_rfl) h
end Go.AM.P

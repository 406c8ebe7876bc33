/- OffsetsRecords: a commit is one record, byte for byte as the second reading has it, and is read back as it was; a record, cut, is read alike by both. No conditions. -/
import Derived.Test.YthbkgikjaiaigaaGreatRows
import Derived.Test.YthbkgikjaiaigaaGreatChecked
import Derived.WalkKit
import Derived.ProofKit
import Derived.OpenShut
import Derived.ShutString
import Derived.ChangeOld
import Derived.Below
import Derived.SizedLaws
import Derived.Carry
import Derived.Test.YthbkgikjaiaigaaGreatY4R
import Derived.Test.YthbkgikjaiaigaaGreatY4J
import Derived.Test.YthbkgikjaiaigaaGreatAmGf
namespace Go.Proofs.YthbkgikjaiaigaaGreat.offsetsRecords
set_option linter.all false
open Go.ChangeShapes Go.WideShapes Go.ChangeAt Go.RowKit
open Go.ChangeMaps (open_string shut_string)
open Go.AM

theorem cell_int {P : Program} {w : World} {r : Reach} {b : Nat} {t : TypeId} {k : IntKind} {v : Value} (ht : P.underlying t = some (.int k)) (h : Cell.okWide P w r b t v) : ∃ n, v = .int k n := by
  unfold Cell.okWide at h
  rw [ht] at h
  simp only [Cell.ok, ht] at h
  cases v <;> simp_all
theorem cell_str {P : Program} {w : World} {r : Reach} {b : Nat} {t : TypeId} {v : Value} (ht : P.underlying t = some .string) (h : Cell.okWide P w r b t v) : ∃ n, v = .string n := by
  unfold Cell.okWide at h
  rw [ht] at h
  simp only [Cell.ok, ht] at h
  cases v <;> simp_all
theorem cell_bool {P : Program} {w : World} {r : Reach} {b : Nat} {t : TypeId} {v : Value} (ht : P.underlying t = some .bool) (h : Cell.okWide P w r b t v) : ∃ n, v = .bool n := by
  unfold Cell.okWide at h
  rw [ht] at h
  simp only [Cell.ok, ht] at h
  cases v <;> simp_all
theorem cells4 {P : Program} {w : World} {r : Reach} {b : Nat} {t t0 t1 t2 t3 : TypeId} {v : Value} {fs : Array Field} (ht : P.underlying t = some (.struct fs)) (hn : P.cellsOf t = 4) (hts : P.cellTypes P.depth t = some [t0, t1, t2, t3]) (h : Value.okWide P w r b t v) :
    ∃ x0 x1 x2 x3, v = .agg #[x0, x1, x2, x3] ∧ Cell.okWide P w r b t0 x0 ∧ Cell.okWide P w r b t1 x1 ∧ Cell.okWide P w r b t2 x2 ∧ Cell.okWide P w r b t3 x3 := by
  unfold Value.okWide at h
  rw [ht] at h
  obtain ⟨cs, rfl, hs, ts, h1, _, hc⟩ := h
  rw [hts] at h1
  cases h1
  rw [hn] at hs
  obtain ⟨l⟩ := cs
  match l, hs with
  | [x0, x1, x2, x3], _ =>
    refine ⟨x0, x1, x2, x3, rfl, ?_, ?_, ?_, ?_⟩
    · obtain ⟨u, hu, h⟩ := hc 0 x0 rfl; cases hu; exact h
    · obtain ⟨u, hu, h⟩ := hc 1 x1 rfl; cases hu; exact h
    · obtain ⟨u, hu, h⟩ := hc 2 x2 rfl; cases hu; exact h
    · obtain ⟨u, hu, h⟩ := hc 3 x3 rfl; cases hu; exact h
theorem types40 : Tryz.prog.cellTypes Tryz.prog.depth 40 = some [3, 2, 3, 3] := by kernel_rfl
theorem types42 : Tryz.prog.cellTypes Tryz.prog.depth 42 = some [9, 9, 4, 2] := by kernel_rfl
theorem bytes_lt (b : ByteArray) : ∀ c ∈ b.data.toList.map UInt8.toNat, c < 256 := by
  intro c hc
  obtain ⟨x, _, rfl⟩ := List.mem_map.1 hc
  exact x.toNat_lt
theorem own : ownKnob Tryz.prog.godebug = none := by kernel_rfl
theorem laidOut : laidOutB Tryz.prog = true := j2
set_option maxRecDepth 100000 in
theorem lifted (os : Os) (started : os.Started) (H : Type) (enc : TypeId × Value → H) :
    ReturnsInHanded {} Tryz.checked os 4 .any (Rows.offsetsRecordsSpec.pre6 enc Tryz.prog Tryz.f4 Rows.offsetsRecordsRow.domain false) (Rows.offsetsRecordsSpec.post enc Tryz.prog Tryz.f4 false true false false) := by
  refine returnsInHanded_of_change_sized (C := Tryz.checked) own started (by kernel_rfl) Tryz.func4
    (ChangeSpec.witness6 (enc := enc) (C := Tryz.checked) false ⟨#[], #[.agg #[.int .i64 0, .int .i64 0, .int .i64 0, .int .i64 0], .int .i64 0, .agg #[.string ⟨#[]⟩, .string ⟨#[]⟩, .bool false, .int .i64 0]], []⟩ 8 (by kernel_rfl) (by kernel_rfl) (by kernel_rfl) (by kernel_rfl)) ?_
  intro W base args ds gs before hval0 hW hcnd hsz0 _
  have hval : ∀ (j : Nat) t v, Tryz.f4.params[j]? = some t → args[j]? = some v → Value.okWide Tryz.prog W .any base t v := hval0
  have hW' := hW
  obtain ⟨p, q, hA0, hV, rfl, hfz, hnd⟩ := hW
  have hA : DataW.TrodAll enc Tryz.prog W 0 (fun _ => true) true Tryz.f4.params.toList args.toList ds p := hA0
  rw [Tryz.params4] at hA hval
  obtain ⟨v0, vs0, d0, ds0, p0, q0, hargs, rfl, rfl, h0, r0⟩ := trodAll_cons hA
  obtain ⟨v1, vs1, d1, ds1, p1, q1, rfl, rfl, rfl, h1, r1⟩ := trodAll_cons r0
  obtain ⟨v2, vs2, d2, ds2, p2, q2, rfl, rfl, rfl, h2, r2⟩ := trodAll_cons r1
  obtain ⟨rfl, rfl, rfl⟩ := trodAll_nil r2
  obtain rfl : args = #[v0, v1, v2] := by cases args; simp_all
  obtain ⟨rfl, rfl⟩ := trodVars_none hV
  have k0 := h0
  have lt0 : ∀ x ∈ p0, x.block < W.heap.size := by obtain ⟨m, hm⟩ := k0; exact DataW.trod_lt m _ _ _ hm
  have k2 := h2
  have lt2 : ∀ x ∈ p2, x.block < W.heap.size := by obtain ⟨m, hm⟩ := k2; exact DataW.trod_lt m _ _ _ hm
  obtain ⟨a1, rfl, rfl, rfl, w1⟩ := open_int Tryz.underlying2 (hval 1 2 v1 rfl rfl) h1
  have o0 : Value.okWide Tryz.prog W .any base 40 v0 := hval 0 40 v0 rfl rfl
  have o2 : Value.okWide Tryz.prog W .any base 42 v2 := hval 2 42 v2 rfl rfl
  obtain ⟨x0, x1, x2, x3, rfl, y0, y1, y2, y3⟩ := cells4 Tryz.underlying40 (by kernel_rfl) types40 o0
  obtain ⟨z0, z1, z2, z3, rfl, u0, u1, u2, u3⟩ := cells4 Tryz.underlying42 (by kernel_rfl) types42 o2
  obtain ⟨p, rfl⟩ := cell_int (k := .i64) (by kernel_rfl) y0
  obtain ⟨o, rfl⟩ := cell_int (k := .i64) (by kernel_rfl) y1
  obtain ⟨m, rfl⟩ := cell_int (k := .i64) (by kernel_rfl) y2
  obtain ⟨g, rfl⟩ := cell_int (k := .i64) (by kernel_rfl) y3
  obtain ⟨key, rfl⟩ := cell_str (by kernel_rfl) u0
  obtain ⟨val, rfl⟩ := cell_str (by kernel_rfl) u1
  obtain ⟨gone, rfl⟩ := cell_bool (by kernel_rfl) u2
  obtain ⟨t2, rfl⟩ := cell_int (k := .i64) (by kernel_rfl) u3
  clear hA0 hval0 hsz0
  refine (closed_walk AM.P.calls_sound (AM.P.nil_true p o m g a1 (bytes_lt key) (bytes_lt val) gone t2) (vs := #[.agg #[.int .i64 p, .int .i64 o, .int .i64 m, .int .i64 g], .int .i64 a1, .agg #[.string key, .string val, .bool gone, .int .i64 t2]])
    (.cons _ _ _ _ _ (.agg _ _ (.cons _ _ _ _ _ (.int _ _) (fun _ => rfl) (.cons _ _ _ _ _ (.int _ _) (fun _ => rfl) (.cons _ _ _ _ _ (.int _ _) (fun _ => rfl) (.cons _ _ _ _ _ (.int _ _) (fun _ => rfl) (.nil _)))))) (by simp) (.cons _ _ _ _ _ (.int _ _) (by simp)
    (.cons _ _ _ _ _ (.agg _ _ (.cons _ _ _ _ _ (.str _ _ rfl) (fun _ => rfl) (.cons _ _ _ _ _ (.str _ _ rfl) (fun _ => rfl) (.cons _ _ _ _ _ (.bool _) (fun _ => rfl) (.cons _ _ _ _ _ (.int _ _) (fun _ => rfl) (.nil _)))))) (by simp) (.nil _)))) W).mono fun e W' ⟨he, bel⟩ => ?_
  subst he
  exact ⟨_, rfl, _, _, _, [], _, [], hW', trodAll_mk1 (shut_bool Tryz.underlying4 _), (trodAll_cons_mk (Below.trod laidOut (by kernel_rfl) (of_decide_eq_true (by kernel_rfl)) k0 bel lt0) (trodAll_cons_mk (shut_int Tryz.underlying2 w1) (trodAll_cons_mk (Below.trod laidOut (by kernel_rfl) (of_decide_eq_true (by kernel_rfl)) k2 bel lt2) trodAll_mk0))), rfl, bel.frame _, fun h => by cases h⟩
theorem over : Rows.offsetsRecordsRow.holds Tryz.pinned (OpenSpec.ofChange Rows.offsetsRecordsSpec) :=
  OpenClaim.holds_of_wide 4 Tryz.f4 rfl rfl rfl rfl rfl rfl rfl ⟨rfl, rfl, rfl, rfl, rfl⟩ rfl rfl rfl rfl rfl (by kernel_rfl) Tryz.func4 closed
    (of_decide_eq_true (by kernel_rfl)) (by unfold Func.isWrapper; first | (rw [if_pos (by decide +kernel)]; kernel_rfl) | (rw [if_neg (by decide +kernel)]; exact ⟨rfl, rfl⟩))
    (fun os started H enc _ => lifted os started H enc)
theorem proved : Rows.OffsetsRecordsSaid := over
end Go.Proofs.YthbkgikjaiaigaaGreat.offsetsRecords

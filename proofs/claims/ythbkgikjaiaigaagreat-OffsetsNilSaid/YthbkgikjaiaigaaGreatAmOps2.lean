import Derived.Test.YthbkgikjaiaigaaGreatAmOps
namespace Go.AM
set_option linter.all false
open Go.RowKit
variable {P : Program} {w0 : Base} {w : World} {G : Gh} {σ : St}

theorem add_lit (b o n : Nat) : (⟨b, o, none⟩ : Addr).add n = ⟨b, o + n, none⟩ := by unfold Addr.add; split <;> simp_all

theorem info_run {t : TypeId} {i : TypeInfo} (h : P.info? t = some i) : (typeInfo t).run P w = .ok i w := by simp [typeInfo, h]
theorem size_run {t : TypeId} {i : TypeInfo} (h : P.info? t = some i) : (sizeOf t).run P w = .ok i.size w := by simp [sizeOf, typeInfo, h]

theorem load1_ok (hW : W w0 G σ w) {t : TypeId} {d : TypeDesc} (hd : P.underlying t = some d) (hn : aggD d = false) {x r : AV} {v : Value} (hx : RelV G x v)
    (h : load1V σ x = some r) : ValOk w0 G σ r ((Instr.loadAt t v).run P w) := by
  have h : aLoad σ 1 x = some [r] := by unfold load1V at h; split at h <;> simp_all
  obtain ⟨a, vs, rfl, hR, hl, hc⟩ := aLoad_rel hW hx h
  match vs, hl with
  | [u], _ =>
    have h0 := hc 0 u (by simp)
    have e : a.add 0 = a := by simp [Addr.add]
    rw [e] at h0
    refine ValOk.pure (u := u) hW ?_ ?_
    · simp [Instr.loadAt, Instr.sureAddr, run_loadVar_one hd hn a u h0]
    · cases hR; assumption

theorem loadn_ok (hW : W w0 G σ w) {t : TypeId} {d : TypeDesc} {i : TypeInfo} (hd : P.underlying t = some d) (hn : aggD d = true) (hi : P.info? t = some i) {x : AV} {v : Value} (hx : RelV G x v)
    {r : AV} (h : loadnV σ i.size x = some r) : ValOk w0 G σ r ((Instr.loadAt t v).run P w) := by
  obtain ⟨cs, h', rfl⟩ : ∃ cs, aLoad σ i.size x = some cs ∧ r = .agg cs := by unfold loadnV at h; split at h <;> simp_all
  replace h := h'
  obtain ⟨a, vs, rfl, hR, hl, hc⟩ := aLoad_rel hW hx h
  refine ValOk.pure (u := .agg vs.toArray) hW ?_ (.agg _ _ (by simpa using hR))
  simp [Instr.loadAt, Instr.sureAddr, run_loadVar_agg hd hn hi a vs hl hc]

theorem faddr_run {s : TypeId} {fields : Array Field} {f : Nat} {fd : Field} {i : TypeInfo} (hs : P.underlying s = some (.struct fields)) (hf : fields[f]? = some fd) (hi : P.info? fd.type = some i) (h0 : i.size ≠ 0) (a : Addr) :
    (Instr.fieldAt s (.pointer (some a)) f).run P w = .ok (.pointer (some (a.add fd.offset))) w := by
  simp [Instr.fieldAt, run_underlying hs, hf, Instr.sureAddr, fieldPlace, sizeOf, typeInfo, hi, h0]

theorem faddr_ok (hW : W w0 G σ w) {s : TypeId} {fields : Array Field} {f : Nat} {fd : Field} {i : TypeInfo} (hs : P.underlying s = some (.struct fields)) (hf : fields[f]? = some fd) (hi : P.info? fd.type = some i) (h0 : i.size ≠ 0)
    {x r : AV} {v : Value} (hx : RelV G x v)
    (h : faddrV fd.offset x = some r) : ValOk w0 G σ r ((Instr.fieldAt s v f).run P w) := by
  unfold faddrV at h
  cases x <;> simp only [reduceCtorEq, Option.some.injEq] at h <;> subst h
  case ptr l o =>
    obtain ⟨b, base, tot, rfl, hρ⟩ := hx.ptr_inv
    refine ValOk.pure hW (faddr_run hs hf hi h0 _) ?_
    rw [add_lit, Nat.add_assoc]
    exact .ptr _ _ _ _ _ hρ
  case eptr cs =>
    obtain ⟨b, off, pre, tot, rfl, hΓ, hR⟩ := hx.eptr_inv
    refine ValOk.pure hW (faddr_run hs hf hi h0 _) ?_
    rw [add_lit]
    refine .eptr _ _ _ _ _ hΓ ?_
    have := hR.drop fd.offset
    rwa [List.drop_take, List.drop_drop, ← List.length_drop] at this

theorem iaddr_run {t elem : TypeId} {i : TypeInfo} (ht : P.underlying t = some (.slice elem)) (hi : P.info? elem = some i) (a : Addr) (len cap : Nat) (k : IntKind) (n : Int) (h0 : 0 ≤ n) (h1 : n < len) :
    (Instr.indexAt t (.slice (some a) len cap) (.int k n)).run P w = .ok (.pointer (some (a.add (n.toNat * i.size)))) w := by
  simp [Instr.indexAt, asIntOf, run_underlying ht, sizeOf, typeInfo, hi, h0, h1]

theorem iaddr_ok (hW : W w0 G σ w) {t elem : TypeId} {i : TypeInfo} (ht : P.underlying t = some (.slice elem)) (hi : P.info? elem = some i) {x j r : AV} {v u : Value} (hx : RelV G x v) (hj : RelV G j u)
    (h : iaddrV i.size x j = some r) : ValOk w0 G σ r ((Instr.indexAt t v u).run P w) := by
  unfold iaddrV at h
  cases x <;> cases j <;> simp only [reduceCtorEq] at h
  case sl.int k' own len cs kk n =>
    obtain rfl := hj.int_inv
    split at h
    · rename_i hc
      obtain ⟨hk, h0, h1⟩ := hc
      cases h
      cases hx with
      | sl0 => simp at h1; omega
      | slx => simp at h1; omega
      | sl _ _ _ _ b off pre tot cap q1 q2 q3 q4 q5 q6 =>
        refine ValOk.pure hW (iaddr_run ht hi _ len cap kk n h0 h1) ?_
        rw [add_lit]
        refine .eptr _ _ _ _ _ q4 ?_
        have := q5.drop (n.toNat * i.size)
        rwa [List.drop_take, List.drop_drop, ← List.length_drop] at this
    · cases h
  case ms.int k' l off len kk n =>
    obtain rfl := hj.int_inv
    split at h
    · rename_i hc
      obtain ⟨hk, h0, h1⟩ := hc
      cases h
      cases hx with
      | ms _ _ _ _ b base tot cap q1 q2 q3 =>
        refine ValOk.pure hW (iaddr_run ht hi _ len cap kk n h0 h1) ?_
        rw [add_lit, Nat.add_assoc]
        exact .ptr _ _ _ _ _ q1
    · cases h

theorem iarr_ok (hW : W w0 G σ w) {t elem : TypeId} {len : Nat} {i : TypeInfo} (ht : P.underlying t = some (.array len elem)) (hi : P.info? elem = some i) {x j r : AV} {v u : Value} (hx : RelV G x v) (hj : RelV G j u)
    (h : iarrV i.size len x j = some r) : ValOk w0 G σ r ((Instr.indexAt t v u).run P w) := by
  unfold iarrV at h
  cases x <;> cases j <;> simp only [reduceCtorEq] at h
  case ptr.int l off kk n =>
    obtain rfl := hj.int_inv
    obtain ⟨b, base, tot, rfl, hρ⟩ := hx.ptr_inv
    split at h
    · rename_i hc
      obtain ⟨h0, h1⟩ := hc
      cases h
      refine ValOk.pure (u := .pointer (some ((⟨b, base + off, none⟩ : Addr).add (n.toNat * i.size)))) hW ?_ ?_
      · simp [Instr.indexAt, asIntOf, run_underlying ht, sizeOf, typeInfo, hi, h0, h1, Instr.sureAddr]
      · rw [add_lit, Nat.add_assoc]
        exact .ptr _ _ _ _ _ hρ
    · cases h

theorem ba_get (b : ByteArray) (i : Nat) : b[i]? = b.data.toList[i]? := by
  by_cases h : i < b.data.size
  · rw [getElem?_pos b i h, List.getElem?_eq_getElem (by simpa using h)]
    simp
    rfl
  · rw [getElem?_neg b i h, List.getElem?_eq_none (by simpa using h)]

theorem sidx_ok (hW : W w0 G σ w) {t : TypeId} (ht : P.underlying t = some .string) {x j r : AV} {v u : Value} (hx : RelV G x v) (hj : RelV G j u)
    (h : sidxV x j = some r) : ValOk w0 G σ r ((Instr.index t v u).run P w) := by
  unfold sidxV at h
  cases x <;> cases j <;> simp only [reduceCtorEq] at h
  case str.int s kk n =>
    obtain rfl := hj.int_inv
    obtain ⟨b, rfl, hb⟩ := hx.str_inv
    split at h
    · rename_i h0
      split at h
      · rename_i c hc
        cases h
        rw [← hb] at hc
        simp only [List.getElem?_map, Option.map_eq_some_iff] at hc
        obtain ⟨y, hy, rfl⟩ := hc
        have hy' : b[n.toNat]? = some y := by rw [ba_get]; exact hy
        refine ValOk.pure (u := .int .u8 (y.toNat : Int)) hW ?_ (.int _ _)
        simp [Instr.index, asIntOf, run_underlying ht, h0, hy']
      · cases h
    · cases h

theorem ext_ok (hW : W w0 G σ w) {x r : AV} {i : Nat} {v : Value} (hx : RelV G x v)
    (h : extV x i = some r) : ValOk w0 G σ r ((Instr.extract v i).run P w) := by
  unfold extV at h
  cases x <;> simp only [reduceCtorEq] at h
  case tup vs =>
    obtain ⟨us, rfl, hR⟩ := hx.tup_inv
    obtain ⟨u, hu, hru, _⟩ := hR.get h
    refine ValOk.pure (u := u) hW ?_ hru
    simp only [Array.getElem?_toList] at hu
    simp [Instr.extract, hu]

end Go.AM

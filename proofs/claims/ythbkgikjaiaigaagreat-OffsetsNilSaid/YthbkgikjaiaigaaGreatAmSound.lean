import Derived.Test.YthbkgikjaiaigaaGreatAmChk
namespace Go.AM
set_option linter.all false
open Go.RowKit
variable {P : Program} {w0 : Base} {w : World} {G : Gh} {σ : St}

theorem wrapV_inv {x : Option AV} {v : AV} {σ' : St} (h : wrapV σ x = some (v, σ')) : x = some v ∧ σ' = σ := by
  cases x <;> simp [wrapV] at h
  exact ⟨by rw [h.1], h.2.symm⟩

theorem wrapS_inv {x : Option St} {u v : AV} {σ' : St} (h : wrapS u x = some (v, σ')) : x = some σ' ∧ v = u := by
  cases x <;> simp [wrapS] at h
  exact ⟨by rw [h.2], h.1.symm⟩

theorem val_step {σ' : St} {v : AV} {s : Sem Value} (h : ValOk w0 G σ' v (s.run P w)) : StepOk w0 G σ' v (((do pure (.value (← s)) : Sem Next)).run P w) := h.step

theorem unit_step {σ' : St} {s : Sem Unit} (h : ∃ w', s.run P w = .ok () w' ∧ W w0 G σ' w') : StepOk w0 G σ' .undef (((do s; pure .skip : Sem Next)).run P w) := by
  obtain ⟨w', h1, h2⟩ := h
  exact ⟨Go.undef, w', G, .inr ⟨by simp [h1], rfl⟩, Gle.refl G, h2, .undef _⟩

theorem builtin_step {σ' : St} {v : AV} {b : Builtin} {args : Array Operand} {tys : Array TypeId} {o : Oper} {a : Act} {s : Sem Value} (ho : o.op = .call { callee := .builtin b, args, argTypes := tys })
    (hb : builtin b tys o.type (args.map fun | .const _ => true | _ => false) (args.map a.eval) = do pure (.value (← s))) (h : ValOk w0 G σ' v (s.run P w)) : StepOk w0 G σ' v ((execOp a.eval o).run P w) := by
  have : execOp a.eval o = builtin b tys o.type (args.map fun | .const _ => true | _ => false) (args.map a.eval) := by
    simp only [execOp, ho, resolve, pure_bind, invoke]
    rfl
  rw [this, hb]
  exact h.step

theorem conv_types {s d : TypeId} {c : AConv} (h1 : convChk P s d c = true) : ∃ sd dd, P.underlying s = some sd ∧ P.underlying d = some dd ∧ convT P sd dd c := by
  cases c with
  | int k =>
    simp only [convChk, Bool.and_eq_true] at h1
    obtain ⟨q1, q2⟩ := h1
    obtain ⟨sd, hsd⟩ := Option.isSome_iff_exists.1 q1
    split at q2
    · rename_i k' hk; obtain rfl := kindEq_eq q2; exact ⟨sd, _, hsd, hk, rfl⟩
    · cases q2
  | same =>
    simp only [convChk, Bool.and_eq_true] at h1
    obtain ⟨q1, q2⟩ := h1
    obtain ⟨sd, hsd⟩ := Option.isSome_iff_exists.1 q1
    split at q2
    · rename_i hk; exact ⟨sd, _, hsd, hk, rfl⟩
    · cases q2
  | toBytes =>
    simp only [convChk, Bool.and_eq_true] at h1
    obtain ⟨q1, q2⟩ := h1
    split at q1
    · rename_i hs
      split at q2
      · rename_i e hk
        split at q2
        · rename_i he; exact ⟨_, _, hs, hk, rfl, e, rfl, he⟩
        · cases q2
      · cases q2
    · cases q1
  | toStr =>
    simp only [convChk, Bool.and_eq_true] at h1
    obtain ⟨q1, q2⟩ := h1
    split at q1
    · rename_i hs
      split at q2
      · rename_i e hk
        split at q2
        · rename_i he; exact ⟨_, _, hk, hs, rfl, e, rfl, he⟩
        · cases q2
      · cases q2
    · cases q1

set_option maxHeartbeats 4000000 in
theorem op_sound {calls : Calls'} {o : Oper} {ao : AO} {n : Nat} {fr : Env} {a : Act} {v : AV} {σ' : St} (hchk : opChk P o.op ao = true) (hW : W w0 G σ w) (hF : RelF G n fr a) (h : aOp calls fr σ ao = some (v, σ')) :
    StepOk w0 G σ' v ((execOp a.eval o).run P w) := by
  obtain ⟨dst, op, type, pos, after, guard⟩ := o
  simp only at hchk
  unfold opChk at hchk
  split at hchk
  · cases h; exact StepOk.pure hW (by simp only [execOp, Sem.run_pure]) (xChk_rel hF hchk)
  · cases h; exact StepOk.pure hW (by simp only [execOp, Sem.run_pure]) (xChk_rel hF hchk)
  · -- pick
    simp only [Bool.and_eq_true] at hchk
    obtain ⟨⟨h1, h2⟩, h3⟩ := hchk
    obtain ⟨h', rfl⟩ := wrapV_inv h
    exact pick_ok hW (xChk_rel hF h1) (xChk_rel hF h2) (xChk_rel hF h3) h'
  · -- alloc
    obtain ⟨i, zv, hi, hz, hc⟩ := zeroChk_inv hchk
    cases h
    exact val_step (alloc_ok hW hi hz (cChkL_rel hc))
  · -- box
    simp only [aOp] at h
    split at h
    · rename_i cs hcs
      cases h
      exact val_step (box_ok hW (xChk_rel hF hchk) hcs)
    · cases h
  · -- build
    simp only [Bool.and_eq_true] at hchk
    obtain ⟨hz0, h2⟩ := hchk
    obtain ⟨i, zv, hi, hz, hc⟩ := zeroChk_inv hz0
    split at h2
    · rename_i fs hu
      simp only [Bool.and_eq_true, List.all_eq_true] at h2
      simp only [aOp] at h
      split at h
      · rename_i cs hcs
        cases h
        exact val_step (build_ok hW hF hi hz hu (fun f hf => Option.isSome_iff_exists.1 (h2.1 f hf)) (cChkL_rel hc) h2.2 hcs)
      · cases h
    · cases h2
  · -- buildSlice
    split at hchk
    · rename_i e hu
      simp only [Bool.and_eq_true] at hchk
      obtain ⟨hz0, h2⟩ := hchk
      obtain ⟨i, zv, hi, hz, hc⟩ := zeroChk_inv hz0
      rw [hi] at h2
      simp only [Bool.and_eq_true, Nat.beq_eq, Nat.ble_eq] at h2
      obtain ⟨⟨⟨⟨rfl, h3⟩, rfl⟩, h5⟩, h6⟩ := h2
      have hR := cChkL_rel (G := G) hc
      have hzl : zv.cells.size = i.size := by rw [← h3, hR.length]; simp
      exact val_step (bsl_ok (cs := []) hW hF hu hi hz hzl h5 hR h6 h)
    · cases hchk
  · -- load1
    simp only [Bool.and_eq_true] at hchk
    obtain ⟨h1, h2⟩ := hchk
    split at h1
    · rename_i d hd
      obtain ⟨h', rfl⟩ := wrapV_inv h
      exact val_step (load1_ok hW hd (by simpa using h1) (xChk_rel hF h2) h')
    · cases h1
  · -- loadn
    simp only [Bool.and_eq_true] at hchk
    obtain ⟨⟨h1, h2⟩, h3⟩ := hchk
    split at h1
    · rename_i d hd
      split at h2
      · rename_i i hi
        simp at h2; subst h2
        obtain ⟨h', rfl⟩ := wrapV_inv h
        exact val_step (loadn_ok hW hd h1 hi (xChk_rel hF h3) h')
      · cases h2
    · cases h1
  · -- store
    simp only [Bool.and_eq_true] at hchk
    obtain ⟨⟨h1, h2⟩, h3⟩ := hchk
    split at h1
    · rename_i i hi
      simp at h1; subst h1
      obtain ⟨h', rfl⟩ := wrapS_inv h
      exact unit_step (store_ok hW hi (xChk_rel hF h2) (xChk_rel hF h3) h')
    · cases h1
  · -- nilCheck
    obtain ⟨h', rfl⟩ := wrapV_inv h
    exact nilck_ok hW rfl (xChk_rel hF hchk) h'
  · -- binOp
    simp only [Bool.and_eq_true, decide_eq_true_eq] at hchk
    obtain ⟨⟨⟨rfl, h2⟩, h3⟩, h4⟩ := hchk
    obtain ⟨h', rfl⟩ := wrapV_inv h
    exact val_step (bin_ok hW h2 (xChk_rel hF h3) (xChk_rel hF h4) h')
  · -- unOp
    simp only [Bool.and_eq_true, decide_eq_true_eq] at hchk
    obtain ⟨rfl, h2⟩ := hchk
    obtain ⟨h', rfl⟩ := wrapV_inv h
    exact val_step (un_ok hW (xChk_rel hF h2) h')
  · -- convert
    simp only [Bool.and_eq_true] at hchk
    obtain ⟨h1, h2⟩ := hchk
    obtain ⟨h', rfl⟩ := wrapV_inv h
    obtain ⟨sd, dd, q1, q2, q3⟩ := conv_types h1
    exact val_step (conv_ok hW q1 q2 q3 (xChk_rel hF h2) h')
  · -- fieldAddr
    simp only [Bool.and_eq_true] at hchk
    obtain ⟨h1, h2⟩ := hchk
    split at h1
    · rename_i fs hu
      split at h1
      · rename_i fd hf
        simp only [Bool.and_eq_true, Nat.beq_eq] at h1
        obtain ⟨rfl, h3⟩ := h1
        split at h3
        · rename_i i hi
          obtain ⟨h', rfl⟩ := wrapV_inv h
          have h0 : i.size ≠ 0 := by intro e; rw [e] at h3; simp at h3
          exact val_step (faddr_ok hW hu hf hi h0 (xChk_rel hF h2) h')
        · cases h3
      · cases h1
    · cases h1
  · -- indexAddr of a slice
    simp only [Bool.and_eq_true] at hchk
    obtain ⟨⟨h1, h2⟩, h3⟩ := hchk
    split at h1
    · rename_i e hu
      split at h1
      · rename_i i hi
        simp at h1; subst h1
        obtain ⟨h', rfl⟩ := wrapV_inv h
        exact val_step (iaddr_ok hW hu hi (xChk_rel hF h2) (xChk_rel hF h3) h')
      · cases h1
    · cases h1
  · -- indexAddr of an array
    simp only [Bool.and_eq_true] at hchk
    obtain ⟨⟨h1, h2⟩, h3⟩ := hchk
    split at h1
    · rename_i len e hu
      simp only [Bool.and_eq_true, Nat.beq_eq] at h1
      obtain ⟨rfl, h1⟩ := h1
      split at h1
      · rename_i i hi
        simp at h1; subst h1
        obtain ⟨h', rfl⟩ := wrapV_inv h
        exact val_step (iarr_ok hW hu hi (xChk_rel hF h2) (xChk_rel hF h3) h')
      · cases h1
    · cases h1
  · -- index of a string
    simp only [Bool.and_eq_true] at hchk
    obtain ⟨⟨h1, h2⟩, h3⟩ := hchk
    split at h1
    · rename_i hu
      obtain ⟨h', rfl⟩ := wrapV_inv h
      exact val_step (sidx_ok hW hu (xChk_rel hF h2) (xChk_rel hF h3) h')
    · cases h1
  · -- field
    rename_i t x f off nn y
    simp only [Bool.and_eq_true] at hchk
    obtain ⟨h1, h2⟩ := hchk
    split at h1
    · rename_i fs hu
      split at h1
      · rename_i fd hf
        simp only [Bool.and_eq_true, Nat.beq_eq] at h1
        obtain ⟨rfl, h3⟩ := h1
        split at h3
        · rename_i d i hd hi
          have hn : aggD d = nn.isSome ∧ ∀ m, nn = some m → m = i.size := by
            cases nn with
            | none => simp at h3; simp [h3]
            | some m => simp at h3; simp [h3]
          obtain ⟨h', rfl⟩ := wrapV_inv h
          exact val_step (field_ok hW hu hf hd hi hn.1 hn.2 (xChk_rel hF h2) h')
        · cases h3
      · cases h1
    · cases h1
  · -- slice
    simp only [Bool.and_eq_true] at hchk
    obtain ⟨⟨⟨⟨⟨h1, h2⟩, h3⟩, h4⟩, h5⟩, h6⟩ := hchk
    split at h1
    · rename_i e hu
      split at h1
      · rename_i i hi
        simp at h1; subst h1
        obtain ⟨h', rfl⟩ := wrapV_inv h
        exact val_step (slc_ok hW hF hu hi h3 h4 h5 (fun z => by simpa [z] using h6) (xChk_rel hF h2) h')
      · cases h1
    · cases h1
  · -- slice of a string
    simp only [Bool.and_eq_true] at hchk
    obtain ⟨⟨⟨h1, h2⟩, h3⟩, h4⟩ := hchk
    split at h1
    · rename_i hu
      obtain ⟨h', rfl⟩ := wrapV_inv h
      exact val_step (sslc_ok hW hF hu h3 h4 (xChk_rel hF h2) h')
    · cases h1
  · -- lookup
    simp only [Bool.and_eq_true, beq_iff_eq] at hchk
    obtain ⟨⟨⟨h1, rfl⟩, h2⟩, h3⟩ := hchk
    split at h1
    · rename_i kt vt hu
      simp only [Bool.and_eq_true] at h1
      obtain ⟨h1, h4⟩ := h1
      split at h4
      · rename_i i hi
        split at h4
        · rename_i zv hz
          obtain ⟨h', rfl⟩ := wrapV_inv h
          exact val_step (look_ok hW hu h1 hi hz (cChk_rel h4) (xChk_rel hF h2) (xChk_rel hF h3) h')
        · cases h4
      · cases h4
    · cases h1
  · -- mapUpdate
    simp only [Bool.and_eq_true] at hchk
    obtain ⟨⟨⟨h1, h2⟩, h3⟩, h4⟩ := hchk
    split at h1
    · rename_i kt vt hu
      obtain ⟨h', rfl⟩ := wrapS_inv h
      exact unit_step (mapup_ok hW hu h1 (xChk_rel hF h2) (xChk_rel hF h3) (xChk_rel hF h4) h')
    · cases h1
  · -- makeMap
    cases h
    exact val_step (mkmap_ok hW)
  · -- makeSlice
    simp only [Bool.and_eq_true] at hchk
    obtain ⟨⟨h1, h2⟩, h3⟩ := hchk
    split at h1
    · rename_i e hu
      simp only [Bool.and_eq_true] at h1
      obtain ⟨hz0, h4⟩ := h1
      obtain ⟨i, zv, hi, hz, hc⟩ := zeroChk_inv hz0
      rw [hi] at h4
      simp only [Bool.and_eq_true, Nat.beq_eq, Nat.ble_eq] at h4
      obtain ⟨⟨⟨rfl, h5⟩, rfl⟩, h6⟩ := h4
      have hR := cChkL_rel (G := G) hc
      have hzl : zv.cells.size = i.size := by rw [← h5, hR.length]; simp
      exact val_step (mksl_ok hW hu hi hz hzl h6 hR (xChk_rel hF h2) (xChk_rel hF h3) h)
    · cases h1
  · -- extract
    simp only [Bool.and_eq_true, Nat.beq_eq] at hchk
    obtain ⟨h1, rfl⟩ := hchk
    obtain ⟨h', rfl⟩ := wrapV_inv h
    exact val_step (ext_ok hW (xChk_rel hF h1) h')
  · -- makeFunc
    rename_i f first cap g first' cap'
    simp only [Bool.and_eq_true, Nat.beq_eq] at hchk
    obtain ⟨⟨rfl, h2⟩, h3⟩ := hchk
    cases h
    refine StepOk.pure hW (u := .func (.func f) (first.map a.eval) (cap.map a.eval)) (by simp only [execOp, Instr.makeFunc, Sem.run_bind, Sem.run_pure, Result.andThen_ok]) (.fn _ _ _ _ _ ?_ ?_)
    · simpa using xsChk_rel hF h2
    · simpa using xsChk_rel hF h3
  · -- len
    rename_i args tys ek y
    split at hchk
    · rename_i x t hargs ht0
      simp only [Bool.and_eq_true] at hchk
      obtain ⟨h', rfl⟩ := wrapV_inv h
      have hm : args.map a.eval = #[a.eval x] := by apply Array.ext'; simp [hargs]
      exact builtin_step rfl rfl (by rw [hm]; exact len_ok hW ht0 hchk.1 (xChk_rel hF hchk.2) h')
    · cases hchk
  · -- append
    rename_i args tys mt k bytes s x
    split at hchk
    · rename_i x1 x2 t t1 hargs ht0 ht1
      simp only [Bool.and_eq_true] at hchk
      obtain ⟨⟨⟨h1, h2⟩, h3⟩, h4⟩ := hchk
      split at h2
      · rename_i e hu
        split at h2
        · rename_i i hi
          simp only [Bool.and_eq_true, Nat.beq_eq, Nat.ble_eq] at h2
          obtain ⟨⟨⟨rfl, rfl⟩, h5⟩, h6⟩ := h2
          split at h6
          · rename_i zv hz
            simp at h6
            have hm : args.map a.eval = #[a.eval x1, a.eval x2] := by apply Array.ext'; simp [hargs]
            exact builtin_step rfl rfl (by rw [hm]; exact app_ok hW ht0 ht1 h1 hu hi hz h6 h5 (xChk_rel hF h3) (xChk_rel hF h4) h)
          · cases h6
        · cases h2
      · cases h2
    · cases hchk
  · -- max
    rename_i args tys xs
    obtain ⟨h', rfl⟩ := wrapV_inv h
    exact builtin_step rfl rfl (max_ok hW tys type (by simpa using xsChk_rel hF hchk) h')
  · -- min
    rename_i args tys xs
    obtain ⟨h', rfl⟩ := wrapV_inv h
    exact builtin_step rfl rfl (min_ok hW tys type (by simpa using xsChk_rel hF hchk) h')
  · -- delete
    rename_i args tys ek m k
    split at hchk
    · rename_i x1 x2 t hargs ht0
      simp only [Bool.and_eq_true] at hchk
      obtain ⟨⟨h1, h2⟩, h3⟩ := hchk
      split at h1
      · rename_i kt vt hu
        obtain ⟨h', rfl⟩ := wrapS_inv h
        have hm : args.map a.eval = #[a.eval x1, a.eval x2] := by apply Array.ext'; simp [hargs]
        obtain ⟨w', e1, e2⟩ := mapdel_ok (P := P) (ty := type) hW ht0 hu h1 (xChk_rel hF h2) (xChk_rel hF h3) h'
        refine builtin_step rfl rfl (s := Builtin.delete_ tys type (args.map a.eval)) ⟨.tuple #[], w', G, by rw [hm]; exact e1, Gle.refl G, e2, .tup _ _ (.nil _)⟩
      · cases h1
    · cases hchk
  · -- range
    simp only [Bool.and_eq_true] at hchk
    obtain ⟨h1, h2⟩ := hchk
    split at h1
    · rename_i kt vt hu
      exact val_step (range_ok hW hu (xChk_rel hF h2) h)
    · cases h1
  · -- next
    exact val_step (next_ok hW (xChk_rel hF hchk) h)
  · -- entry
    obtain ⟨h', rfl⟩ := wrapV_inv h
    exact val_step (entry_ok hW (xChk_rel hF hchk) h')
  · cases h
  · cases hchk
end Go.AM

import Derived.Test.YthbkgikjaiaigaaGreatAmSound
import Derived.Orders
import Derived.LoopN
import Derived.Scope
namespace Go.AM
set_option linter.all false
open Go.RowKit
variable {P : Program} {w0 : Base} {w : World} {G : Gh} {σ : St}

/-- What a call comes to. -/
def CallOk (P : Program) (f : FuncId) (args : List AV) (σ : St) (r : AV) (σ' : St) : Prop :=
  (∀ vs w, (callFunc f vs).run P w = .ok (.enter f vs) w) ∧
  ∀ w0 G w vs, W w0 G σ w → RelL G false args vs.toList → Calls P f vs w (fun e w' => ∃ v G', e = .returned v ∧ Gle G G' ∧ W w0 G' σ' w' ∧ RelV G' r v)

def SoundC (P : Program) (calls : Calls') : Prop := ∀ f args σ r σ', calls f args σ = some (r, σ') → CallOk P f args σ r σ'

def callChk : Op → AO → Bool
  | .call { callee := .value x, args, argTypes := _ }, .call g xs => (match x with | .func f => f.beq g | _ => false) && xsChk args.toList xs
  | .call { callee := .value x, args, argTypes := _ }, .callv g xs => xChk x g && xsChk args.toList xs
  | _, _ => false

theorem put_def (a : Act) (d : Option Nat) (u : Value) : (a.put d u).defers = a.defers := by cases d <;> rfl

theorem RelF.put {G' : Gh} {n : Nat} {fr : Fr} {a : Act} {v : AV} {u : Value} {d : Option Nat} (hG : Gle G G') (hF : RelF G n fr.at a) (hv : RelV G' v u) (hd : ∀ t, d = some t → t < n) : RelF G' n (putDst fr d v).at (a.put d u) := by
  cases d with
  | none => exact hF.mono hG
  | some t =>
    have ht := hd t rfl
    refine ⟨by simp [Act.put, hF.size], fun k => ?_⟩
    simp only [putDst, Fr.at_put, Act.put]
    by_cases hk : t = k
    · subst hk
      rw [if_pos rfl]
      have : (a.tmps.setIfInBounds t u).getD t Go.undef = u := by
        simp [Array.getD, hF.size, ht]
      rw [this]; exact hv
    · rw [if_neg hk]
      have : (a.tmps.setIfInBounds t u).getD k Go.undef = a.tmps.getD k Go.undef := by
        simp only [Array.getD_eq_getD_getElem?, Array.getElem?_setIfInBounds_ne hk]
      rw [this]; exact (hF.slot k).mono hG

theorem call_wp {calls : Calls'} (hC : SoundC P calls) {o : Oper} {a : Act} {f : FuncId} {args : List AV} {vs : Array Value} {r : AV} {σ' : St} {K : Act → World → Prop} {Q : Exit → Act → World → Prop}
    (hrun : (execOp a.eval o).run P w = (callFunc f vs).run P w) (hargs : RelL G false args vs.toList) (hW : W w0 G σ w) (h : calls f args σ = some (r, σ'))
    (hK : ∀ u w' G', Gle G G' → W w0 G' σ' w' → RelV G' r u → K (a.put o.dst u) w') : o.wp P a w K Q := by
  obtain ⟨h1, h2⟩ := hC f args σ r σ' h
  unfold Oper.wp
  rw [hrun, h1 vs w, Oper.upon_enter]
  refine (h2 w0 G w vs hW hargs).mono ?_
  rintro e w' ⟨v, G', rfl, hG, hW', hr⟩
  exact hK v w' G' hG hW' hr

theorem step_wp {calls : Calls'} (hC : SoundC P calls) {o : Oper} {ao : AO} {n : Nat} {fr : Env} {a : Act} {v : AV} {σ' : St} {K : Act → World → Prop} {Q : Exit → Act → World → Prop}
    (hchk : opChk P o.op ao = true ∨ callChk o.op ao = true) (hW : W w0 G σ w) (hF : RelF G n fr a) (h : aOp calls fr σ ao = some (v, σ'))
    (hK : ∀ u w' G', Gle G G' → W w0 G' σ' w' → RelV G' v u → K (a.put o.dst u) w') : o.wp P a w K Q := by
  rcases hchk with hchk | hchk
  · obtain ⟨u, w', G', hr, hG, hW', hv⟩ := op_sound hchk hW hF h
    unfold Oper.wp
    rcases hr with hr | ⟨hr, rfl⟩
    · rw [hr, Oper.upon_value]; exact hK u w' G' hG hW' hv
    · rw [hr, Oper.upon_skip]; exact hK _ w' G' hG hW' hv
  · obtain ⟨dst, op, type, pos, after, guard⟩ := o
    simp only at hchk
    unfold callChk at hchk
    split at hchk
    · rename_i x args tys g xs
      simp only [Bool.and_eq_true] at hchk
      obtain ⟨h1, h2⟩ := hchk
      split at h1
      · rename_i f
        simp at h1; subst h1
        have hR := xsChk_rel hF h2
        refine call_wp hC (f := f) (vs := args.map a.eval) ?_ (by simpa using hR) hW h hK
        simp [execOp, resolve, Deferred.ofValue, Act.eval, invoke]
      · cases h1
    · rename_i x args tys g xs
      simp only [Bool.and_eq_true] at hchk
      obtain ⟨h1, h2⟩ := hchk
      have hx := xChk_rel hF h1
      have hR := xsChk_rel hF h2
      simp only [aOp] at h
      split at h
      · rename_i f first cap hg
        rw [hg] at hx
        generalize hv : a.eval x = xv at hx
        cases hx with
        | fn _ _ _ fs cs q1 q2 =>
          refine call_wp hC (f := f) (vs := fs ++ args.map a.eval ++ cs) ?_ ?_ hW h hK
          · simp [execOp, resolve, hv, Deferred.ofValue, invoke]
          · simp only [Array.toList_append, Array.toList_map]
            exact (q1.append hR).append q2
      · cases h
    · cases hchk

/-- Guards. -/
def guardChk (ops : Array Oper) (n : Nat) (o : Oper) (ao : AOp) : Bool := match o.guard, ao.guard with
  | none, none => true
  | some (j, b), some (t, b') => (match (ops[j]?).bind (·.dst) with | some t' => t'.beq t | none => false) && (b == b') && Nat.blt t n
  | _, _ => false

def oneChk (P : Program) (ops : Array Oper) (n : Nat) (o : Oper) (ao : AOp) : Bool :=
  (opChk P o.op ao.op || callChk o.op ao.op) && guardChk ops n o ao && (match o.dst, ao.dst with | none, none => true | some t, some t' => t.beq t' && Nat.blt t n | _, _ => false)

theorem oneChk_inv {ops : Array Oper} {n : Nat} {o : Oper} {ao : AOp} (h : oneChk P ops n o ao = true) :
    (opChk P o.op ao.op = true ∨ callChk o.op ao.op = true) ∧ guardChk ops n o ao = true ∧ o.dst = ao.dst ∧ ∀ t, ao.dst = some t → t < n := by
  simp only [oneChk, Bool.and_eq_true, Bool.or_eq_true] at h
  obtain ⟨⟨h1, h2⟩, h3⟩ := h
  refine ⟨h1, h2, ?_⟩
  split at h3
  · rename_i e1 e2; rw [e1, e2]; exact ⟨rfl, by simp⟩
  · rename_i t t' e1 e2
    simp only [Bool.and_eq_true, Nat.beq_eq, Nat.blt_eq] at h3
    rw [e1, e2, h3.1]
    exact ⟨rfl, fun k hk => by cases hk; rw [← h3.1]; exact h3.2⟩
  · cases h3

theorem wanted_rel {ops : Array Oper} {n : Nat} {o : Oper} {ao : AOp} {fr : Env} {a : Act} {b : Bool} (hg : guardChk ops n o ao = true) (hF : RelF G n fr a) (h : wanted fr ao.guard = some b) :
    Region.wanted o (yielded ops a.tmps) = b := by
  unfold guardChk at hg
  split at hg
  · rename_i e1 e2
    rw [e2] at h
    simp [wanted] at h
    subst h
    simp [Region.wanted, e1]
  · rename_i j c t c' e1 e2
    simp only [Bool.and_eq_true, beq_iff_eq, Nat.blt_eq] at hg
    obtain ⟨⟨h1, rfl⟩, h3⟩ := hg
    split at h1
    · rename_i t' ht'
      simp at h1; subst h1
      rw [e2] at h
      have hs := hF.slot t'
      have hlt : t' < a.tmps.size := by rw [hF.size]; exact h3
      have hget : a.tmps.getD t' Go.undef = a.tmps[t'] := by simp [Array.getD, hlt]
      have hq : a.tmps[t']? = some a.tmps[t'] := by simp [hlt]
      simp only [Region.wanted, e1, yielded, ht', Option.bind_some, hq]
      simp only [wanted] at h
      split at h
      · rename_i q hfr
        cases h
        rw [hfr, hget] at hs
        rw [hs.bool_inv]
        cases q <;> cases c <;> rfl
      · rename_i hfr
        cases h
        rw [hfr, hget] at hs
        obtain ⟨us, hu, hR⟩ := hs.tup_inv
        rw [hu]
        rfl
      · cases h
    · cases h1
  · cases hg

def opsChk (P : Program) (ops : Array Oper) (n : Nat) : List Oper → List AOp → Bool
  | [], [] => true
  | o :: l, ao :: as => oneChk P ops n o ao && opsChk P ops n l as
  | _, _ => false

theorem aStep_wp {calls : Calls'} (hC : SoundC P calls) {ops : Array Oper} {i : Nat} {o : Oper} {ao : AOp} {n : Nat} {fr : Env} {a : Act} {v : AV} {σ' : St} {K : Act → World → Prop} {Q : Exit → Act → World → Prop}
    (ho : ops[i]? = some o) (hchk : oneChk P ops n o ao = true) (hW : W w0 G σ w) (hF : RelF G n fr a) (h : aStep calls fr σ ao = some (v, σ'))
    (hK : ∀ u w' G', Gle G G' → W w0 G' σ' w' → RelV G' v u → K (a.put o.dst u) w') : wpOp P ops Q i K a w := by
  obtain ⟨h1, h2, h3, h4⟩ := oneChk_inv hchk
  unfold aStep at h
  split at h
  · rename_i hw
    simp only [wpOp, ho, wanted_rel h2 hF hw, if_true]
    exact .inl (step_wp hC h1 hW hF h hK)
  · rename_i hw
    cases h
    simp only [wpOp, ho, wanted_rel h2 hF hw, Bool.false_eq_true, if_false]
    exact hK _ w G (Gle.refl G) hW (.tup [] #[] (.nil _))
  · cases h

theorem ops_wp {calls : Calls'} (hC : SoundC P calls) {ops : Array Oper} {n : Nat} {Q : Exit → Act → World → Prop} {fr' : Fr} {σ' : St} : ∀ (l : List Oper) (as : List AOp) (k : Nat) (G : Gh) (σ : St) (fr : Fr) (a : Act) (w : World),
    (∀ j, l[j]? = ops[k + j]?) → opsChk P ops n l as = true → aOps calls as fr σ = some (fr', σ') → W w0 G σ w → RelF G n fr.at a →
    (∀ a' w' G', a'.defers = a.defers → Gle G G' → W w0 G' σ' w' → RelF G' n fr'.at a' → Q .normal a' w') → wpOps P ops Q (List.range' k l.length) a w
  | [], [], k, G, σ, fr, a, w, _, _, h, hW, hF, hQ => by
    simp [aOps] at h
    obtain ⟨rfl, rfl⟩ := h
    exact hQ a w G rfl (Gle.refl G) hW hF
  | [], _ :: _, _, _, _, _, _, _, _, hc, _, _, _, _ => by simp [opsChk] at hc
  | _ :: _, [], _, _, _, _, _, _, _, hc, _, _, _, _ => by simp [opsChk] at hc
  | o :: l, ao :: as, k, G, σ, fr, a, w, hl, hc, h, hW, hF, hQ => by
    simp only [opsChk, Bool.and_eq_true] at hc
    obtain ⟨hc1, hc2⟩ := hc
    obtain ⟨_, _, hd, hdn⟩ := oneChk_inv hc1
    have h0 : ops[k]? = some o := by simpa using (hl 0).symm
    simp only [aOps] at h
    split at h
    · rename_i v σ1 hs
      simp only [List.length_cons, List.range'_succ, wpOps_cons]
      refine aStep_wp hC h0 hc1 hW hF hs fun u w' G' hG hW' hv => ?_
      rw [hd]
      exact ops_wp hC l as (k + 1) G' σ1 (putDst fr ao.dst v) _ w' (fun j => by have := hl (j + 1); simpa [Nat.add_assoc, Nat.add_comm 1 j] using this) hc2 h hW' (hF.put hG hv hdn)
        fun a' w'' G'' hd' hG' hW'' hF'' => hQ a' w'' G'' (by rw [hd', put_def]) (hG.trans hG') hW'' hF''
    · cases h

theorem region_wp {calls : Calls'} (hC : SoundC P calls) {id : Nat} {ops : Array Oper} {as : List AOp} {n : Nat} {Q : Exit → Act → World → Prop} {fr fr' : Fr} {σ' : St} {a : Act} (hc : opsChk P ops n ops.toList as = true) (h : aOps calls as fr σ = some (fr', σ'))
    (hW : W w0 G σ w) (hF : RelF G n fr.at a) (hQ : ∀ a' w' G', a'.defers = a.defers → Gle G G' → W w0 G' σ' w' → RelF G' n fr'.at a' → Q .normal a' w') : (Code.region id ops false).wp P Q a w := by
  refine wp_region ?_
  have := ops_wp hC ops.toList as 0 G σ fr a w (fun j => by simp) hc h hW hF hQ
  rw [List.range_eq_range']
  simpa using this
end Go.AM

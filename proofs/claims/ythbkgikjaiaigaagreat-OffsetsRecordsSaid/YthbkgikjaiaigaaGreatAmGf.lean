/- The abstract machine: AmCode, AmFn, AmRng, AmRow, AmCell. -/
import Derived.Test.YthbkgikjaiaigaaGreatAmGe
import Derived.RangeFuncOwn
namespace Go.AM
set_option linter.all false
open Go.RowKit
variable {P : Program} {w0 : Base} {w : World} {G : Gh} {σ : St}

/-- Does abstract code say what code does? -/
def codeChk (P : Program) (n : Nat) : Code → AC → Bool
  | .skip, .skip => true
  | .label _, .skip => true
  | .region _ ops draw, .reg as => !draw && opsChk P ops n ops.toList as
  | .region _ ops draw, .dreg d => draw && (P.follows .mixedOrders && dregChk P ops n d)
  | .seq a b, .seq x y => codeChk P n a x && codeChk P n b y
  | .cond c a b, .cond c' x y => xChk c c' && (codeChk P n a x && codeChk P n b y)
  | .block id c, .block id' x => id.beq id' && codeChk P n c x
  | .loop c, .loop x => codeChk P n c x
  | .scope c, .scope x => codeChk P n c x
  | c, .keep _ _ x => codeChk P n c x
  | .exit id, .exit id' => id.beq id'
  | .ret, .ret => true
  | _, _ => false

theorem codeChk_keep (P : Program) (n : Nat) (c : Code) (d : Nat) (ts : List Nat) (x : AC) : codeChk P n c (.keep d ts x) = codeChk P n c x := by cases c <;> rfl

theorem fullT_at : ∀ (d t : Nat), (fullT d).at t = .undef
  | 0, _ => rfl
  | d + 1, 0 => rfl
  | d + 1, t + 1 => by
    have := fullT_at d (t / 2)
    simp only [Fr.at, fullT, Trie.get] at this ⊢
    cases (t % 2).beq 0 <;> exact this

theorem putAll_at (fr0 : Fr) : ∀ (ts : List Nat) (fr : Fr) (t : Nat), (putAll (ts.map fun t => (t, fr0.at t)) fr).at t = fr0.at t ∨ (putAll (ts.map fun t => (t, fr0.at t)) fr).at t = fr.at t
  | [], fr, t => .inr rfl
  | s :: r, fr, t => by
    simp only [List.map_cons, putAll]
    rcases putAll_at fr0 r (fr.put s (fr0.at s)) t with h | h
    · exact .inl h
    · rw [Fr.at_put] at h
      by_cases hs : s = t
      · subst hs; rw [if_pos rfl] at h; exact .inl h
      · rw [if_neg hs] at h; exact .inr h

theorem keepFr_at (d : Nat) (ts : List Nat) (fr : Fr) (t : Nat) : (keepFr d ts fr).at t = fr.at t ∨ (keepFr d ts fr).at t = .undef := by
  unfold keepFr frL
  have := putAll_at fr ts (fullT d) t
  rwa [fullT_at] at this

theorem RelF.keep {G : Gh} {n : Nat} {fr : Fr} {a : Act} (h : RelF G n fr.at a) (d : Nat) (ts : List Nat) : RelF G n (keepFr d ts fr).at a := by
  refine ⟨h.size, fun t => ?_⟩
  rcases keepFr_at d ts fr t with e | e
  · rw [e]; exact h.slot t
  · rw [e]; exact .undef _

def exOf : AExit → Exit
  | .normal => .normal
  | .exit id => .exit id
  | .ret => .ret

def ExecOk (P : Program) (calls : Calls') (n : Nat) (run : Run) (c : Code) : Prop :=
  ∀ w0 G σ w fr a e fr' σ' (Q : Exit → Act → World → Prop), run fr σ = some (e, fr', σ') → W w0 G σ w → RelF G n fr.at a →
    (∀ a' w' G', a'.defers = a.defers → Gle G G' → W w0 G' σ' w' → RelF G' n fr'.at a' → Q (exOf e) a' w') → c.wp P Q a w

theorem loop_ok {calls : Calls'} {n : Nat} {run : Run} {c : Code} (h : ExecOk P calls n run c) : ∀ (m : Nat) w0 G σ w fr a e fr' σ' (Q : Exit → Act → World → Prop), aLoop run m fr σ = some (e, fr', σ') → W w0 G σ w → RelF G n fr.at a →
    (∀ a' w' G', a'.defers = a.defers → Gle G G' → W w0 G' σ' w' → RelF G' n fr'.at a' → Q (exOf e) a' w') → Code.rounds P c Q m a w
  | 0, w0, G, σ, w, fr, a, e, fr', σ', Q, hr, _, _, _ => by simp [aLoop] at hr
  | m + 1, w0, G, σ, w, fr, a, e, fr', σ', Q, hr, hW, hF, hQ => by
    rw [rounds_succ]
    simp only [aLoop] at hr
    split at hr
    · rename_i fr1 σ1 h1
      exact h w0 G σ w fr a _ fr1 σ1 _ h1 hW hF fun a' w' G' hd hG hW' hF' =>
        loop_ok h m w0 G' σ1 w' fr1 a' e fr' σ' Q hr hW' hF' fun a'' w'' G'' hd' hG' => hQ a'' w'' G'' (hd'.trans hd) (hG.trans hG')
    · rename_i id fr1 σ1 h1
      cases hr
      exact h w0 G σ w fr a _ _ _ _ h1 hW hF hQ
    · rename_i fr1 σ1 h1
      cases hr
      exact h w0 G σ w fr a _ _ _ _ h1 hW hF hQ
    · cases hr

theorem exec_ok {calls : Calls'} (hC : SoundC P calls) {n k : Nat} : ∀ (ac : AC) (c : Code), codeChk P n c ac = true → ExecOk P calls n (aExec calls k ac) c
  | .skip, c, hc => by
    intro w0 G σ w fr a e fr' σ' Q hr hW hF hQ
    simp only [aExec] at hr
    cases hr
    cases c <;> simp [codeChk] at hc
    · exact wp_skip (hQ a w G rfl (Gle.refl G) hW hF)
    · exact wp_label (hQ a w G rfl (Gle.refl G) hW hF)
  | .reg ops, c, hc => by
    intro w0 G σ w fr a e fr' σ' Q hr hW hF hQ
    simp only [aExec] at hr
    split at hr
    · rename_i fr1 σ1 h1
      cases hr
      cases c <;> simp only [codeChk, Bool.false_eq_true, Bool.and_eq_true, Bool.not_eq_true'] at hc
      obtain ⟨rfl, hc⟩ := hc
      exact region_wp hC hc h1 hW hF hQ
    · cases hr
  | .dreg d, c, hc => by
    intro w0 G σ w fr a e fr' σ' Q hr hW hF hQ
    simp only [aExec] at hr
    split at hr
    · rename_i fr1 σ1 h1
      cases hr
      cases c <;> simp only [codeChk, Bool.false_eq_true, Bool.and_eq_true] at hc
      obtain ⟨rfl, hf, hc⟩ := hc
      exact dreg_wp hC hf hc h1 hW hF hQ
    · cases hr
  | .scope x, c, hc => by
    intro w0 G σ w fr a e fr' σ' Q hr hW hF hQ
    simp only [aExec] at hr
    cases c <;> simp only [codeChk, Bool.false_eq_true] at hc
    rename_i c
    refine wp_scope_straight (exec_ok hC x c hc w0 G σ w fr a e fr' σ' _ hr hW hF fun a' w' G' hd hG hW' hF' => ?_)
    have := hQ a' w' G' hd hG hW' hF'
    cases e <;> exact this
  | .keep d ts x, c, hc => by
    intro w0 G σ w fr a e fr' σ' Q hr hW hF hQ
    simp only [aExec] at hr
    exact exec_ok hC x c (by rw [codeChk_keep] at hc; exact hc) w0 G σ w _ a e fr' σ' Q hr hW (hF.keep d ts) hQ
  | .seq x y, c, hc => by
    intro w0 G σ w fr a e fr' σ' Q hr hW hF hQ
    cases c <;> simp only [codeChk, Bool.false_eq_true, Bool.and_eq_true] at hc
    rename_i c1 c2
    simp only [aExec] at hr
    refine wp_seq ?_
    split at hr
    · rename_i fr1 σ1 h1
      exact exec_ok hC x c1 hc.1 w0 G σ w fr a _ fr1 σ1 _ h1 hW hF fun a' w' G' hd hG hW' hF' =>
        exec_ok hC y c2 hc.2 w0 G' σ1 w' fr1 a' e fr' σ' Q hr hW' hF' fun a'' w'' G'' hd' hG' => hQ a'' w'' G'' (hd'.trans hd) (hG.trans hG')
    · rename_i id fr1 σ1 h1
      cases hr
      exact exec_ok hC x c1 hc.1 w0 G σ w fr a _ _ _ _ h1 hW hF hQ
    · rename_i fr1 σ1 h1
      cases hr
      exact exec_ok hC x c1 hc.1 w0 G σ w fr a _ _ _ _ h1 hW hF hQ
    · cases hr
  | .cond t x y, c, hc => by
    intro w0 G σ w fr a e fr' σ' Q hr hW hF hQ
    cases c <;> simp only [codeChk, Bool.false_eq_true, Bool.and_eq_true] at hc
    rename_i o c1 c2
    obtain ⟨h1, h2, h3⟩ := hc
    have hx := xChk_rel hF h1
    simp only [aExec] at hr
    split at hr
    · rename_i ht
      rw [ht] at hx
      exact wp_cond_true hx.bool_inv (exec_ok hC x c1 h2 w0 G σ w fr a e fr' σ' Q hr hW hF hQ)
    · rename_i ht
      rw [ht] at hx
      exact wp_cond_false hx.bool_inv (exec_ok hC y c2 h3 w0 G σ w fr a e fr' σ' Q hr hW hF hQ)
    · cases hr
  | .block id x, c, hc => by
    intro w0 G σ w fr a e fr' σ' Q hr hW hF hQ
    cases c <;> simp only [codeChk, Bool.false_eq_true, Bool.and_eq_true, Nat.beq_eq] at hc
    rename_i id' c1
    obtain ⟨rfl, hc⟩ := hc
    simp only [aExec] at hr
    refine wp_block ?_
    split at hr
    · rename_i id' fr1 σ1 h1
      refine exec_ok hC x c1 hc w0 G σ w fr a _ fr1 σ1 _ h1 hW hF fun a' w' G' hd hG hW' hF' => ?_
      simp only [exOf, Exit.inBlock]
      split at hr
      · rename_i hb
        cases hr
        rw [if_pos (Nat.eq_of_beq_eq_true hb)]
        exact hQ a' w' G' hd hG hW' hF'
      · rename_i hb
        cases hr
        rw [if_neg (fun h => hb (by rw [h]; exact Nat.beq_refl _))]
        exact hQ a' w' G' hd hG hW' hF'
    · rename_i fr1 σ1 h1
      cases hr
      exact exec_ok hC x c1 hc w0 G σ w fr a _ _ _ _ h1 hW hF hQ
    · rename_i fr1 σ1 h1
      cases hr
      exact exec_ok hC x c1 hc w0 G σ w fr a _ _ _ _ h1 hW hF hQ
    · cases hr
  | .loop x, c, hc => by
    intro w0 G σ w fr a e fr' σ' Q hr hW hF hQ
    cases c <;> simp only [codeChk, Bool.false_eq_true] at hc
    rename_i c1
    simp only [aExec] at hr
    exact wp_loop_rounds k (loop_ok (calls := calls) (exec_ok hC x c1 hc) k w0 G σ w fr a e fr' σ' Q hr hW hF hQ)
  | .exit id, c, hc => by
    intro w0 G σ w fr a e fr' σ' Q hr hW hF hQ
    cases c <;> simp only [codeChk, Bool.false_eq_true, Nat.beq_eq] at hc
    subst hc
    simp only [aExec] at hr
    cases hr
    exact wp_exit (hQ a w G rfl (Gle.refl G) hW hF)
  | .ret, c, hc => by
    intro w0 G σ w fr a e fr' σ' Q hr hW hF hQ
    cases c <;> simp only [codeChk, Bool.false_eq_true] at hc
    simp only [aExec] at hr
    cases hr
    exact wp_ret (hQ a w G rfl (Gle.refl G) hW hF)

/- functions -/
def resChk1 (P : Program) : ResultVar → ARes → Bool
  | .tmp t, .tmp t' => t.beq t'
  | .cell a t, .cell1 a' => a.beq a' && (match P.underlying t with | some d => !aggD d | none => false)
  | .cell a t, .celln a' n => a.beq a' && (match P.underlying t with | some d => aggD d | none => false) && (match P.info? t with | some i => i.size.beq n | none => false)
  | _, _ => false

def resChk (P : Program) : List ResultVar → List ARes → Bool
  | [], [] => true
  | r :: l, x :: xs => resChk1 P r x && resChk P l xs
  | _, _ => false

def fnChk (P : Program) (fn : Func) (F : AF) : Bool := match fn.body with
  | some c => fn.ntmps.beq F.ntmps && (resChk P fn.results.toList F.res && codeChk P F.ntmps c F.body)
  | none => false

def resSem (tmps : Array Value) : ResultVar → Sem Value
  | .tmp t => pure (tmps.getD t Go.undef)
  | .cell a t => do loadVar t (← asAddr (tmps.getD a Go.undef))

theorem results_eq (fn : Func) (tmps : Array Value) : results fn tmps = (do
    let vs ← fn.results.mapM (resSem tmps)
    pure (if h : vs.size = 1 then vs[0] else .tuple vs)) := by
  unfold results
  congr 1

theorem res1_ok {n : Nat} {fr : Fr} {a : Act} (hW : W w0 G σ w) (hF : RelF G n fr.at a) {r : ResultVar} {x : ARes} (hc : resChk1 P r x = true) {v : AV} (h : aRes1 fr σ x = some v) :
    ∃ u, (resSem a.tmps r).run P w = .ok u w ∧ RelV G v u := by
  cases r with
  | tmp t =>
    cases x <;> simp [resChk1] at hc
    subst hc
    simp only [aRes1, Option.some.injEq] at h
    subst h
    exact ⟨_, by simp [resSem], hF.slot t⟩
  | cell t ty =>
    cases x with
    | tmp _ => simp [resChk1] at hc
    | cell1 t' =>
      simp only [resChk1, Bool.and_eq_true, Nat.beq_eq] at hc
      obtain ⟨rfl, hc⟩ := hc
      split at hc
      · rename_i d hd
        simp only [aRes1] at h
        have h' : aLoad σ 1 (fr.at t) = some [v] := by split at h <;> simp_all
        obtain ⟨ad, vs, e, hR, hl, hcell⟩ := aLoad_rel hW (hF.slot t) h'
        match vs, hl with
        | [u], _ =>
          have h0 := hcell 0 u (by simp)
          have e0 : ad.add 0 = ad := by simp [Addr.add]
          rw [e0] at h0
          refine ⟨u, ?_, by cases hR; assumption⟩
          simp [resSem, e, asAddr, run_loadVar_one hd (by simpa using hc) ad u h0]
      · cases hc
    | celln t' m =>
      simp only [resChk1, Bool.and_eq_true, Nat.beq_eq] at hc
      obtain ⟨⟨rfl, hc⟩, hc2⟩ := hc
      split at hc
      · rename_i d hd
        split at hc2
        · rename_i i hi
          simp at hc2
          subst hc2
          simp only [aRes1] at h
          obtain ⟨cs, h', rfl⟩ : ∃ cs, aLoad σ i.size (fr.at t) = some cs ∧ v = .agg cs := by split at h <;> simp_all
          obtain ⟨ad, vs, e, hR, hl, hcell⟩ := aLoad_rel hW (hF.slot t) h'
          refine ⟨.agg vs.toArray, ?_, .agg _ _ (by simpa using hR)⟩
          simp [resSem, e, asAddr, run_loadVar_agg hd hc hi ad vs hl hcell]
        · cases hc2
      · cases hc

theorem resL_ok {n : Nat} {fr : Fr} {a : Act} (hW : W w0 G σ w) (hF : RelF G n fr.at a) : ∀ {l : List ResultVar} {xs : List ARes} {vs : List AV}, resChk P l xs = true → aResL fr σ xs = some vs →
    ∃ us, (l.mapM (resSem a.tmps)).run P w = .ok us w ∧ RelL G false vs us
  | [], [], vs, _, h => by
    simp only [aResL, Option.some.injEq] at h
    subst h
    exact ⟨[], by simp, .nil _⟩
  | [], _ :: _, _, hc, _ => by simp [resChk] at hc
  | _ :: _, [], _, hc, _ => by simp [resChk] at hc
  | r :: l, x :: xs, vs, hc, h => by
    simp only [resChk, Bool.and_eq_true] at hc
    simp only [aResL] at h
    split at h
    · rename_i v vs' h1 h2
      cases h
      obtain ⟨u, hr, hv⟩ := res1_ok hW hF hc.1 h1
      obtain ⟨us, hrs, hvs⟩ := resL_ok hW hF hc.2 h2
      exact ⟨u :: us, by simp [hr, hrs], .cons _ _ _ _ _ hv (by simp) hvs⟩
    · cases h

theorem results_ok {n : Nat} {fr : Fr} {a : Act} {fn : Func} {xs : List ARes} (hW : W w0 G σ w) (hF : RelF G n fr.at a) (hc : resChk P fn.results.toList xs = true) {v : AV} (h : aResult fr σ xs = some v) :
    ∃ u, (results fn a.tmps).run P w = .ok u w ∧ RelV G v u := by
  unfold aResult at h
  rw [results_eq, Array.mapM_eq_mapM_toList]
  split at h
  · rename_i v' h1
    cases h
    obtain ⟨us, hr, hR⟩ := resL_ok hW hF hc h1
    cases hR with
    | cons _ _ u us _ hv _ hvs =>
      cases hvs
      exact ⟨u, by simp [hr], hv⟩
  · rename_i vs hne h1
    cases h
    obtain ⟨us, hr, hR⟩ := resL_ok hW hF hc h1
    refine ⟨.tuple us.toArray, ?_, .tup _ _ (by simpa using hR)⟩
    have hl : us.length ≠ 1 := by
      intro hl
      rw [← hR.length] at hl
      match vs, hl with
      | [v], _ => exact hne v rfl
    simp [hr, hl]
  · cases h

end Go.AM

namespace Go.AM
set_option linter.all false
open Go.RowKit
variable {P : Program} {w0 : Base} {w : World} {G : Gh} {σ : St}

theorem initFr_at : ∀ (vs : List AV) (i : Nat) (fr : Fr) (t : Nat), (initFr i vs fr).at t = if i ≤ t ∧ t < i + vs.length then vs.getD (t - i) .undef else fr.at t
  | [], i, fr, t => by
    simp only [initFr, List.length_nil, Nat.add_zero]
    rw [if_neg]; omega
  | v :: r, i, fr, t => by
    simp only [initFr]
    rw [initFr_at r (i + 1) (fr.put i v) t, Fr.at_put]
    simp only [List.length_cons]
    by_cases h1 : i + 1 ≤ t ∧ t < i + 1 + r.length
    · rw [if_pos h1, if_pos (by omega), show t - i = (t - (i + 1)) + 1 by omega]
      simp
    · rw [if_neg h1]
      by_cases h2 : i = t
      · subst h2
        rw [if_pos rfl, if_pos (by omega)]
        simp
      · rw [if_neg h2, if_neg (by omega)]

theorem RelL.at {b : Bool} : ∀ {cs : List AV} {vs : List Value}, RelL G b cs vs → ∀ t, RelV G (cs.getD t .undef) (vs.getD t Go.undef)
  | [], _, .nil _, t => by simpa using RelV.undef _
  | c :: cs, _, .cons _ _ v _ vs hv _ hvs, 0 => by simpa using hv
  | c :: cs, _, .cons _ _ v _ vs hv _ hvs, t + 1 => by simpa using hvs.at t

def AF.exec (F : AF) (calls : Calls') (k : Nat) (args : List AV) (σ : St) : Option (AV × St) :=
  if Nat.ble args.length F.ntmps then F.run calls k args σ else .none

theorem init_rel {G : Gh} {args : List AV} {vs : Array Value} {n m : Nat} (hargs : RelL G false args vs.toList) (h1 : m = n) (hle : args.length ≤ n) :
    RelF G n (initFr 0 args .leaf).at { tmps := vs ++ Array.replicate (m - vs.size) Go.undef, defers := [] } := by
  have hlen : args.length = vs.size := by simpa using hargs.length
  refine ⟨by simp; omega, fun t => ?_⟩
  rw [initFr_at]
  have hat := hargs.at t
  by_cases ht : t < args.length
  · rw [if_pos (by omega)]
    simp only [Nat.sub_zero]
    have e : (vs ++ Array.replicate (m - vs.size) Go.undef).getD t Go.undef = vs.toList.getD t Go.undef := by
      have ht' : t < vs.size := by omega
      simp only [Array.getD_eq_getD_getElem?, List.getD_eq_getElem?_getD, Array.getElem?_append, ht', if_true, Array.getElem?_toList]
    rw [e]; exact hat
  · rw [if_neg (by omega)]
    have e : (vs ++ Array.replicate (m - vs.size) Go.undef).getD t Go.undef = Go.undef := by
      have ht' : ¬ t < vs.size := by omega
      simp only [Array.getD_eq_getD_getElem?, Array.getElem?_append, ht', if_false]
      by_cases hh : t - vs.size < m - vs.size
      · simp [hh]
      · simp [hh]
    rw [e]
    have : (Fr.at Trie.leaf t) = .undef := rfl
    rw [this]
    exact RelV.undef _

theorem fn_ok {calls : Calls'} (hC : SoundC P calls) {f : FuncId} {fn : Func} {F : AF} {k : Nat} (hf : P.funcs[f]? = some fn) (hcall : ∀ vs w, (callFunc f vs).run P w = .ok (.enter f vs) w)
    (hc : fnChk P fn F = true) {args : List AV} {r : AV} {σ' : St} (h : F.exec calls k args σ = some (r, σ')) : CallOk P f args σ r σ' := by
  refine ⟨hcall, fun w0 G w vs hW hargs => ?_⟩
  unfold AF.exec at h
  split at h
  · rename_i hle
    have hle := Nat.le_of_ble_eq_true hle
    unfold fnChk at hc
    split at hc
    · rename_i c hb
      simp only [Bool.and_eq_true, Nat.beq_eq] at hc
      obtain ⟨h1, h2, h3⟩ := hc
      have hF := init_rel hargs h1 hle
      unfold AF.run at h
      refine calls_of_wp hf hb ?_
      split at h
      · rename_i fr σ1 h4
        split at h
        · rename_i v h5
          cases h
          refine exec_ok hC F.body c h3 w0 G σ w _ _ _ _ _ _ h4 hW hF fun a' w' G' hd hG hW' hF' => ?_
          obtain ⟨u, hr, hv⟩ := results_ok hW' hF' h2 h5
          exact ⟨hd, u, hr, u, G', rfl, hG, hW', hv⟩
        · cases h
      · rename_i fr σ1 h4
        split at h
        · rename_i v h5
          cases h
          refine exec_ok hC F.body c h3 w0 G σ w _ _ _ _ _ _ h4 hW hF fun a' w' G' hd hG hW' hF' => ?_
          obtain ⟨u, hr, hv⟩ := results_ok hW' hF' h2 h5
          exact ⟨hd, u, hr, u, G', rfl, hG, hW', hv⟩
        · cases h
      · cases h
    · cases hc
  · cases h

/-- Every entry of a trie. -/
def TAll {α : Type} (p : Nat → α → Prop) : Trie α → Prop
  | .leaf => True
  | .node l v r => (match v with | some x => p 0 x | .none => True) ∧ (TAll (fun m => p (2 * m + 1)) l ∧ TAll (fun m => p (2 * m + 2)) r)

theorem TAll.get {α : Type} : ∀ {t : Trie α} {p : Nat → α → Prop}, TAll p t → ∀ n x, t.get n = some x → p n x
  | .leaf, _, _, _, _, h => by simp [Trie.get] at h
  | .node l v r, p, hp, n, x, h => by
    obtain ⟨h1, h2, h3⟩ := hp
    cases n with
    | zero =>
      simp only [Trie.get] at h
      subst h; exact h1
    | succ m =>
      simp only [Trie.get] at h
      cases hb : (m % 2).beq 0 with
      | true =>
        rw [hb] at h
        have := h2.get (m / 2) x h
        have hm : m % 2 = 0 := Nat.eq_of_beq_eq_true hb
        rwa [show 2 * (m / 2) + 1 = m + 1 by omega] at this
      | false =>
        rw [hb] at h
        have := h3.get (m / 2) x h
        have hm : m % 2 ≠ 0 := fun h => by rw [h] at hb; cases hb
        rwa [show 2 * (m / 2) + 2 = m + 1 by omega] at this

/-- A function of the program and its abstract form. -/
def EntOk (P : Program) (f : Nat) (F : AF) : Prop :=
  ∃ fn, P.funcs[f]? = some fn ∧ (∀ vs w, (callFunc f vs).run P w = .ok (.enter f vs) w) ∧ fnChk P fn F = true

abbrev Intr := Calls' → List AV → St → Option (AV × St)

/-- A summary of a function. -/
def IntrOk (P : Program) (f : Nat) (g : Intr) : Prop :=
  ∀ calls, SoundC P calls → ∀ args σ r σ', g calls args σ = some (r, σ') → CallOk P f args σ r σ'

def callD (intr : Trie Intr) (tab : Trie AF) (k : Nat) : Nat → Calls'
  | 0, _, _, _ => .none
  | d + 1, f, args, σ => match intr.get f with
    | some g => g (callD intr tab k d) args σ
    | .none => match tab.get f with
      | some F => F.exec (callD intr tab k d) k args σ
      | .none => .none

theorem callD_sound {intr : Trie Intr} {tab : Trie AF} {k : Nat} (hI : TAll (IntrOk P) intr) (hT : TAll (EntOk P) tab) : ∀ d, SoundC P (callD intr tab k d)
  | 0 => fun f args σ r σ' h => by simp [callD] at h
  | d + 1 => fun f args σ r σ' h => by
    simp only [callD] at h
    split at h
    · rename_i g hg
      exact hI.get f g hg _ (callD_sound hI hT d) args σ r σ' h
    · split at h
      · rename_i F hF
        obtain ⟨fn, h1, h2, h3⟩ := hT.get f F hF
        exact fn_ok (callD_sound hI hT d) h1 h2 h3 h
      · cases h
end Go.AM

namespace Go.AM
set_option linter.all false
open Go.RowKit
variable {P : Program} {w0 : Base} {w : World} {G : Gh} {σ : St}

/-- A block that was set aside is let go. -/
theorem W.drop {b : Nat} {ob : Obj} (ob' : Obj) (hW : W (w0.hide b ob) G σ w) (hb : w0.heap.size ≤ b) (hself : ∀ ob, (b, ob) ∉ w0.hid) : W w0 G σ (w.putObj b ob') := by
  obtain ⟨g1, g2, g3⟩ := hW.hid b ob (List.mem_cons_self ..)
  refine ⟨hW.below.trans ⟨rfl, rfl, rfl, by simp, fun k hk => World.putObj_heap_other ?_⟩, ?_, ?_, hW.sep, hW.sepΓ, hW.fresh, ?_, ?_, hW.famLive, ?_⟩
  · have : w0.heap.size ≤ b := hb
    have hk' : k < w0.heap.size := hk
    omega
  · intro l p hl
    refine (hW.obj l p hl).mono (Gle.refl G) (fun b' hb' => World.putObj_heap_other ?_) (fun _ _ => ⟨rfl, fun _ _ => rfl⟩)
    rintro rfl
    exact g3 l p hl hb'
  · intro k pre tot h
    rw [World.putObj_heap_other (by rintro rfl; rw [g2] at h; cases h)]
    exact hW.arr k pre tot h
  · intro k x h; simpa using hW.room k x h
  · intro l e k h; simpa using hW.roomΦ l e k h
  · intro k x h
    obtain ⟨h1, h2, h3⟩ := hW.hid k x (List.mem_cons_of_mem _ h)
    refine ⟨?_, h2, h3⟩
    rw [World.putObj_heap_other (by rintro rfl; exact hself _ h)]
    exact h1

/-- A range over a function that never calls its yield. -/
theorem rng_wp {calls : Calls'} (hC : SoundC P calls) {n : Nat} {g : Operand} {gx : AX} {ps : Array Tmp} {as bd : Code} {fr : Fr} {a : Act} {f : FuncId} {first cap : List AV} {r : AV} {σ' : St} {Q : Exit → Act → World → Prop}
    (hx : xChk g gx = true) (hg : gx.ev fr.at = .fn f first cap) (hcall : calls f (first ++ [.undef] ++ cap) σ = some (r, σ')) (hW : W w0 G σ w) (hF : RelF G n fr.at a)
    (hQ : ∀ b a' w' G', a'.defers = [{ target := .collected b, args := #[] }] ++ a.defers → w0.heap.size ≤ b → (∀ ob, (b, ob) ∉ w0.hid) → Gle G G' → W (w0.hide b (.deferred (some []))) G' σ' w' → RelF G' n fr.at a' → Q .normal a' w') :
    (Code.rangeFunc g ps as bd).wp P Q a w := by
  obtain ⟨h1, h2⟩ := hC f _ σ r σ' hcall
  have hxr := xChk_rel hF hx
  rw [hg] at hxr
  refine (wpIn_wide (n := 0)).1 (wpIn_rangeFunc ?_)
  intro fn _
  generalize hv : a.eval g = gv at hxr
  cases hxr with
  | fn _ _ _ fs cs q1 q2 =>
    let rec1 : Loop := { state := .ready, pending := none, fn, tmps := a.tmps, params := ps, assign := as, body := bd, defers := w.heap.size }
    have hW1 := (hW.hide (.deferred (some []))).hide (.loop rec1)
    have hsz : (w.alloc (.deferred (some []))).heap.size = w.heap.size + 1 := by simp
    rw [hsz] at hW1
    refine ⟨w.heap.size + 1, [{ target := .collected w.heap.size, args := #[] }], (w.alloc (.deferred (some []))).alloc (.loop rec1),
      { target := .fn (.func f) cs, args := fs ++ #[.func (.yield (w.heap.size + 1)) #[] #[]] }, (w.alloc (.deferred (some []))).alloc (.loop rec1), f, fs ++ #[.func (.yield (w.heap.size + 1)) #[] #[]] ++ cs, (w.alloc (.deferred (some []))).alloc (.loop rec1),
      run_enterLoop_outer _ _ _ _ _, ?_, fun _ _ => trivial, ?_, (fun h => nomatch h), ?_⟩
    · simp only [resolve, hv]
      simp [Deferred.ofValue, Act.eval]
    · simp only [invoke]; exact h1 _ _
    · refine callsIn_wide.2 ((h2 _ G _ _ hW1 ?_).mono ?_)
      · simp only [Array.toList_append]
        exact (q1.append (.cons _ _ _ _ _ (.undef _) (by simp) (.nil _))).append q2
      · rintro e w3 ⟨v, G', rfl, hG, hW3, hr⟩
        have hrec := (hW3.hid (w.heap.size + 1) _ (List.mem_cons_self ..)).1
        have hself : ∀ ob, (w.heap.size, ob) ∉ w0.hid := fun ob h => by have := hW.hid_lt h; omega
        have hself2 : ∀ ob, (w.heap.size + 1, ob) ∉ (w0.hide w.heap.size (.deferred (some []))).hid := fun ob h => by
          rcases List.mem_cons.1 h with h | h
          · have := congrArg Prod.fst h; simp at this
          · have := hW.hid_lt h; omega
        refine ⟨none, _, run_endLoop hrec (by simp [rec1]), ?_⟩
        exact hQ w.heap.size _ _ G' rfl hW.below.size hself hG (hW3.drop _ (by show w0.heap.size ≤ _; have := hW.below.size; omega) hself2) ⟨hF.size, fun t => (hF.slot t).mono hG⟩

/-- A function with one range over a function that hands out nothing. -/
structure AR where
  ntmps : Nat
  res : List ARes
  pre : List AC
  g : AX
  post : AC

def preRun (calls : Calls') (k : Nat) : List AC → Run
  | [], fr, σ => some (.normal, fr, σ)
  | c :: r, fr, σ => match aExec calls k c fr σ with
    | some (.normal, fr', σ') => preRun calls k r fr' σ'
    | some (.ret, fr', σ') => some (.ret, fr', σ')
    | _ => .none

def AR.tail (F : AR) (calls : Calls') (k : Nat) (fr : Fr) (σ : St) : Option (AV × St) := match F.g.ev fr.at with
  | .fn f first cap => match calls f (first ++ [.undef] ++ cap) σ with
    | some (_, σ2) => match aExec calls k F.post fr σ2 with
      | some (.ret, fr', σ3) => match aResult fr' σ3 F.res with | some v => some (v, σ3) | .none => .none
      | _ => .none
    | .none => .none
  | _ => .none

def AR.run (F : AR) (calls : Calls') (k : Nat) (args : List AV) (σ : St) : Option (AV × St) :=
  if Nat.ble args.length F.ntmps then match preRun calls k F.pre (initFr 0 args .leaf) σ with
    | some (.normal, fr, σ') => F.tail calls k fr σ'
    | some (.ret, fr, σ') => match aResult fr σ' F.res with | some v => some (v, σ') | .none => .none
    | _ => .none
  else .none

def rngChk (P : Program) (n : Nat) (g : AX) (post : AC) : List AC → Code → Bool
  | [p], .seq (.seq a (.block _ (.rangeFunc g' _ _ _))) c => codeChk P n a p && (xChk g' g && codeChk P n c post)
  | p :: q :: r, .seq a b => codeChk P n a p && rngChk P n g post (q :: r) b
  | _, _ => false

def rfnChk (P : Program) (fn : Func) (F : AR) : Bool := match fn.body with
  | some c => fn.ntmps.beq F.ntmps && (resChk P fn.results.toList F.res && rngChk P F.ntmps F.g F.post F.pre c)
  | none => false

theorem tail_ok {calls : Calls'} (hC : SoundC P calls) {F : AR} {k : Nat} {c : Code} {id : Nat} {g : Operand} {ps : Array Tmp} {as bd : Code} {fn : Func} {r : AV} {σ' : St} {R : Ending → World → Prop}
    (hres : resChk P fn.results.toList F.res = true) (hx : xChk g F.g = true) (hc : codeChk P F.ntmps c F.post = true) {fr : Fr} {a : Act} (h : F.tail calls k fr σ = some (r, σ')) (hW : W w0 G σ w) (hF : RelF G F.ntmps fr.at a)
    (hd : a.defers = []) (hR : ∀ v G' w', Gle G G' → W w0 G' σ' w' → RelV G' r v → R (.returned v) w') :
    (Code.block id (.rangeFunc g ps as bd)).wp P (Exit.then (c.wp P (bodyPostM Fence.wide 0 P fn R)) (bodyPostM Fence.wide 0 P fn R)) a w := by
  unfold AR.tail at h
  split at h
  · rename_i f first cap hg
    split at h
    · rename_i r2 σ2 hcall
      split at h
      · rename_i fr' σ3 hpost
        split at h
        · rename_i v hv
          cases h
          refine wp_block (rng_wp hC hx hg hcall hW hF ?_)
          intro b a' w' G' hd' hb hself hG hW' hF'
          refine exec_ok hC F.post c hc (w0.hide b (.deferred (some []))) G' σ2 w' fr a' _ _ _ _ hpost hW' hF' fun a'' w'' G'' hd'' hG' hW'' hF'' => ?_
          have hDef : a''.defers = [{ target := .collected b, args := #[] }] := by rw [hd'', hd', hd]; rfl
          have hdefer := (hW''.hid b _ (List.mem_cons_self ..)).1
          have hW3 := hW''.drop (.deferred none) hb hself
          obtain ⟨u, hr, hv'⟩ := results_ok hW3 hF'' hres hv
          show LeavesInM _ _ _ _ _ _ _ _ _
          rw [hDef]
          refine ⟨by simp, .inl ⟨b, _, rfl, run_takeDeferred hdefer, ?_⟩⟩
          exact ⟨u, hr, hR u G'' _ (hG.trans hG') hW3 hv'⟩
        · cases h
      · cases h
    · cases h
  · cases h

theorem pre_ok {calls : Calls'} (hC : SoundC P calls) {F : AR} {k : Nat} {fn : Func} {r : AV} {σ' : St} {R : Ending → World → Prop} (hres : resChk P fn.results.toList F.res = true) :
    ∀ (pre : List AC) (c : Code) (G : Gh) (σ : St) (w : World) (fr : Fr) (a : Act), rngChk P F.ntmps F.g F.post pre c = true →
    (match preRun calls k pre fr σ with
      | some (.normal, fr, σ') => F.tail calls k fr σ'
      | some (.ret, fr, σ') => match aResult fr σ' F.res with | some v => some (v, σ') | .none => .none
      | _ => .none) = some (r, σ') → W w0 G σ w → RelF G F.ntmps fr.at a → a.defers = [] →
    (∀ v G' w', Gle G G' → W w0 G' σ' w' → RelV G' r v → R (.returned v) w') → c.wp P (bodyPostM Fence.wide 0 P fn R) a w
  | [], c, G, σ, w, fr, a, hc, h, hW, hF, hd, hR => by
    unfold rngChk at hc
    cases hc
  | [p], c, G, σ, w, fr, a, hc, h, hW, hF, hd, hR => by
    unfold rngChk at hc
    split at hc
    · rename_i p' c1 id g' ps as bd c2 heq
      cases heq
      simp only [Bool.and_eq_true] at hc
      refine wp_seq (wp_seq ?_)
      simp only [preRun] at h
      cases he : aExec calls k p fr σ with
      | none => rw [he] at h; cases h
      | some q =>
        obtain ⟨e, fr1, σ1⟩ := q
        rw [he] at h
        cases e with
        | normal =>
          exact exec_ok hC p c1 hc.1 w0 G σ w fr a _ _ _ _ he hW hF fun a' w' G' hd' hG hW' hF' =>
            tail_ok hC hres hc.2.1 hc.2.2 h hW' hF' (hd'.trans hd) fun v G'' w'' hG' => hR v G'' w'' (hG.trans hG')
        | exit id => cases h
        | ret =>
          simp only at h
          split at h
          · rename_i v hv
            cases h
            refine exec_ok hC p c1 hc.1 w0 G σ w fr a _ _ _ _ he hW hF fun a' w' G' hd' hG hW' hF' => ?_
            obtain ⟨u, hr, hv'⟩ := results_ok hW' hF' hres hv
            show LeavesInM _ _ _ _ _ _ _ _ _
            rw [hd', hd]
            exact ⟨u, hr, hR u G' _ hG hW' hv'⟩
          · cases h
    · rename_i heq; simp at heq
    · cases hc
  | p :: q :: ps, c, G, σ, w, fr, a, hc, h, hW, hF, hd, hR => by
    cases c <;> simp only [rngChk, Bool.false_eq_true, Bool.and_eq_true] at hc
    rename_i c1 c2
    refine wp_seq ?_
    unfold preRun at h
    cases he : aExec calls k p fr σ with
    | none => rw [he] at h; cases h
    | some q =>
      obtain ⟨e, fr1, σ1⟩ := q
      rw [he] at h
      cases e with
      | normal =>
        exact exec_ok hC p c1 hc.1 w0 G σ w fr a _ _ _ _ he hW hF fun a' w' G' hd' hG hW' hF' =>
          pre_ok hC hres (_ :: ps) c2 G' σ1 w' fr1 a' hc.2 h hW' hF' (hd'.trans hd) fun v G'' w'' hG' => hR v G'' w'' (hG.trans hG')
      | exit id => cases h
      | ret =>
        simp only at h
        split at h
        · rename_i v hv
          cases h
          refine exec_ok hC p c1 hc.1 w0 G σ w fr a _ _ _ _ he hW hF fun a' w' G' hd' hG hW' hF' => ?_
          obtain ⟨u, hr, hv'⟩ := results_ok hW' hF' hres hv
          show LeavesInM _ _ _ _ _ _ _ _ _
          rw [hd', hd]
          exact ⟨u, hr, hR u G' _ hG hW' hv'⟩
        · cases h

theorem rfn_ok {calls : Calls'} (hC : SoundC P calls) {f : FuncId} {fn : Func} {F : AR} {k : Nat} (hf : P.funcs[f]? = some fn) (hcall : ∀ vs w, (callFunc f vs).run P w = .ok (.enter f vs) w)
    (hc : rfnChk P fn F = true) {args : List AV} {r : AV} {σ' : St} (h : F.run calls k args σ = some (r, σ')) : CallOk P f args σ r σ' := by
  refine ⟨hcall, fun w0 G w vs hW hargs => ?_⟩
  unfold AR.run at h
  split at h
  · rename_i hle
    have hle := Nat.le_of_ble_eq_true hle
    unfold rfnChk at hc
    split at hc
    · rename_i c hb
      simp only [Bool.and_eq_true, Nat.beq_eq] at hc
      obtain ⟨h1, h2, h3⟩ := hc
      refine callsIn_wide.1 (callsIn_of_wp_marks (n := 0) hf hb trivial (wpIn_wide.2 ?_))
      exact pre_ok hC h2 F.pre c G σ w _ _ h3 h hW (init_rel hargs h1 hle) rfl fun v G' w' hG hW' hv => ⟨v, G', rfl, hG, hW', hv⟩
    · cases hc
  · cases h
end Go.AM

namespace Go.AM
set_option linter.all false
open Go.RowKit

def Gh.empty : Gh := ⟨fun _ => none, fun _ => none, fun _ => none⟩
def St.empty : St := ⟨0, .leaf⟩

theorem W.start (w : World) : W ⟨w, []⟩ Gh.empty St.empty w where
  below := Below.refl _ _
  obj l o h := by simp [St.empty, St.get, Trie.get] at h
  arr b pre tot h := by cases h
  sep l l' o o' b h := by simp [St.empty, St.get, Trie.get] at h
  sepΓ l o b h := by simp [St.empty, St.get, Trie.get] at h
  fresh l _ := ⟨rfl, rfl, rfl⟩
  room b x h := by cases h
  roomΦ l e b h := by cases h
  famLive l e b h := by cases h
  hid b ob h := by cases h

def isTrue : Option (AV × St) → Bool
  | some (.bool true, _) => true
  | _ => false

theorem isTrue_inv {x : Option (AV × St)} (h : isTrue x = true) : ∃ σ, x = some (.bool true, σ) := by
  unfold isTrue at h
  split at h
  · exact ⟨_, rfl⟩
  · cases h

/-- A run that needs nothing of the heap. -/
theorem closed_walk {P : Program} {calls : Calls'} (hC : SoundC P calls) {f : FuncId} {args : List AV} (h : isTrue (calls f args St.empty) = true) {vs : Array Value} (hargs : RelL Gh.empty false args vs.toList) (w : World) :
    Calls P f vs w fun e w' => e = .returned (.bool true) ∧ Below w.heap.size w w' := by
  obtain ⟨σ', hr⟩ := isTrue_inv h
  refine ((hC f args St.empty _ σ' hr).2 ⟨w, []⟩ Gh.empty w vs (W.start w) hargs).mono ?_
  rintro e w' ⟨v, G', rfl, _, hW, hv⟩
  exact ⟨by rw [hv.bool_inv], hW.below⟩

end Go.AM

namespace Go.AM
set_option linter.all false
open Go.RowKit
theorem cell_one {P : Program} {w : World} {r : Reach} {base : Nat} {t : TypeId} {v : Value} (h : Cell.okWide P w r base t v) : v.oneCell' = true := by
  cases v <;> first | rfl | skip
  all_goals
    unfold Cell.okWide at h
    split at h <;> try contradiction
    all_goals (unfold Cell.ok at h; split at h <;> simp_all)

theorem undefs : ∀ {vs : List Value} {n : Nat}, vs.length = n → (∀ v ∈ vs, v.oneCell' = true) → RelL Gh.empty true (List.replicate n .undef) vs
  | [], _, rfl, _ => .nil _
  | v :: vs, _, rfl, h => .cons _ _ _ _ _ (.undef _) (fun _ => h v (by simp)) (undefs rfl fun u hu => h u (by simp [hu]))

theorem struct_undef {P : Program} {w : World} {t : TypeId} {v : Value} {fs : Array Field} {n : Nat} (ht : P.underlying t = some (.struct fs)) (hn : P.cellsOf t = n) (h : Value.okWide P w .any 0 t v) :
    RelV Gh.empty (.agg (List.replicate n .undef)) v := by
  unfold Value.okWide at h
  rw [ht] at h
  obtain ⟨cs, rfl, hs, ts, _, _, hc⟩ := h
  refine .agg _ _ (undefs (by simpa [hn] using hs) fun u hu => ?_)
  obtain ⟨i, hi⟩ := List.getElem?_of_mem hu
  obtain ⟨u', _, ho⟩ := hc i u (by simpa using hi)
  exact cell_one ho
end Go.AM

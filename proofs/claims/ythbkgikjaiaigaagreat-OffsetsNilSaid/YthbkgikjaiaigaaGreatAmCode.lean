import Derived.Test.YthbkgikjaiaigaaGreatAmDraw2
namespace Go.AM
set_option linter.all false
open Go.RowKit
variable {P : Program} {w0 : Base} {w : World} {G : Gh} {σ : St}

/-- Does abstract code say what code does? -/
def codeChk (P : Program) (n : Nat) : Code → AC → Bool
  | .skip, .skip => true
  | .label _, .skip => true
  | .region _ ops draw, .reg as => !draw && opsChk P ops n ops.toList as
  | .region _ ops draw, .dreg d => draw && (P.follows .mixedOrders && dregChk P ops n d)
  | .seq a b, .seq x y => codeChk P n a x && codeChk P n b y
  | .cond c a b, .cond c' x y => xChk c c' && (codeChk P n a x && codeChk P n b y)
  | .block id c, .block id' x => id.beq id' && codeChk P n c x
  | .loop c, .loop x => codeChk P n c x
  | .scope c, .scope x => codeChk P n c x
  | c, .keep _ _ x => codeChk P n c x
  | .exit id, .exit id' => id.beq id'
  | .ret, .ret => true
  | _, _ => false

theorem codeChk_keep (P : Program) (n : Nat) (c : Code) (d : Nat) (ts : List Nat) (x : AC) : codeChk P n c (.keep d ts x) = codeChk P n c x := by cases c <;> rfl

theorem fullT_at : ∀ (d t : Nat), (fullT d).at t = .undef
  | 0, _ => rfl
  | d + 1, 0 => rfl
  | d + 1, t + 1 => by
    have := fullT_at d (t / 2)
    simp only [Fr.at, fullT, Trie.get] at this ⊢
    cases (t % 2).beq 0 <;> exact this

theorem putAll_at (fr0 : Fr) : ∀ (ts : List Nat) (fr : Fr) (t : Nat), (putAll (ts.map fun t => (t, fr0.at t)) fr).at t = fr0.at t ∨ (putAll (ts.map fun t => (t, fr0.at t)) fr).at t = fr.at t
  | [], fr, t => .inr rfl
  | s :: r, fr, t => by
    simp only [List.map_cons, putAll]
    rcases putAll_at fr0 r (fr.put s (fr0.at s)) t with h | h
    · exact .inl h
    · rw [Fr.at_put] at h
      by_cases hs : s = t
      · subst hs; rw [if_pos rfl] at h; exact .inl h
      · rw [if_neg hs] at h; exact .inr h

theorem keepFr_at (d : Nat) (ts : List Nat) (fr : Fr) (t : Nat) : (keepFr d ts fr).at t = fr.at t ∨ (keepFr d ts fr).at t = .undef := by
  unfold keepFr frL
  have := putAll_at fr ts (fullT d) t
  rwa [fullT_at] at this

theorem RelF.keep {G : Gh} {n : Nat} {fr : Fr} {a : Act} (h : RelF G n fr.at a) (d : Nat) (ts : List Nat) : RelF G n (keepFr d ts fr).at a := by
  refine ⟨h.size, fun t => ?_⟩
  rcases keepFr_at d ts fr t with e | e
  · rw [e]; exact h.slot t
  · rw [e]; exact .undef _

def exOf : AExit → Exit
  | .normal => .normal
  | .exit id => .exit id
  | .ret => .ret

def ExecOk (P : Program) (calls : Calls') (n : Nat) (run : Run) (c : Code) : Prop :=
  ∀ w0 G σ w fr a e fr' σ' (Q : Exit → Act → World → Prop), run fr σ = some (e, fr', σ') → W w0 G σ w → RelF G n fr.at a →
    (∀ a' w' G', a'.defers = a.defers → Gle G G' → W w0 G' σ' w' → RelF G' n fr'.at a' → Q (exOf e) a' w') → c.wp P Q a w

theorem loop_ok {calls : Calls'} {n : Nat} {run : Run} {c : Code} (h : ExecOk P calls n run c) : ∀ (m : Nat) w0 G σ w fr a e fr' σ' (Q : Exit → Act → World → Prop), aLoop run m fr σ = some (e, fr', σ') → W w0 G σ w → RelF G n fr.at a →
    (∀ a' w' G', a'.defers = a.defers → Gle G G' → W w0 G' σ' w' → RelF G' n fr'.at a' → Q (exOf e) a' w') → Code.rounds P c Q m a w
  | 0, w0, G, σ, w, fr, a, e, fr', σ', Q, hr, _, _, _ => by simp [aLoop] at hr
  | m + 1, w0, G, σ, w, fr, a, e, fr', σ', Q, hr, hW, hF, hQ => by
    rw [rounds_succ]
    simp only [aLoop] at hr
    split at hr
    · rename_i fr1 σ1 h1
      exact h w0 G σ w fr a _ fr1 σ1 _ h1 hW hF fun a' w' G' hd hG hW' hF' =>
        loop_ok h m w0 G' σ1 w' fr1 a' e fr' σ' Q hr hW' hF' fun a'' w'' G'' hd' hG' => hQ a'' w'' G'' (hd'.trans hd) (hG.trans hG')
    · rename_i id fr1 σ1 h1
      cases hr
      exact h w0 G σ w fr a _ _ _ _ h1 hW hF hQ
    · rename_i fr1 σ1 h1
      cases hr
      exact h w0 G σ w fr a _ _ _ _ h1 hW hF hQ
    · cases hr

theorem exec_ok {calls : Calls'} (hC : SoundC P calls) {n k : Nat} : ∀ (ac : AC) (c : Code), codeChk P n c ac = true → ExecOk P calls n (aExec calls k ac) c
  | .skip, c, hc => by
    intro w0 G σ w fr a e fr' σ' Q hr hW hF hQ
    simp only [aExec] at hr
    cases hr
    cases c <;> simp [codeChk] at hc
    · exact wp_skip (hQ a w G rfl (Gle.refl G) hW hF)
    · exact wp_label (hQ a w G rfl (Gle.refl G) hW hF)
  | .reg ops, c, hc => by
    intro w0 G σ w fr a e fr' σ' Q hr hW hF hQ
    simp only [aExec] at hr
    split at hr
    · rename_i fr1 σ1 h1
      cases hr
      cases c <;> simp only [codeChk, Bool.false_eq_true, Bool.and_eq_true, Bool.not_eq_true'] at hc
      obtain ⟨rfl, hc⟩ := hc
      exact region_wp hC hc h1 hW hF hQ
    · cases hr
  | .dreg d, c, hc => by
    intro w0 G σ w fr a e fr' σ' Q hr hW hF hQ
    simp only [aExec] at hr
    split at hr
    · rename_i fr1 σ1 h1
      cases hr
      cases c <;> simp only [codeChk, Bool.false_eq_true, Bool.and_eq_true] at hc
      obtain ⟨rfl, hf, hc⟩ := hc
      exact dreg_wp hC hf hc h1 hW hF hQ
    · cases hr
  | .scope x, c, hc => by
    intro w0 G σ w fr a e fr' σ' Q hr hW hF hQ
    simp only [aExec] at hr
    cases c <;> simp only [codeChk, Bool.false_eq_true] at hc
    rename_i c
    refine wp_scope_straight (exec_ok hC x c hc w0 G σ w fr a e fr' σ' _ hr hW hF fun a' w' G' hd hG hW' hF' => ?_)
    have := hQ a' w' G' hd hG hW' hF'
    cases e <;> exact this
  | .keep d ts x, c, hc => by
    intro w0 G σ w fr a e fr' σ' Q hr hW hF hQ
    simp only [aExec] at hr
    exact exec_ok hC x c (by rw [codeChk_keep] at hc; exact hc) w0 G σ w _ a e fr' σ' Q hr hW (hF.keep d ts) hQ
  | .seq x y, c, hc => by
    intro w0 G σ w fr a e fr' σ' Q hr hW hF hQ
    cases c <;> simp only [codeChk, Bool.false_eq_true, Bool.and_eq_true] at hc
    rename_i c1 c2
    simp only [aExec] at hr
    refine wp_seq ?_
    split at hr
    · rename_i fr1 σ1 h1
      exact exec_ok hC x c1 hc.1 w0 G σ w fr a _ fr1 σ1 _ h1 hW hF fun a' w' G' hd hG hW' hF' =>
        exec_ok hC y c2 hc.2 w0 G' σ1 w' fr1 a' e fr' σ' Q hr hW' hF' fun a'' w'' G'' hd' hG' => hQ a'' w'' G'' (hd'.trans hd) (hG.trans hG')
    · rename_i id fr1 σ1 h1
      cases hr
      exact exec_ok hC x c1 hc.1 w0 G σ w fr a _ _ _ _ h1 hW hF hQ
    · rename_i fr1 σ1 h1
      cases hr
      exact exec_ok hC x c1 hc.1 w0 G σ w fr a _ _ _ _ h1 hW hF hQ
    · cases hr
  | .cond t x y, c, hc => by
    intro w0 G σ w fr a e fr' σ' Q hr hW hF hQ
    cases c <;> simp only [codeChk, Bool.false_eq_true, Bool.and_eq_true] at hc
    rename_i o c1 c2
    obtain ⟨h1, h2, h3⟩ := hc
    have hx := xChk_rel hF h1
    simp only [aExec] at hr
    split at hr
    · rename_i ht
      rw [ht] at hx
      exact wp_cond_true hx.bool_inv (exec_ok hC x c1 h2 w0 G σ w fr a e fr' σ' Q hr hW hF hQ)
    · rename_i ht
      rw [ht] at hx
      exact wp_cond_false hx.bool_inv (exec_ok hC y c2 h3 w0 G σ w fr a e fr' σ' Q hr hW hF hQ)
    · cases hr
  | .block id x, c, hc => by
    intro w0 G σ w fr a e fr' σ' Q hr hW hF hQ
    cases c <;> simp only [codeChk, Bool.false_eq_true, Bool.and_eq_true, Nat.beq_eq] at hc
    rename_i id' c1
    obtain ⟨rfl, hc⟩ := hc
    simp only [aExec] at hr
    refine wp_block ?_
    split at hr
    · rename_i id' fr1 σ1 h1
      refine exec_ok hC x c1 hc w0 G σ w fr a _ fr1 σ1 _ h1 hW hF fun a' w' G' hd hG hW' hF' => ?_
      simp only [exOf, Exit.inBlock]
      split at hr
      · rename_i hb
        cases hr
        rw [if_pos (Nat.eq_of_beq_eq_true hb)]
        exact hQ a' w' G' hd hG hW' hF'
      · rename_i hb
        cases hr
        rw [if_neg (fun h => hb (by rw [h]; exact Nat.beq_refl _))]
        exact hQ a' w' G' hd hG hW' hF'
    · rename_i fr1 σ1 h1
      cases hr
      exact exec_ok hC x c1 hc w0 G σ w fr a _ _ _ _ h1 hW hF hQ
    · rename_i fr1 σ1 h1
      cases hr
      exact exec_ok hC x c1 hc w0 G σ w fr a _ _ _ _ h1 hW hF hQ
    · cases hr
  | .loop x, c, hc => by
    intro w0 G σ w fr a e fr' σ' Q hr hW hF hQ
    cases c <;> simp only [codeChk, Bool.false_eq_true] at hc
    rename_i c1
    simp only [aExec] at hr
    exact wp_loop_rounds k (loop_ok (calls := calls) (exec_ok hC x c1 hc) k w0 G σ w fr a e fr' σ' Q hr hW hF hQ)
  | .exit id, c, hc => by
    intro w0 G σ w fr a e fr' σ' Q hr hW hF hQ
    cases c <;> simp only [codeChk, Bool.false_eq_true, Nat.beq_eq] at hc
    subst hc
    simp only [aExec] at hr
    cases hr
    exact wp_exit (hQ a w G rfl (Gle.refl G) hW hF)
  | .ret, c, hc => by
    intro w0 G σ w fr a e fr' σ' Q hr hW hF hQ
    cases c <;> simp only [codeChk, Bool.false_eq_true] at hc
    simp only [aExec] at hr
    cases hr
    exact wp_ret (hQ a w G rfl (Gle.refl G) hW hF)

/- functions -/
def resChk1 (P : Program) : ResultVar → ARes → Bool
  | .tmp t, .tmp t' => t.beq t'
  | .cell a t, .cell1 a' => a.beq a' && (match P.underlying t with | some d => !aggD d | none => false)
  | .cell a t, .celln a' n => a.beq a' && (match P.underlying t with | some d => aggD d | none => false) && (match P.info? t with | some i => i.size.beq n | none => false)
  | _, _ => false

def resChk (P : Program) : List ResultVar → List ARes → Bool
  | [], [] => true
  | r :: l, x :: xs => resChk1 P r x && resChk P l xs
  | _, _ => false

def fnChk (P : Program) (fn : Func) (F : AF) : Bool := match fn.body with
  | some c => fn.ntmps.beq F.ntmps && (resChk P fn.results.toList F.res && codeChk P F.ntmps c F.body)
  | none => false

def resSem (tmps : Array Value) : ResultVar → Sem Value
  | .tmp t => pure (tmps.getD t Go.undef)
  | .cell a t => do loadVar t (← asAddr (tmps.getD a Go.undef))

theorem results_eq (fn : Func) (tmps : Array Value) : results fn tmps = (do
    let vs ← fn.results.mapM (resSem tmps)
    pure (if h : vs.size = 1 then vs[0] else .tuple vs)) := by
  unfold results
  congr 1

theorem res1_ok {n : Nat} {fr : Fr} {a : Act} (hW : W w0 G σ w) (hF : RelF G n fr.at a) {r : ResultVar} {x : ARes} (hc : resChk1 P r x = true) {v : AV} (h : aRes1 fr σ x = some v) :
    ∃ u, (resSem a.tmps r).run P w = .ok u w ∧ RelV G v u := by
  cases r with
  | tmp t =>
    cases x <;> simp [resChk1] at hc
    subst hc
    simp only [aRes1, Option.some.injEq] at h
    subst h
    exact ⟨_, by simp [resSem], hF.slot t⟩
  | cell t ty =>
    cases x with
    | tmp _ => simp [resChk1] at hc
    | cell1 t' =>
      simp only [resChk1, Bool.and_eq_true, Nat.beq_eq] at hc
      obtain ⟨rfl, hc⟩ := hc
      split at hc
      · rename_i d hd
        simp only [aRes1] at h
        have h' : aLoad σ 1 (fr.at t) = some [v] := by split at h <;> simp_all
        obtain ⟨ad, vs, e, hR, hl, hcell⟩ := aLoad_rel hW (hF.slot t) h'
        match vs, hl with
        | [u], _ =>
          have h0 := hcell 0 u (by simp)
          have e0 : ad.add 0 = ad := by simp [Addr.add]
          rw [e0] at h0
          refine ⟨u, ?_, by cases hR; assumption⟩
          simp [resSem, e, asAddr, run_loadVar_one hd (by simpa using hc) ad u h0]
      · cases hc
    | celln t' m =>
      simp only [resChk1, Bool.and_eq_true, Nat.beq_eq] at hc
      obtain ⟨⟨rfl, hc⟩, hc2⟩ := hc
      split at hc
      · rename_i d hd
        split at hc2
        · rename_i i hi
          simp at hc2
          subst hc2
          simp only [aRes1] at h
          obtain ⟨cs, h', rfl⟩ : ∃ cs, aLoad σ i.size (fr.at t) = some cs ∧ v = .agg cs := by split at h <;> simp_all
          obtain ⟨ad, vs, e, hR, hl, hcell⟩ := aLoad_rel hW (hF.slot t) h'
          refine ⟨.agg vs.toArray, ?_, .agg _ _ (by simpa using hR)⟩
          simp [resSem, e, asAddr, run_loadVar_agg hd hc hi ad vs hl hcell]
        · cases hc2
      · cases hc

theorem resL_ok {n : Nat} {fr : Fr} {a : Act} (hW : W w0 G σ w) (hF : RelF G n fr.at a) : ∀ {l : List ResultVar} {xs : List ARes} {vs : List AV}, resChk P l xs = true → aResL fr σ xs = some vs →
    ∃ us, (l.mapM (resSem a.tmps)).run P w = .ok us w ∧ RelL G false vs us
  | [], [], vs, _, h => by
    simp only [aResL, Option.some.injEq] at h
    subst h
    exact ⟨[], by simp, .nil _⟩
  | [], _ :: _, _, hc, _ => by simp [resChk] at hc
  | _ :: _, [], _, hc, _ => by simp [resChk] at hc
  | r :: l, x :: xs, vs, hc, h => by
    simp only [resChk, Bool.and_eq_true] at hc
    simp only [aResL] at h
    split at h
    · rename_i v vs' h1 h2
      cases h
      obtain ⟨u, hr, hv⟩ := res1_ok hW hF hc.1 h1
      obtain ⟨us, hrs, hvs⟩ := resL_ok hW hF hc.2 h2
      exact ⟨u :: us, by simp [hr, hrs], .cons _ _ _ _ _ hv (by simp) hvs⟩
    · cases h

theorem results_ok {n : Nat} {fr : Fr} {a : Act} {fn : Func} {xs : List ARes} (hW : W w0 G σ w) (hF : RelF G n fr.at a) (hc : resChk P fn.results.toList xs = true) {v : AV} (h : aResult fr σ xs = some v) :
    ∃ u, (results fn a.tmps).run P w = .ok u w ∧ RelV G v u := by
  unfold aResult at h
  rw [results_eq, Array.mapM_eq_mapM_toList]
  split at h
  · rename_i v' h1
    cases h
    obtain ⟨us, hr, hR⟩ := resL_ok hW hF hc h1
    cases hR with
    | cons _ _ u us _ hv _ hvs =>
      cases hvs
      exact ⟨u, by simp [hr], hv⟩
  · rename_i vs hne h1
    cases h
    obtain ⟨us, hr, hR⟩ := resL_ok hW hF hc h1
    refine ⟨.tuple us.toArray, ?_, .tup _ _ (by simpa using hR)⟩
    have hl : us.length ≠ 1 := by
      intro hl
      rw [← hR.length] at hl
      match vs, hl with
      | [v], _ => exact hne v rfl
    simp [hr, hl]
  · cases h

end Go.AM

import Derived.Test.YthbkgikjaiaigaaGreatAmFn
import Derived.RangeFuncOwn
namespace Go.AM
set_option linter.all false
open Go.RowKit
variable {P : Program} {w0 : Base} {w : World} {G : Gh} {σ : St}

/-- A block that was set aside is let go. -/
theorem W.drop {b : Nat} {ob : Obj} (ob' : Obj) (hW : W (w0.hide b ob) G σ w) (hb : w0.heap.size ≤ b) (hself : ∀ ob, (b, ob) ∉ w0.hid) : W w0 G σ (w.putObj b ob') := by
  obtain ⟨g1, g2, g3⟩ := hW.hid b ob (List.mem_cons_self ..)
  refine ⟨hW.below.trans ⟨rfl, rfl, rfl, by simp, fun k hk => World.putObj_heap_other ?_⟩, ?_, ?_, hW.sep, hW.sepΓ, hW.fresh, ?_, ?_, hW.famLive, ?_⟩
  · have : w0.heap.size ≤ b := hb
    have hk' : k < w0.heap.size := hk
    omega
  · intro l p hl
    refine (hW.obj l p hl).mono (Gle.refl G) (fun b' hb' => World.putObj_heap_other ?_) (fun _ _ => ⟨rfl, fun _ _ => rfl⟩)
    rintro rfl
    exact g3 l p hl hb'
  · intro k pre tot h
    rw [World.putObj_heap_other (by rintro rfl; rw [g2] at h; cases h)]
    exact hW.arr k pre tot h
  · intro k x h; simpa using hW.room k x h
  · intro l e k h; simpa using hW.roomΦ l e k h
  · intro k x h
    obtain ⟨h1, h2, h3⟩ := hW.hid k x (List.mem_cons_of_mem _ h)
    refine ⟨?_, h2, h3⟩
    rw [World.putObj_heap_other (by rintro rfl; exact hself _ h)]
    exact h1

/-- A range over a function that never calls its yield. -/
theorem rng_wp {calls : Calls'} (hC : SoundC P calls) {n : Nat} {g : Operand} {gx : AX} {ps : Array Tmp} {as bd : Code} {fr : Fr} {a : Act} {f : FuncId} {first cap : List AV} {r : AV} {σ' : St} {Q : Exit → Act → World → Prop}
    (hx : xChk g gx = true) (hg : gx.ev fr.at = .fn f first cap) (hcall : calls f (first ++ [.undef] ++ cap) σ = some (r, σ')) (hW : W w0 G σ w) (hF : RelF G n fr.at a)
    (hQ : ∀ b a' w' G', a'.defers = [{ target := .collected b, args := #[] }] ++ a.defers → w0.heap.size ≤ b → (∀ ob, (b, ob) ∉ w0.hid) → Gle G G' → W (w0.hide b (.deferred (some []))) G' σ' w' → RelF G' n fr.at a' → Q .normal a' w') :
    (Code.rangeFunc g ps as bd).wp P Q a w := by
  obtain ⟨h1, h2⟩ := hC f _ σ r σ' hcall
  have hxr := xChk_rel hF hx
  rw [hg] at hxr
  refine (wpIn_wide (n := 0)).1 (wpIn_rangeFunc ?_)
  intro fn _
  generalize hv : a.eval g = gv at hxr
  cases hxr with
  | fn _ _ _ fs cs q1 q2 =>
    let rec1 : Loop := { state := .ready, pending := none, fn, tmps := a.tmps, params := ps, assign := as, body := bd, defers := w.heap.size }
    have hW1 := (hW.hide (.deferred (some []))).hide (.loop rec1)
    have hsz : (w.alloc (.deferred (some []))).heap.size = w.heap.size + 1 := by simp
    rw [hsz] at hW1
    refine ⟨w.heap.size + 1, [{ target := .collected w.heap.size, args := #[] }], (w.alloc (.deferred (some []))).alloc (.loop rec1),
      { target := .fn (.func f) cs, args := fs ++ #[.func (.yield (w.heap.size + 1)) #[] #[]] }, (w.alloc (.deferred (some []))).alloc (.loop rec1), f, fs ++ #[.func (.yield (w.heap.size + 1)) #[] #[]] ++ cs, (w.alloc (.deferred (some []))).alloc (.loop rec1),
      run_enterLoop_outer _ _ _ _ _, ?_, fun _ _ => trivial, ?_, (fun h => nomatch h), ?_⟩
    · simp only [resolve, hv]
      simp [Deferred.ofValue, Act.eval]
    · simp only [invoke]; exact h1 _ _
    · refine callsIn_wide.2 ((h2 _ G _ _ hW1 ?_).mono ?_)
      · simp only [Array.toList_append]
        exact (q1.append (.cons _ _ _ _ _ (.undef _) (by simp) (.nil _))).append q2
      · rintro e w3 ⟨v, G', rfl, hG, hW3, hr⟩
        have hrec := (hW3.hid (w.heap.size + 1) _ (List.mem_cons_self ..)).1
        have hself : ∀ ob, (w.heap.size, ob) ∉ w0.hid := fun ob h => by have := hW.hid_lt h; omega
        have hself2 : ∀ ob, (w.heap.size + 1, ob) ∉ (w0.hide w.heap.size (.deferred (some []))).hid := fun ob h => by
          rcases List.mem_cons.1 h with h | h
          · have := congrArg Prod.fst h; simp at this
          · have := hW.hid_lt h; omega
        refine ⟨none, _, run_endLoop hrec (by simp [rec1]), ?_⟩
        exact hQ w.heap.size _ _ G' rfl hW.below.size hself hG (hW3.drop _ (by show w0.heap.size ≤ _; have := hW.below.size; omega) hself2) ⟨hF.size, fun t => (hF.slot t).mono hG⟩

/-- A function with one range over a function that hands out nothing. -/
structure AR where
  ntmps : Nat
  res : List ARes
  pre : List AC
  g : AX
  post : AC

def preRun (calls : Calls') (k : Nat) : List AC → Run
  | [], fr, σ => some (.normal, fr, σ)
  | c :: r, fr, σ => match aExec calls k c fr σ with
    | some (.normal, fr', σ') => preRun calls k r fr' σ'
    | some (.ret, fr', σ') => some (.ret, fr', σ')
    | _ => .none

def AR.tail (F : AR) (calls : Calls') (k : Nat) (fr : Fr) (σ : St) : Option (AV × St) := match F.g.ev fr.at with
  | .fn f first cap => match calls f (first ++ [.undef] ++ cap) σ with
    | some (_, σ2) => match aExec calls k F.post fr σ2 with
      | some (.ret, fr', σ3) => match aResult fr' σ3 F.res with | some v => some (v, σ3) | .none => .none
      | _ => .none
    | .none => .none
  | _ => .none

def AR.run (F : AR) (calls : Calls') (k : Nat) (args : List AV) (σ : St) : Option (AV × St) :=
  if Nat.ble args.length F.ntmps then match preRun calls k F.pre (initFr 0 args .leaf) σ with
    | some (.normal, fr, σ') => F.tail calls k fr σ'
    | some (.ret, fr, σ') => match aResult fr σ' F.res with | some v => some (v, σ') | .none => .none
    | _ => .none
  else .none

def rngChk (P : Program) (n : Nat) (g : AX) (post : AC) : List AC → Code → Bool
  | [p], .seq (.seq a (.block _ (.rangeFunc g' _ _ _))) c => codeChk P n a p && (xChk g' g && codeChk P n c post)
  | p :: q :: r, .seq a b => codeChk P n a p && rngChk P n g post (q :: r) b
  | _, _ => false

def rfnChk (P : Program) (fn : Func) (F : AR) : Bool := match fn.body with
  | some c => fn.ntmps.beq F.ntmps && (resChk P fn.results.toList F.res && rngChk P F.ntmps F.g F.post F.pre c)
  | none => false

theorem tail_ok {calls : Calls'} (hC : SoundC P calls) {F : AR} {k : Nat} {c : Code} {id : Nat} {g : Operand} {ps : Array Tmp} {as bd : Code} {fn : Func} {r : AV} {σ' : St} {R : Ending → World → Prop}
    (hres : resChk P fn.results.toList F.res = true) (hx : xChk g F.g = true) (hc : codeChk P F.ntmps c F.post = true) {fr : Fr} {a : Act} (h : F.tail calls k fr σ = some (r, σ')) (hW : W w0 G σ w) (hF : RelF G F.ntmps fr.at a)
    (hd : a.defers = []) (hR : ∀ v G' w', Gle G G' → W w0 G' σ' w' → RelV G' r v → R (.returned v) w') :
    (Code.block id (.rangeFunc g ps as bd)).wp P (Exit.then (c.wp P (bodyPostM Fence.wide 0 P fn R)) (bodyPostM Fence.wide 0 P fn R)) a w := by
  unfold AR.tail at h
  split at h
  · rename_i f first cap hg
    split at h
    · rename_i r2 σ2 hcall
      split at h
      · rename_i fr' σ3 hpost
        split at h
        · rename_i v hv
          cases h
          refine wp_block (rng_wp hC hx hg hcall hW hF ?_)
          intro b a' w' G' hd' hb hself hG hW' hF'
          refine exec_ok hC F.post c hc (w0.hide b (.deferred (some []))) G' σ2 w' fr a' _ _ _ _ hpost hW' hF' fun a'' w'' G'' hd'' hG' hW'' hF'' => ?_
          have hDef : a''.defers = [{ target := .collected b, args := #[] }] := by rw [hd'', hd', hd]; rfl
          have hdefer := (hW''.hid b _ (List.mem_cons_self ..)).1
          have hW3 := hW''.drop (.deferred none) hb hself
          obtain ⟨u, hr, hv'⟩ := results_ok hW3 hF'' hres hv
          show LeavesInM _ _ _ _ _ _ _ _ _
          rw [hDef]
          refine ⟨by simp, .inl ⟨b, _, rfl, run_takeDeferred hdefer, ?_⟩⟩
          exact ⟨u, hr, hR u G'' _ (hG.trans hG') hW3 hv'⟩
        · cases h
      · cases h
    · cases h
  · cases h

theorem pre_ok {calls : Calls'} (hC : SoundC P calls) {F : AR} {k : Nat} {fn : Func} {r : AV} {σ' : St} {R : Ending → World → Prop} (hres : resChk P fn.results.toList F.res = true) :
    ∀ (pre : List AC) (c : Code) (G : Gh) (σ : St) (w : World) (fr : Fr) (a : Act), rngChk P F.ntmps F.g F.post pre c = true →
    (match preRun calls k pre fr σ with
      | some (.normal, fr, σ') => F.tail calls k fr σ'
      | some (.ret, fr, σ') => match aResult fr σ' F.res with | some v => some (v, σ') | .none => .none
      | _ => .none) = some (r, σ') → W w0 G σ w → RelF G F.ntmps fr.at a → a.defers = [] →
    (∀ v G' w', Gle G G' → W w0 G' σ' w' → RelV G' r v → R (.returned v) w') → c.wp P (bodyPostM Fence.wide 0 P fn R) a w
  | [], c, G, σ, w, fr, a, hc, h, hW, hF, hd, hR => by
    unfold rngChk at hc
    cases hc
  | [p], c, G, σ, w, fr, a, hc, h, hW, hF, hd, hR => by
    unfold rngChk at hc
    split at hc
    · rename_i p' c1 id g' ps as bd c2 heq
      cases heq
      simp only [Bool.and_eq_true] at hc
      refine wp_seq (wp_seq ?_)
      simp only [preRun] at h
      cases he : aExec calls k p fr σ with
      | none => rw [he] at h; cases h
      | some q =>
        obtain ⟨e, fr1, σ1⟩ := q
        rw [he] at h
        cases e with
        | normal =>
          exact exec_ok hC p c1 hc.1 w0 G σ w fr a _ _ _ _ he hW hF fun a' w' G' hd' hG hW' hF' =>
            tail_ok hC hres hc.2.1 hc.2.2 h hW' hF' (hd'.trans hd) fun v G'' w'' hG' => hR v G'' w'' (hG.trans hG')
        | exit id => cases h
        | ret =>
          simp only at h
          split at h
          · rename_i v hv
            cases h
            refine exec_ok hC p c1 hc.1 w0 G σ w fr a _ _ _ _ he hW hF fun a' w' G' hd' hG hW' hF' => ?_
            obtain ⟨u, hr, hv'⟩ := results_ok hW' hF' hres hv
            show LeavesInM _ _ _ _ _ _ _ _ _
            rw [hd', hd]
            exact ⟨u, hr, hR u G' _ hG hW' hv'⟩
          · cases h
    · rename_i heq; simp at heq
    · cases hc
  | p :: q :: ps, c, G, σ, w, fr, a, hc, h, hW, hF, hd, hR => by
    cases c <;> simp only [rngChk, Bool.false_eq_true, Bool.and_eq_true] at hc
    rename_i c1 c2
    refine wp_seq ?_
    unfold preRun at h
    cases he : aExec calls k p fr σ with
    | none => rw [he] at h; cases h
    | some q =>
      obtain ⟨e, fr1, σ1⟩ := q
      rw [he] at h
      cases e with
      | normal =>
        exact exec_ok hC p c1 hc.1 w0 G σ w fr a _ _ _ _ he hW hF fun a' w' G' hd' hG hW' hF' =>
          pre_ok hC hres (_ :: ps) c2 G' σ1 w' fr1 a' hc.2 h hW' hF' (hd'.trans hd) fun v G'' w'' hG' => hR v G'' w'' (hG.trans hG')
      | exit id => cases h
      | ret =>
        simp only at h
        split at h
        · rename_i v hv
          cases h
          refine exec_ok hC p c1 hc.1 w0 G σ w fr a _ _ _ _ he hW hF fun a' w' G' hd' hG hW' hF' => ?_
          obtain ⟨u, hr, hv'⟩ := results_ok hW' hF' hres hv
          show LeavesInM _ _ _ _ _ _ _ _ _
          rw [hd', hd]
          exact ⟨u, hr, hR u G' _ hG hW' hv'⟩
        · cases h

theorem rfn_ok {calls : Calls'} (hC : SoundC P calls) {f : FuncId} {fn : Func} {F : AR} {k : Nat} (hf : P.funcs[f]? = some fn) (hcall : ∀ vs w, (callFunc f vs).run P w = .ok (.enter f vs) w)
    (hc : rfnChk P fn F = true) {args : List AV} {r : AV} {σ' : St} (h : F.run calls k args σ = some (r, σ')) : CallOk P f args σ r σ' := by
  refine ⟨hcall, fun w0 G w vs hW hargs => ?_⟩
  unfold AR.run at h
  split at h
  · rename_i hle
    have hle := Nat.le_of_ble_eq_true hle
    unfold rfnChk at hc
    split at hc
    · rename_i c hb
      simp only [Bool.and_eq_true, Nat.beq_eq] at hc
      obtain ⟨h1, h2, h3⟩ := hc
      refine callsIn_wide.1 (callsIn_of_wp_marks (n := 0) hf hb trivial (wpIn_wide.2 ?_))
      exact pre_ok hC h2 F.pre c G σ w _ _ h3 h hW (init_rel hargs h1 hle) rfl fun v G' w' hG hW' hv => ⟨v, G', rfl, hG, hW', hv⟩
    · cases hc
  · cases h
end Go.AM

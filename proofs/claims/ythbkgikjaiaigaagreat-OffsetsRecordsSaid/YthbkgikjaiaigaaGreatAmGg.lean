/- The abstract machine: AmX, AmB, AmV, AmH, AmAny. -/
import Derived.Test.YthbkgikjaiaigaaGreatAmGf
/- The abstract machine's code as predicate transformers: calls by what is known of them, loops by invariants. -/
namespace Go.AM
set_option linter.all false
open Go.RowKit
variable {P : Program} {w0 : Base} {w : World} {G : Gh} {σ : St}

def nocalls : Calls' := fun _ _ _ => .none

/-- A call comes to something that K holds of. -/
def Ret (P : Program) (f : FuncId) (args : List AV) (σ : St) (K : AV → St → Prop) : Prop := ∃ r σ', CallOk P f args σ r σ' ∧ K r σ'

theorem Ret.mono {f : FuncId} {args : List AV} {K K' : AV → St → Prop} (h : Ret P f args σ K) (hK : ∀ r σ', K r σ' → K' r σ') : Ret P f args σ K' := by
  obtain ⟨r, σ', h1, h2⟩ := h
  exact ⟨r, σ', h1, hK r σ' h2⟩

def optW (x : Option (AV × St)) (K : AV → St → Prop) : Prop := match x with
  | some (v, σ) => K v σ
  | .none => False

def valW (x : Option AV) (K : AV → Prop) : Prop := match x with
  | some v => K v
  | .none => False

def stW (x : Option St) (K : St → Prop) : Prop := match x with
  | some σ => K σ
  | .none => False

def csW (x : Option (List AV)) (K : List AV → Prop) : Prop := match x with
  | some cs => K cs
  | .none => False

def fillV : List AV → List (Nat × Nat × AV) → Option (List AV)
  | z, [] => some z
  | z, (off, size, x) :: r =>
    match x.cellsO with
    | some vs => if vs.length = size ∧ off + size ≤ z.length then fillV (fillAt z off vs) r else .none
    | .none => .none

def evps (fr : Env) (ps : List (Nat × Nat × AX)) : List (Nat × Nat × AV) := ps.map fun p => (p.1, p.2.1, p.2.2.ev fr)

theorem fillV_eq (fr : Env) : ∀ (ps : List (Nat × Nat × AX)) (z : List AV), fillV z (evps fr ps) = fillAll fr z ps
  | [], z => rfl
  | (off, size, x) :: r, z => by
    have ih := fillV_eq fr r
    simp only [evps, List.map_cons, fillV, fillAll] at ih ⊢
    cases (x.ev fr).cellsO with
    | none => rfl
    | some vs =>
      simp only
      split
      · exact ih _
      · rfl

def oev (fr : Env) : Option AX → Option AV
  | .none => .none
  | some x => some (x.ev fr)

def oNat (d : Nat) : Option AV → Option Nat
  | .none => some d
  | some x => asNat x

theorem oNat_eq (fr : Env) (d : Nat) (x : Option AX) : oNat d (oev fr x) = optNat fr d x := by cases x <;> rfl

def slcV (k : Nat) (x : AV) (lo hi mx : Option AV) : Option AV :=
  match x with
  | .nils => match oNat 0 lo, oNat 0 hi, oNat 0 mx with
    | some 0, some 0, some 0 => some .nils
    | _, _, _ => .none
  | .sl k' own len cs => match oNat 0 lo, oNat len hi, oNat len mx with
    | some l, some h, some m =>
      if k = k' ∧ l ≤ h ∧ h ≤ m ∧ m ≤ len then
        let own' := match mx with
          | .none => if h = len then cutOwn own l len else .none
          | some _ => if h = m then .exact else .none
        some (.sl k own' (h - l) ((cs.drop (l * k)).take ((h - l) * k)))
      else .none
    | _, _, _ => .none
  | .ms k' b off len => if k.beq k' then match mx, oNat 0 lo, oNat len hi with
    | .none, some l, some h => if l < h ∧ h ≤ len ∨ l = 0 ∧ h = 0 then some (.ms k b (off + l * k) (h - l)) else if l = h ∧ h ≤ len then some (.sl k .none 0 []) else .none
    | some m, some l, some h => match asNat m with
      | some m => if l ≤ h ∧ h ≤ m ∧ m ≤ len then (if m = 0 then some (.sl k .exact 0 []) else some .undef) else .none
      | .none => .none
    | _, _, _ => .none
    else .none
  | _ => .none

theorem slcV_eq (fr : Env) (k : Nat) (x : AV) (lo hi mx : Option AX) : slcV k x (oev fr lo) (oev fr hi) (oev fr mx) = aSlc k fr x lo hi mx := by
  unfold slcV aSlc
  cases x with
  | ms k' b off len =>
    simp only [oNat_eq]
    generalize optNat fr 0 lo = a
    generalize optNat fr len hi = b
    cases mx <;> cases a <;> cases b <;> rfl
  | _ => simp only [oNat_eq] <;> cases mx <;> rfl

def sslcV (x : AV) (lo hi : Option AV) : Option AV :=
  match x with
  | .str s => match oNat 0 lo, oNat s.length hi with
    | some l, some h => if l ≤ h ∧ h ≤ s.length then some (.str ((s.drop l).take (h - l))) else .none
    | _, _ => .none
  | _ => .none

theorem sslcV_eq (fr : Env) (x : AV) (lo hi : Option AX) : sslcV x (oev fr lo) (oev fr hi) = aSslc fr x lo hi := by
  unfold sslcV aSslc
  cases x <;> simp only [oNat_eq] <;> rfl

def bslW (mt : Bool) (k len : Nat) (z : List AV) (σ : St) (qs : List (Nat × Nat × AV)) (K : AV → St → Prop) : Prop :=
  csW (fillV (rep z len) qs) fun cs => bif mt then K (.ms k σ.next 0 len) (σ.new (.cells cs)) else K (.sl k .exact len cs) σ

def newW (σ : St) (o : AObj) (K : AV → St → Prop) : Prop := K (.ptr σ.next 0) (σ.new o)
def mapW (σ : St) (K : AV → St → Prop) : Prop := K (.mp σ.next) (σ.new (.map [] [] 0))

def callvW (P : Program) (g : AV) (args : List AV) (σ : St) (K : AV → St → Prop) : Prop := match g with
  | .fn f first cap => Ret P f (first ++ args ++ cap) σ K
  | _ => False

def opW (P : Program) (fr : Env) (σ : St) (K : AV → St → Prop) : AO → Prop
  | .mv x => K (x.ev fr) σ
  | .pick c a b => valW (pickV (c.ev fr) (a.ev fr) (b.ev fr)) fun v => K v σ
  | .alloc z => newW σ (.cells z) K
  | .box x => csW (x.ev fr).cellsO fun cs => newW σ (.cells cs) K
  | .build z ps => csW (fillV z (evps fr ps)) fun cs => K (.agg cs) σ
  | .bsl mt k len z ps => bslW mt k len z σ (evps fr ps) K
  | .load1 x => valW (load1V σ (x.ev fr)) fun v => K v σ
  | .loadn n x => valW (loadnV σ n (x.ev fr)) fun v => K v σ
  | .store n a v => stW (storeS n σ (a.ev fr) (v.ev fr)) fun σ' => K .undef σ'
  | .nilck x => valW (nilckV (x.ev fr)) fun v => K v σ
  | .bin op ek x y => valW (aBin op ek (x.ev fr) (y.ev fr)) fun v => K v σ
  | .un op x => valW (aUn op (x.ev fr)) fun v => K v σ
  | .conv c x => valW (aConv c σ (x.ev fr)) fun v => K v σ
  | .faddr off x => valW (faddrV off (x.ev fr)) fun v => K v σ
  | .iaddr k x i => valW (iaddrV k (x.ev fr) (i.ev fr)) fun v => K v σ
  | .iarr k len x i => valW (iarrV k len (x.ev fr) (i.ev fr)) fun v => K v σ
  | .sidx x i => valW (sidxV (x.ev fr) (i.ev fr)) fun v => K v σ
  | .field off n x => valW (fieldV off n (x.ev fr)) fun v => K v σ
  | .slc k x lo hi mx => valW (slcV k (x.ev fr) (oev fr lo) (oev fr hi) (oev fr mx)) fun v => K v σ
  | .sslc x lo hi => valW (sslcV (x.ev fr) (oev fr lo) (oev fr hi)) fun v => K v σ
  | .look ek z ok m key => valW (lookV ek z ok σ (m.ev fr) (key.ev fr)) fun v => K v σ
  | .mapup ek m key v => stW (mapupS ek σ (m.ev fr) (key.ev fr) (v.ev fr)) fun σ' => K .undef σ'
  | .mapdel ek m key => stW (mapdelS ek σ (m.ev fr) (key.ev fr)) fun σ' => K (.tup []) σ'
  | .len ek x => valW (lenV ek σ (x.ev fr)) fun v => K v σ
  | .app mt k bytes s x => optW (aApp mt k bytes σ (s.ev fr) (x.ev fr)) K
  | .mx xs => valW (maxInts (evs fr xs)) fun v => K v σ
  | .mn xs => valW (minInts (evs fr xs)) fun v => K v σ
  | .ext x i => valW (extV (x.ev fr) i) fun v => K v σ
  | .mkfn f first cap => K (.fn f (evs fr first) (evs fr cap)) σ
  | .mkmap => mapW σ K
  | .range x => optW (rangeS σ (x.ev fr)) K
  | .next x => optW (nextS σ (x.ev fr)) K
  | .entry x => valW (entryV σ (x.ev fr)) fun v => K v σ
  | .mksl k bytes z len cap => optW (mkslS k bytes z σ (len.ev fr) (cap.ev fr)) K
  | .call f args => Ret P f (evs fr args) σ K
  | .callv g args => callvW P (g.ev fr) (evs fr args) σ K
  | .clr k z x => stW (clrS k z σ (x.ev fr)) fun σ' => K (.tup []) σ'
  | .slcx k x lo hi => valW (slcxV k σ (x.ev fr) (lo.ev fr) (hi.ev fr)) fun v => K v σ
  | .bad => False

open Classical in
noncomputable def one (f : FuncId) (args : List AV) (σ : St) (r : AV) (σ' : St) : Calls' := fun f' a' s' => if f' = f ∧ a' = args ∧ s' = σ then some (r, σ') else .none

theorem one_self (f : FuncId) (args : List AV) (σ : St) (r : AV) (σ' : St) : one f args σ r σ' f args σ = some (r, σ') := by simp [one]

theorem one_sound {f : FuncId} {args : List AV} {r : AV} {σ' : St} (h : CallOk P f args σ r σ') : SoundC P (one f args σ r σ') := by
  intro f' a' s' r' s'' h'
  unfold one at h'
  split at h'
  · rename_i hh
    obtain ⟨rfl, rfl, rfl⟩ := hh
    cases h'; exact h
  · cases h'

theorem nocalls_sound : SoundC P nocalls := fun _ _ _ _ _ h => by cases h

theorem nocalls_le {calls : Calls'} {fr : Env} {σ σ' : St} {o : AO} {v : AV} (h : aOp nocalls fr σ o = some (v, σ')) : aOp calls fr σ o = some (v, σ') := by
  cases o <;> first | exact h | skip
  · simp [aOp, nocalls] at h
  · simp only [aOp, nocalls] at h
    split at h <;> cases h

theorem valW_inv {x : Option AV} {K : AV → Prop} (h : valW x K) : ∃ v, x = some v ∧ K v := by
  unfold valW at h
  split at h
  · exact ⟨_, rfl, h⟩
  · cases h

theorem stW_inv {x : Option St} {K : St → Prop} (h : stW x K) : ∃ v, x = some v ∧ K v := by
  unfold stW at h
  split at h
  · exact ⟨_, rfl, h⟩
  · cases h

theorem csW_inv {x : Option (List AV)} {K : List AV → Prop} (h : csW x K) : ∃ v, x = some v ∧ K v := by
  unfold csW at h
  split at h
  · exact ⟨_, rfl, h⟩
  · cases h

theorem optW_inv {x : Option (AV × St)} {K : AV → St → Prop} (h : optW x K) : ∃ v σ, x = some (v, σ) ∧ K v σ := by
  unfold optW at h
  split at h
  · exact ⟨_, _, rfl, h⟩
  · cases h

theorem fin_val {x : Option AV} {K : AV → St → Prop} (h : valW x fun v => K v σ) : ∃ v σ', wrapV σ x = some (v, σ') ∧ K v σ' := by
  obtain ⟨v, rfl, h⟩ := valW_inv h
  exact ⟨v, σ, rfl, h⟩

theorem fin_st {x : Option St} {u : AV} {K : AV → St → Prop} (h : stW x fun σ' => K u σ') : ∃ v σ', wrapS u x = some (v, σ') ∧ K v σ' := by
  obtain ⟨v, rfl, h⟩ := stW_inv h
  exact ⟨u, v, rfl, h⟩

theorem opW_det {fr : Env} {K : AV → St → Prop} : ∀ {o : AO}, opW P fr σ K o → (∀ f args, o ≠ .call f args) → (∀ g args, o ≠ .callv g args) → ∃ v σ', aOp nocalls fr σ o = some (v, σ') ∧ K v σ'
  | .mv x, h, _, _ => ⟨_, _, rfl, h⟩
  | .pick .., h, _, _ => fin_val h
  | .alloc z, h, _, _ => ⟨_, _, rfl, h⟩
  | .box x, h, _, _ => by
    obtain ⟨cs, e, h⟩ := csW_inv h
    exact ⟨_, _, by simp only [aOp, e], h⟩
  | .build z ps, h, _, _ => by
    obtain ⟨cs, e, h⟩ := csW_inv h
    rw [fillV_eq] at e
    exact ⟨_, _, by simp only [aOp, e], h⟩
  | .bsl mt k len z ps, h, _, _ => by
    obtain ⟨cs, e, h⟩ := csW_inv h
    rw [fillV_eq] at e
    simp only [aOp, bslS, e]
    cases mt
    · exact ⟨_, _, rfl, h⟩
    · exact ⟨_, _, rfl, h⟩
  | .load1 .., h, _, _ => fin_val h
  | .loadn .., h, _, _ => fin_val h
  | .store .., h, _, _ => fin_st h
  | .nilck .., h, _, _ => fin_val h
  | .bin .., h, _, _ => fin_val h
  | .un .., h, _, _ => fin_val h
  | .conv .., h, _, _ => fin_val h
  | .faddr .., h, _, _ => fin_val h
  | .iaddr .., h, _, _ => fin_val h
  | .iarr .., h, _, _ => fin_val h
  | .sidx .., h, _, _ => fin_val h
  | .field .., h, _, _ => fin_val h
  | .slc k x lo hi mx, h, _, _ => by
    simp only [opW, slcV_eq] at h
    exact fin_val h
  | .sslc x lo hi, h, _, _ => by
    simp only [opW, sslcV_eq] at h
    exact fin_val h
  | .look .., h, _, _ => fin_val h
  | .mapup .., h, _, _ => fin_st h
  | .mapdel .., h, _, _ => fin_st h
  | .len .., h, _, _ => fin_val h
  | .app .., h, _, _ => optW_inv h
  | .mx .., h, _, _ => fin_val h
  | .mn .., h, _, _ => fin_val h
  | .ext .., h, _, _ => fin_val h
  | .mkfn .., h, _, _ => ⟨_, _, rfl, h⟩
  | .mkmap, h, _, _ => ⟨_, _, rfl, h⟩
  | .range .., h, _, _ => optW_inv h
  | .next .., h, _, _ => optW_inv h
  | .entry .., h, _, _ => fin_val h
  | .mksl .., h, _, _ => optW_inv h
  | .call f args, _, h, _ => absurd rfl (h f args)
  | .callv g args, _, _, h => absurd rfl (h g args)
  | .clr .., h, _, _ => fin_st h
  | .slcx .., h, _, _ => fin_val h
  | .bad, h, _, _ => h.elim

theorem opW_run {fr : Env} {K : AV → St → Prop} {o : AO} (h : opW P fr σ K o) : ∃ calls v σ', SoundC P calls ∧ aOp calls fr σ o = some (v, σ') ∧ K v σ' := by
  by_cases h1 : ∃ f args, o = .call f args
  · obtain ⟨f, args, rfl⟩ := h1
    obtain ⟨r, σ', h1, h2⟩ := h
    exact ⟨_, r, σ', one_sound h1, by simp [aOp, one_self], h2⟩
  · by_cases h2 : ∃ g args, o = .callv g args
    · obtain ⟨g, args, rfl⟩ := h2
      simp only [opW, callvW] at h
      split at h
      · rename_i f first cap hg
        obtain ⟨r, σ', h1, h2⟩ := h
        exact ⟨_, r, σ', one_sound h1, by simp [aOp, hg, one_self], h2⟩
      · cases h
    · obtain ⟨v, σ', e, hK⟩ := opW_det h (fun f args e => h1 ⟨f, args, e⟩) (fun f args e => h2 ⟨f, args, e⟩)
      exact ⟨nocalls, v, σ', nocalls_sound, e, hK⟩

def guardW (v : AV) (b : Bool) (X : (AV → St → Prop) → Prop) (σ : St) (K : AV → St → Prop) : Prop := match v with
  | .bool c => bif c == b then X K else K (.tup []) σ
  | .tup [] => K (.tup []) σ
  | _ => False

def stepW (P : Program) (fr : Env) (σ : St) (o : AOp) (K : AV → St → Prop) : Prop := match o.guard with
  | .none => opW P fr σ K o.op
  | some (t, b) => guardW (fr t) b (fun K => opW P fr σ K o.op) σ K

theorem stepW_run {fr : Env} {K : AV → St → Prop} {o : AOp} (h : stepW P fr σ o K) : ∃ calls v σ', SoundC P calls ∧ aStep calls fr σ o = some (v, σ') ∧ K v σ' := by
  unfold stepW at h
  have run : wanted fr o.guard = some true → opW P fr σ K o.op → ∃ calls v σ', SoundC P calls ∧ aStep calls fr σ o = some (v, σ') ∧ K v σ' := by
    intro hw h
    obtain ⟨calls, v, σ', h1, h2, h3⟩ := opW_run h
    exact ⟨calls, v, σ', h1, by simp [aStep, hw, h2], h3⟩
  have skip : wanted fr o.guard = some false → K (.tup []) σ → ∃ calls v σ', SoundC P calls ∧ aStep calls fr σ o = some (v, σ') ∧ K v σ' := by
    intro hw h
    exact ⟨nocalls, _, σ, nocalls_sound, by simp [aStep, hw], h⟩
  split at h
  · rename_i hg
    exact run (by rw [hg]; rfl) h
  · rename_i t b hg
    unfold guardW at h
    split at h
    · rename_i c hv
      cases hcb : (c == b) with
      | true => rw [hcb] at h; exact run (by rw [hg]; simp only [wanted, hv, hcb]) h
      | false => rw [hcb] at h; exact skip (by rw [hg]; simp only [wanted, hv, hcb]) h
    · rename_i hv
      exact skip (by rw [hg]; simp only [wanted, hv]) h
    · cases h

def opsW (P : Program) : List AOp → Fr → St → (Fr → St → Prop) → Prop
  | [], fr, σ, K => K fr σ
  | o :: r, fr, σ, K => stepW P fr.at σ o fun v σ' => opsW P r (putDst fr o.dst v) σ' K

theorem opsW_ok {n : Nat} : ∀ (as : List AOp) (fr : Fr) (σ : St) (K : Fr → St → Prop), opsW P as fr σ K → ∃ fr' σ', K fr' σ' ∧
    ∀ (w0 : Base) (ops : Array Oper) (Q : Exit → Act → World → Prop) (l : List Oper) (k : Nat) (G : Gh) (a : Act) (w : World), (∀ j, l[j]? = ops[k + j]?) → opsChk P ops n l as = true → W w0 G σ w → RelF G n fr.at a →
    (∀ a' w' G', a'.defers = a.defers → Gle G G' → W w0 G' σ' w' → RelF G' n fr'.at a' → Q .normal a' w') → wpOps P ops Q (List.range' k l.length) a w
  | [], fr, σ, K, h => by
    refine ⟨fr, σ, h, ?_⟩
    intro w0 ops Q l k G a w hl hc hW hF hQ
    cases l with
    | nil => exact hQ a w G rfl (Gle.refl G) hW hF
    | cons o l => simp [opsChk] at hc
  | ao :: as, fr, σ, K, h => by
    simp only [opsW] at h
    obtain ⟨calls, v, σ1, hC, hs, h'⟩ := stepW_run h
    obtain ⟨fr', σ', hK, ih⟩ := opsW_ok as _ _ _ h'
    refine ⟨fr', σ', hK, ?_⟩
    intro w0 ops Q l k G a w hl hc hW hF hQ
    cases l with
    | nil => simp [opsChk] at hc
    | cons o l =>
      simp only [opsChk, Bool.and_eq_true] at hc
      obtain ⟨hc1, hc2⟩ := hc
      obtain ⟨_, _, hd, hdn⟩ := oneChk_inv hc1
      have h0 : ops[k]? = some o := by simpa using (hl 0).symm
      simp only [List.length_cons, List.range'_succ, wpOps_cons]
      refine aStep_wp hC h0 hc1 hW hF hs fun u w' G' hG hW' hv => ?_
      rw [hd]
      exact ih w0 ops Q l (k + 1) G' _ w' (fun j => by have := hl (j + 1); simpa [Nat.add_assoc, Nat.add_comm 1 j] using this) hc2 hW' (hF.put hG hv hdn)
        fun a' w'' G'' hd' hG' hW'' hF'' => hQ a' w'' G'' (by rw [hd', put_def]) (hG.trans hG') hW'' hF''

/- regions that draw -/

/-- A call that was met: was it carried out; the function, where the text names it; what it came to. -/
structure Rec where
  d : Bool
  k : Option FuncId
  f : FuncId
  a : List AV
  s : St
  r : AV
  t : St

/-- The same call comes to the same. -/
def okU : List Rec → Rec → Prop → Prop
  | [], _, X => X
  | u :: l, n, X => match u.k, n.k with
    | some g, some h => bif g.beq h then (n.d = true → u.d = true → u.a = n.a → u.s = n.s → u.r = n.r ∧ u.t = n.t) ∧ okU l n X else okU l n X
    | _, _ => (n.d = true → u.d = true → u.f = n.f → u.a = n.a → u.s = n.s → u.r = n.r ∧ u.t = n.t) ∧ okU l n X

def Rec.ok (u : Rec) : Prop := ∀ g, u.k = some g → u.f = g

theorem okU_inv : ∀ {l : List Rec} {n : Rec} {X : Prop}, (∀ u ∈ l, u.ok) → n.ok → okU l n X → X ∧ (n.d = true → ∀ u ∈ l, u.d = true → u.f = n.f → u.a = n.a → u.s = n.s → u.r = n.r ∧ u.t = n.t)
  | [], _, _, _, _, h => ⟨h, fun _ u hu => by simp at hu⟩
  | u :: l, n, X, hl, hn, h => by
    simp only [okU] at h
    have hl' : ∀ u ∈ l, u.ok := fun v hv => hl v (by simp [hv])
    split at h
    · rename_i g h' hg hh
      cases hb : g.beq h' with
      | true =>
        rw [hb] at h
        obtain ⟨h1, h2⟩ := h
        obtain ⟨g1, g2⟩ := okU_inv hl' hn h2
        refine ⟨g1, fun hd v hv hvd => ?_⟩
        rcases List.mem_cons.1 hv with rfl | hv
        · exact fun _ => h1 hd hvd
        · exact g2 hd v hv hvd
      | false =>
        rw [hb] at h
        obtain ⟨g1, g2⟩ := okU_inv hl' hn h
        refine ⟨g1, fun hd v hv hvd hf => ?_⟩
        rcases List.mem_cons.1 hv with rfl | hv
        · rw [hl _ (by simp) _ hg, hn _ hh] at hf
          rw [hf, Nat.beq_refl] at hb; cases hb
        · exact g2 hd v hv hvd hf
    · obtain ⟨h1, h2⟩ := h
      obtain ⟨g1, g2⟩ := okU_inv hl' hn h2
      refine ⟨g1, fun hd v hv hvd => ?_⟩
      rcases List.mem_cons.1 hv with rfl | hv
      · exact h1 hd hvd
      · exact g2 hd v hv hvd

def callvU (P : Program) (g : AV) (args : List AV) (σ : St) (K : FuncId → List AV → AV → St → Prop) : Prop := match g with
  | .fn f first cap => Ret P f (first ++ args ++ cap) σ (K f (first ++ args ++ cap))
  | _ => False

def gcallW (P : Program) (v : AV) (b : Bool) (f : FuncId) (args : List AV) (σ : St) (K : Bool → AV → St → Prop) : Prop := match v with
  | .bool c => bif c == b then Ret P f args σ (K true) else K false (.tup []) σ
  | .tup [] => K false (.tup []) σ
  | _ => False

def gcallvW (P : Program) (v : AV) (b : Bool) (g : AV) (args : List AV) (σ : St) (K : Bool → FuncId → List AV → AV → St → Prop) : Prop := match v with
  | .bool c => bif c == b then callvU P g args σ (K true) else K false 0 [] (.tup []) σ
  | .tup [] => K false 0 [] (.tup []) σ
  | _ => False

/-- A step; what calls came to is remembered. -/
def stepU (P : Program) (used : List Rec) (fr : Env) (σ : St) (o : AOp) (K : List Rec → AV → St → Prop) : Prop := match o.guard, o.op with
  | .none, .call f args => Ret P f (evs fr args) σ fun r σ' => okU used ⟨true, some f, f, evs fr args, σ, r, σ'⟩ (K (⟨true, some f, f, evs fr args, σ, r, σ'⟩ :: used) r σ')
  | .none, .callv g args => callvU P (g.ev fr) (evs fr args) σ fun f a r σ' => okU used ⟨true, .none, f, a, σ, r, σ'⟩ (K (⟨true, .none, f, a, σ, r, σ'⟩ :: used) r σ')
  | some (t, b), .call f args => gcallW P (fr t) b f (evs fr args) σ fun d r σ' => okU used ⟨d, some f, f, evs fr args, σ, r, σ'⟩ (K (⟨d, some f, f, evs fr args, σ, r, σ'⟩ :: used) r σ')
  | some (t, b), .callv g args => gcallvW P (fr t) b (g.ev fr) (evs fr args) σ fun d f a r σ' => okU used ⟨d, .none, f, a, σ, r, σ'⟩ (K (⟨d, .none, f, a, σ, r, σ'⟩ :: used) r σ')
  | .none, op => opW P fr σ (K used) op
  | some (t, b), op => guardW (fr t) b (fun K' => opW P fr σ K' op) σ (K used)

def CLe (a b : Calls') : Prop := ∀ f args σ x, a f args σ = some x → b f args σ = some x

/-- Only these are called. -/
def Within (c : Calls') (used : List Rec) : Prop := (∀ u ∈ used, u.ok) ∧ ∀ f a s r t, c f a s = some (r, t) → ∃ u ∈ used, u.d = true ∧ u.f = f ∧ u.a = a ∧ u.s = s ∧ u.r = r ∧ u.t = t

theorem aStep_of_guard {fr : Env} {o : AOp} {K : AV → St → Prop} {t : Nat} {b : Bool} (hg : o.guard = some (t, b)) (h : guardW (fr t) b (fun K' => opW P fr σ K' o.op) σ K) (h1 : ∀ f args, o.op ≠ .call f args) (h2 : ∀ g args, o.op ≠ .callv g args) :
    ∃ v σ', aStep nocalls fr σ o = some (v, σ') ∧ K v σ' := by
  unfold guardW at h
  split at h
  · rename_i c hv
    cases hcb : (c == b) with
    | true =>
      rw [hcb] at h
      obtain ⟨v, σ', e, h⟩ := opW_det h h1 h2
      exact ⟨v, σ', by simp only [aStep, hg, wanted, hv, hcb]; exact e, h⟩
    | false => rw [hcb] at h; exact ⟨_, _, by simp only [aStep, hg, wanted, hv, hcb], h⟩
  · rename_i hv
    exact ⟨_, _, by simp only [aStep, hg, wanted, hv], h⟩
  · cases h

theorem aStep_le {calls : Calls'} {fr : Env} {σ σ' : St} {o : AOp} {v : AV} (h : aStep nocalls fr σ o = some (v, σ')) : aStep calls fr σ o = some (v, σ') := by
  unfold aStep at h ⊢
  split at h
  · exact nocalls_le h
  · exact h
  · cases h

theorem noncall_step {used : List Rec} {c0 : Calls'} {fr : Env} {o : AOp} {K : List Rec → AV → St → Prop} (hC : SoundC P c0) (hin : Within c0 used) (h : ∃ v σ', aStep nocalls fr σ o = some (v, σ') ∧ K used v σ') :
    ∃ calls used' v σ', SoundC P calls ∧ Within calls used' ∧ CLe c0 calls ∧ (∀ c, CLe calls c → aStep c fr σ o = some (v, σ')) ∧ K used' v σ' := by
  obtain ⟨v, σ', e, h⟩ := h
  exact ⟨c0, used, v, σ', hC, hin, fun _ _ _ _ h => h, fun c _ => aStep_le e, h⟩

theorem call_step {used : List Rec} {c0 : Calls'} {n : Rec} {K : List Rec → AV → St → Prop} (hn : n.ok) (hC : SoundC P c0) (hin : Within c0 used) (h1 : n.d = true → CallOk P n.f n.a n.s n.r n.t) (h : okU used n (K (n :: used) n.r n.t)) :
    ∃ calls, SoundC P calls ∧ Within calls (n :: used) ∧ CLe c0 calls ∧ (n.d = true → calls n.f n.a n.s = some (n.r, n.t)) ∧ K (n :: used) n.r n.t := by
  obtain ⟨hK, hu⟩ := okU_inv hin.1 hn h
  have hok : ∀ u ∈ n :: used, u.ok := fun u hu => by
    rcases List.mem_cons.1 hu with rfl | hu
    · exact hn
    · exact hin.1 u hu
  cases hd : n.d with
  | false =>
    refine ⟨c0, hC, ⟨hok, fun f a s r t e => ?_⟩, fun _ _ _ _ h => h, fun h => by simp at h, hK⟩
    obtain ⟨u, hu, hr⟩ := hin.2 f a s r t e
    exact ⟨u, by simp [hu], hr⟩
  | true =>
    refine ⟨(open Classical in fun f' a' s' => if f' = n.f ∧ a' = n.a ∧ s' = n.s then some (n.r, n.t) else c0 f' a' s'), ?_, ⟨hok, ?_⟩, ?_, ?_, hK⟩
    · intro f' a' s' r' s'' h'
      simp only at h'
      split at h'
      · rename_i hh
        obtain ⟨rfl, rfl, rfl⟩ := hh
        cases h'; exact h1 hd
      · exact hC _ _ _ _ _ h'
    · intro f' a' s' r' t' h'
      simp only at h'
      split at h'
      · rename_i hh
        obtain ⟨rfl, rfl, rfl⟩ := hh
        cases h'
        exact ⟨n, by simp, hd, rfl, rfl, rfl, rfl, rfl⟩
      · obtain ⟨u, hu, hr⟩ := hin.2 _ _ _ _ _ h'
        exact ⟨u, by simp [hu], hr⟩
    · rintro f' a' s' ⟨r0, t0⟩ hx
      simp only
      split
      · rename_i hh
        obtain ⟨rfl, rfl, rfl⟩ := hh
        obtain ⟨u, hu', g1, g2, g3, g4, g5, g6⟩ := hin.2 _ _ _ _ _ hx
        obtain ⟨e1, e2⟩ := hu hd u hu' g1 g2 g3 g4
        rw [← g5, ← g6, e1, e2]
      · exact hx
    · intro _
      simp

theorem stepU_run {used : List Rec} {c0 : Calls'} {fr : Env} {K : List Rec → AV → St → Prop} {o : AOp} (hC : SoundC P c0) (hin : Within c0 used) (h : stepU P used fr σ o K) :
    ∃ calls used' v σ', SoundC P calls ∧ Within calls used' ∧ CLe c0 calls ∧ (∀ c, CLe calls c → aStep c fr σ o = some (v, σ')) ∧ K used' v σ' := by
  unfold stepU at h
  split at h
  · rename_i f args hg ho
    obtain ⟨r, σ', h1, h3⟩ := h
    obtain ⟨calls, g1, g2, g3, g4, g5⟩ := call_step (n := ⟨true, some f, f, evs fr args, σ, r, σ'⟩) (fun g e => by cases e; rfl) hC hin (fun _ => h1) h3
    exact ⟨calls, _, r, σ', g1, g2, g3, fun c hc => by simp only [aStep, hg, wanted, ho, aOp]; exact hc _ _ _ _ (g4 rfl), g5⟩
  · rename_i g args hg ho
    unfold callvU at h
    split at h
    · rename_i f first cap hv
      obtain ⟨r, σ', h1, h3⟩ := h
      obtain ⟨calls, g1, g2, g3, g4, g5⟩ := call_step (n := ⟨true, none, f, first ++ evs fr args ++ cap, σ, r, σ'⟩) (fun g e => by cases e) hC hin (fun _ => h1) h3
      exact ⟨calls, _, r, σ', g1, g2, g3, fun c hc => by simp only [aStep, hg, wanted, ho, aOp, hv]; exact hc _ _ _ _ (g4 rfl), g5⟩
    · cases h
  · rename_i t b f args hg ho
    unfold gcallW at h
    split at h
    · rename_i c hv
      cases hcb : (c == b) with
      | true =>
        rw [hcb] at h
        obtain ⟨r, σ', h1, h3⟩ := h
        obtain ⟨calls, g1, g2, g3, g4, g5⟩ := call_step (n := ⟨true, some f, f, evs fr args, σ, r, σ'⟩) (fun g e => by cases e; rfl) hC hin (fun _ => h1) h3
        exact ⟨calls, _, r, σ', g1, g2, g3, fun c' hc => by simp only [aStep, hg, wanted, hv, hcb, ho, aOp]; exact hc _ _ _ _ (g4 rfl), g5⟩
      | false =>
        rw [hcb] at h
        obtain ⟨calls, g1, g2, g3, g4, g5⟩ := call_step (n := ⟨false, some f, f, evs fr args, σ, .tup [], σ⟩) (fun g e => by cases e; rfl) hC hin (fun h => by cases h) h
        exact ⟨calls, _, .tup [], σ, g1, g2, g3, fun c' hc => by simp only [aStep, hg, wanted, hv, hcb], g5⟩
    · rename_i hv
      obtain ⟨calls, g1, g2, g3, g4, g5⟩ := call_step (n := ⟨false, some f, f, evs fr args, σ, .tup [], σ⟩) (fun g e => by cases e; rfl) hC hin (fun h => by cases h) h
      exact ⟨calls, _, .tup [], σ, g1, g2, g3, fun c' hc => by simp only [aStep, hg, wanted, hv], g5⟩
    · cases h
  · rename_i t b g args hg ho
    unfold gcallvW at h
    split at h
    · rename_i c hv
      cases hcb : (c == b) with
      | true =>
        rw [hcb] at h
        simp only [cond_true, callvU] at h
        split at h
        · rename_i f first cap hgv
          obtain ⟨r, σ', h1, h3⟩ := h
          obtain ⟨calls, g1, g2, g3, g4, g5⟩ := call_step (n := ⟨true, none, f, first ++ evs fr args ++ cap, σ, r, σ'⟩) (fun g e => by cases e) hC hin (fun _ => h1) h3
          exact ⟨calls, _, r, σ', g1, g2, g3, fun c' hc => by simp only [aStep, hg, wanted, hv, hcb, ho, aOp, hgv]; exact hc _ _ _ _ (g4 rfl), g5⟩
        · cases h
      | false =>
        rw [hcb] at h
        obtain ⟨calls, g1, g2, g3, g4, g5⟩ := call_step (n := ⟨false, none, 0, [], σ, .tup [], σ⟩) (fun g e => by cases e) hC hin (fun h => by cases h) h
        exact ⟨calls, _, .tup [], σ, g1, g2, g3, fun c' hc => by simp only [aStep, hg, wanted, hv, hcb], g5⟩
    · rename_i hv
      obtain ⟨calls, g1, g2, g3, g4, g5⟩ := call_step (n := ⟨false, none, 0, [], σ, .tup [], σ⟩) (fun g e => by cases e) hC hin (fun h => by cases h) h
      exact ⟨calls, _, .tup [], σ, g1, g2, g3, fun c' hc => by simp only [aStep, hg, wanted, hv], g5⟩
    · cases h
  · rename_i hg h1 h2
    obtain ⟨v, σ', e, h⟩ := opW_det h (fun f args e => h1 f args e) (fun f args e => h2 f args e)
    exact noncall_step hC hin ⟨v, σ', by simp only [aStep, hg, wanted]; exact e, h⟩
  · rename_i t b hg h1 h2
    exact noncall_step hC hin (aStep_of_guard hg h (fun f args e => h1 f args e) fun g args e => h2 g args e)

def dRunW (P : Program) (ops : List AOp) : List Rec → List Nat → Fr → List St → (Fr → List St → Prop) → Prop
  | _, [], fr, sts, K => K fr sts
  | used, i :: r, fr, sts, K => match ops[i]?, sts with
    | some o, σ :: rest => stepU P used fr.at σ o fun used' v σ' => dRunW P ops used' r (putDst fr o.dst v) (bif o.op.loud then σ' :: σ :: rest else σ :: rest) K
    | _, _ => False

theorem dRunW_run {ops : List AOp} : ∀ (ord : List Nat) (used : List Rec) (c0 : Calls') (fr : Fr) (sts : List St) (K : Fr → List St → Prop), SoundC P c0 → Within c0 used → dRunW P ops used ord fr sts K →
    ∃ calls fr' sts', SoundC P calls ∧ CLe c0 calls ∧ (∀ c, CLe calls c → dRun c ops ord fr sts = some (fr', sts')) ∧ K fr' sts'
  | [], used, c0, fr, sts, K, hC, _, h => ⟨c0, fr, sts, hC, fun _ _ _ _ h => h, fun _ _ => rfl, h⟩
  | i :: r, used, c0, fr, sts, K, hC, hin, h => by
    simp only [dRunW] at h
    split at h
    · rename_i o σ rest ho
      obtain ⟨calls, used', v, σ', h1, h1', h2, h3, h4⟩ := stepU_run hC hin h
      obtain ⟨calls', fr', sts', g1, g2, g3, g4⟩ := dRunW_run r _ _ _ _ _ h1 h1' h4
      refine ⟨calls', fr', sts', g1, fun f a s x hx => g2 _ _ _ _ (h2 _ _ _ _ hx), fun c hc => ?_, g4⟩
      simp only [dRun, ho, h3 c (fun f a s x hx => hc _ _ _ _ (g2 _ _ _ _ hx))]
      have e := g3 c hc
      cases hl : o.op.loud <;> rw [hl] at e <;> exact e
    · cases h

theorem listEq_refl : ∀ (l : List Nat), listEq l l = true
  | [] => rfl
  | a :: r => by simp only [listEq, Nat.beq_refl, listEq_refl r, Bool.and_self]
theorem ownEq_refl (o : Own) : ownEq o o = true := by cases o <;> simp [ownEq]

mutual
theorem AV.beq_refl : ∀ (a : AV), a.beq a = true
  | .undef => rfl
  | .int k n => by simp [AV.beq, kindEq_refl]
  | .bool b => by simp [AV.beq]
  | .str s => by simp [AV.beq, listEq_refl]
  | .nilp => rfl
  | .ptr l o => by simp [AV.beq]
  | .eptr cs => by simp only [AV.beq]; exact beqL_refl cs
  | .nils => rfl
  | .sl k w n cs => by simp only [AV.beq, Nat.beq_refl, ownEq_refl, beqL_refl cs, Bool.and_self]
  | .ms k l o n => by simp [AV.beq]
  | .nilm => rfl
  | .mp l => by simp [AV.beq]
  | .nilf => rfl
  | .fn f a c => by simp only [AV.beq, Nat.beq_refl, beqL_refl a, beqL_refl c, Bool.and_self]
  | .agg cs => by simp only [AV.beq]; exact beqL_refl cs
  | .tup cs => by simp only [AV.beq]; exact beqL_refl cs
theorem beqL_refl : ∀ (l : List AV), beqL l l = true
  | [] => rfl
  | a :: r => by simp only [beqL, AV.beq_refl a, beqL_refl r, Bool.and_self]
end

/-- What is looked at again. -/
def readC (fr : Env) (σ : St) (v : AV) : AO → Prop
  | .load1 x => load1V σ (x.ev fr) = some v
  | .loadn n x => loadnV σ n (x.ev fr) = some v
  | .look ek z ok m key => lookV ek z ok σ (m.ev fr) (key.ev fr) = some v
  | .entry x => entryV σ (x.ev fr) = some v
  | .len ek x => lenV ek σ (x.ev fr) = some v
  | .conv c x => aConv c σ (x.ev fr) = some v
  | _ => False

theorem readC_run {fr : Env} {v : AV} : ∀ {o : AO}, readC fr σ v o → ∃ σ', aOp nocalls fr σ o = some (v, σ')
  | .load1 x, h => ⟨σ, by simp only [aOp]; rw [show load1V σ (x.ev fr) = some v from h]; rfl⟩
  | .loadn n x, h => ⟨σ, by simp only [aOp]; rw [show loadnV σ n (x.ev fr) = some v from h]; rfl⟩
  | .look ek z ok m key, h => ⟨σ, by simp only [aOp]; rw [show lookV ek z ok σ (m.ev fr) (key.ev fr) = some v from h]; rfl⟩
  | .entry x, h => ⟨σ, by simp only [aOp]; rw [show entryV σ (x.ev fr) = some v from h]; rfl⟩
  | .len ek x, h => ⟨σ, by simp only [aOp]; rw [show lenV ek σ (x.ev fr) = some v from h]; rfl⟩
  | .conv c x, h => ⟨σ, by simp only [aOp]; rw [show aConv c σ (x.ev fr) = some v from h]; rfl⟩

def gchkW (v : AV) (b : Bool) (X Y : Prop) : Prop := match v with
  | .bool c => bif c == b then X else Y
  | .tup [] => Y
  | _ => False

def chkC (fr : Env) (σ : St) (o : AOp) (v : AV) : Prop := match o.guard with
  | .none => readC fr σ v o.op
  | some (t, b) => gchkW (fr t) b (readC fr σ v o.op) (v = .tup [])

theorem chkC_run {fr : Env} {o : AOp} {v : AV} (h : chkC fr σ o v) : ∃ σ', aStep nocalls fr σ o = some (v, σ') := by
  unfold chkC at h
  split at h
  · rename_i hg
    obtain ⟨σ', e⟩ := readC_run h
    exact ⟨σ', by simp only [aStep, hg, wanted]; exact e⟩
  · rename_i t b hg
    unfold gchkW at h
    split at h
    · rename_i c hv
      cases hcb : (c == b) with
      | true =>
        rw [hcb] at h
        obtain ⟨σ', e⟩ := readC_run h
        exact ⟨σ', by simp only [aStep, hg, wanted, hv, hcb]; exact e⟩
      | false =>
        rw [hcb] at h
        simp only [cond_false] at h
        subst h
        exact ⟨σ, by simp only [aStep, hg, wanted, hv, hcb]⟩
    · rename_i hv
      subst h
      exact ⟨σ, by simp only [aStep, hg, wanted, hv]⟩
    · cases h

def dChkP (d : DR) (fr0 fr1 : Env) (sts : List St) : List (Nat × Nat) → Prop
  | [] => True
  | (i, k) :: r => (match d.ops[i]?, sts[k]? with
    | some o, some σ => (match o.dst with
      | some t => chkC (opd d fr0 fr1 i) σ o (fr1 t)
      | .none => False)
    | _, _ => False) ∧ dChkP d fr0 fr1 sts r

theorem dChkP_run {calls : Calls'} {d : DR} {fr0 fr1 : Env} {sts : List St} : ∀ {l : List (Nat × Nat)}, dChkP d fr0 fr1 sts l → dChk calls d fr0 fr1 sts l = true
  | [], _ => rfl
  | (i, k) :: r, h => by
    obtain ⟨h, hr⟩ := h
    simp only [dChk, Bool.and_eq_true]
    refine ⟨?_, dChkP_run hr⟩
    split at h
    · rename_i o σ ho hs
      split at h
      · rename_i t ht
        obtain ⟨σ', e⟩ := chkC_run h
        simp only [ho, hs, aStep_le e, ht]
        exact AV.beq_refl _
      · cases h
    · cases h

def dregW (P : Program) (d : DR) (fr : Fr) (σ : St) (K : Fr → St → Prop) : Prop :=
  dRunW P d.ops [] d.ord fr [σ] fun fr' sts => match sts with
    | σ' :: rest => dChkP d fr.at fr'.at (σ' :: rest).reverse d.chks ∧ K fr' σ'
    | [] => False

theorem dregW_run {d : DR} {fr : Fr} {K : Fr → St → Prop} (h : dregW P d fr σ K) : ∃ calls fr' σ', SoundC P calls ∧ dExec calls d fr σ = some (fr', σ') ∧ K fr' σ' := by
  obtain ⟨calls, fr', sts', h1, _, h3, h4⟩ := dRunW_run d.ord [] nocalls fr [σ] _ nocalls_sound ⟨fun u hu => by simp at hu, fun _ _ _ _ _ h => by cases h⟩ h
  split at h4
  · rename_i σ' rest
    refine ⟨calls, fr', σ', h1, ?_, h4.2⟩
    unfold dExec
    rw [h3 calls fun _ _ _ _ h => h]
    simp only
    rw [dChkP_run h4.1]
    rfl
  · cases h4

/- code -/

def condW (v : AV) (A B : Prop) : Prop := match v with
  | .bool true => A
  | .bool false => B
  | _ => False

abbrev Post := AExit → Fr → St → Prop

def seqP (b : Post → Fr → St → Prop) (Q : Post) : Post := fun e fr σ => match e with
  | .normal => b Q fr σ
  | .exit id => Q (.exit id) fr σ
  | .ret => Q .ret fr σ

def blockP (id : Nat) (Q : Post) : Post := fun e fr σ => match e with
  | .normal => Q .normal fr σ
  | .exit id' => bif id'.beq id then Q .normal fr σ else Q (.exit id') fr σ
  | .ret => Q .ret fr σ

def loopP (N : Fr → St → Prop) (Q : Post) : Post := fun e fr σ => match e with
  | .normal => N fr σ
  | .exit id => Q (.exit id) fr σ
  | .ret => Q .ret fr σ

def loopW (body : Post → Fr → St → Prop) (Q : Post) (fr : Fr) (σ : St) : Prop :=
  ∃ (I : Nat → Fr → St → Prop) (m : Nat), I m fr σ ∧ ∀ m fr σ, I m fr σ → body (loopP (fun fr' σ' => ∃ m', m' < m ∧ I m' fr' σ') Q) fr σ

def aw (P : Program) : AC → Post → Fr → St → Prop
  | .skip, Q, fr, σ => Q .normal fr σ
  | .reg ops, Q, fr, σ => opsW P ops fr σ (Q .normal)
  | .dreg d, Q, fr, σ => dregW P d fr σ (Q .normal)
  | .seq a b, Q, fr, σ => aw P a (seqP (aw P b) Q) fr σ
  | .cond c a b, Q, fr, σ => condW (c.ev fr.at) (aw P a Q fr σ) (aw P b Q fr σ)
  | .block id c, Q, fr, σ => aw P c (blockP id Q) fr σ
  | .loop c, Q, fr, σ => loopW (aw P c) Q fr σ
  | .scope c, Q, fr, σ => aw P c Q fr σ
  | .keep d ts c, Q, fr, σ => aw P c Q (keepFr d ts fr) σ
  | .exit id, Q, fr, σ => Q (.exit id) fr σ
  | .ret, Q, fr, σ => Q .ret fr σ

/-- So this code comes to an end. -/
def AwOk (P : Program) (n : Nat) (c : Code) (fr : Fr) (σ : St) (e : AExit) (fr' : Fr) (σ' : St) : Prop :=
  ∀ w0 G w a (Q : Exit → Act → World → Prop), W w0 G σ w → RelF G n fr.at a →
    (∀ a' w' G', a'.defers = a.defers → Gle G G' → W w0 G' σ' w' → RelF G' n fr'.at a' → Q (exOf e) a' w') → c.wp P Q a w

theorem loopW_ok {n : Nat} {c : Code} {body : Post → Fr → St → Prop} (hb : ∀ fr σ Q, body Q fr σ → ∃ e fr' σ', AwOk P n c fr σ e fr' σ' ∧ Q e fr' σ') {Q : Post} {I : Nat → Fr → St → Prop}
    (hI : ∀ m fr σ, I m fr σ → body (loopP (fun fr' σ' => ∃ m', m' < m ∧ I m' fr' σ') Q) fr σ) : ∀ (m : Nat) (fr : Fr) (σ : St), I m fr σ → ∃ e fr' σ' N, (∀ w0 G w a (Q : Exit → Act → World → Prop), W w0 G σ w → RelF G n fr.at a →
    (∀ a' w' G', a'.defers = a.defers → Gle G G' → W w0 G' σ' w' → RelF G' n fr'.at a' → Q (exOf e) a' w') → Code.rounds P c Q N a w) ∧ Q e fr' σ' := by
  intro m
  induction m using Nat.strongRecOn with
  | _ m ih =>
    intro fr σ h
    obtain ⟨e, fr1, σ1, h1, h2⟩ := hb _ _ _ (hI m fr σ h)
    cases e with
    | normal =>
      obtain ⟨m', hm, h3⟩ := h2
      obtain ⟨e, fr', σ', N, h4, h5⟩ := ih m' hm _ _ h3
      refine ⟨e, fr', σ', N + 1, ?_, h5⟩
      intro w0 G w a Q' hW hF hQ
      rw [rounds_succ]
      exact h1 w0 G w a _ hW hF fun a' w' G' hd hG hW' hF' => h4 w0 G' w' a' Q' hW' hF' fun a'' w'' G'' hd' hG' => hQ a'' w'' G'' (hd'.trans hd) (hG.trans hG')
    | exit id =>
      refine ⟨_, fr1, σ1, 1, ?_, h2⟩
      intro w0 G w a Q' hW hF hQ
      rw [rounds_succ]
      exact h1 w0 G w a _ hW hF hQ
    | ret =>
      refine ⟨_, fr1, σ1, 1, ?_, h2⟩
      intro w0 G w a Q' hW hF hQ
      rw [rounds_succ]
      exact h1 w0 G w a _ hW hF hQ

theorem aw_ok {n : Nat} : ∀ (ac : AC) (c : Code), codeChk P n c ac = true → ∀ fr σ Q, aw P ac Q fr σ → ∃ e fr' σ', AwOk P n c fr σ e fr' σ' ∧ Q e fr' σ'
  | .skip, c, hc => by
    intro fr σ Q h
    refine ⟨.normal, fr, σ, ?_, h⟩
    intro w0 G w a Q' hW hF hQ
    cases c <;> simp [codeChk] at hc
    · exact wp_skip (hQ a w G rfl (Gle.refl G) hW hF)
    · exact wp_label (hQ a w G rfl (Gle.refl G) hW hF)
  | .reg ops, c, hc => by
    intro fr σ Q h
    obtain ⟨fr', σ', h1, h2⟩ := opsW_ok (n := n) ops fr σ _ h
    refine ⟨.normal, fr', σ', ?_, h1⟩
    intro w0 G w a Q' hW hF hQ
    cases c <;> simp only [codeChk, Bool.false_eq_true, Bool.and_eq_true, Bool.not_eq_true'] at hc
    rename_i id ops' draw
    obtain ⟨rfl, hc⟩ := hc
    refine wp_region ?_
    have := h2 w0 ops' Q' ops'.toList 0 G a w (fun j => by simp) hc hW hF hQ
    rw [List.range_eq_range']
    simpa using this
  | .dreg d, c, hc => by
    intro fr σ Q h
    obtain ⟨calls, fr', σ', h0, h1, h2⟩ := dregW_run h
    refine ⟨.normal, fr', σ', ?_, h2⟩
    intro w0 G w a Q' hW hF hQ
    cases c <;> simp only [codeChk, Bool.false_eq_true, Bool.and_eq_true] at hc
    obtain ⟨rfl, hf, hc⟩ := hc
    exact dreg_wp h0 hf hc h1 hW hF hQ
  | .scope x, c, hc => by
    intro fr σ Q h
    cases c <;> simp only [codeChk, Bool.false_eq_true] at hc
    rename_i c
    obtain ⟨e, fr', σ', h1, h2⟩ := aw_ok x c hc fr σ Q h
    refine ⟨e, fr', σ', ?_, h2⟩
    intro w0 G w a Q' hW hF hQ
    refine wp_scope_straight (h1 w0 G w a _ hW hF fun a' w' G' hd hG hW' hF' => ?_)
    have := hQ a' w' G' hd hG hW' hF'
    cases e <;> exact this
  | .keep d ts x, c, hc => by
    intro fr σ Q h
    obtain ⟨e, fr', σ', h1, h2⟩ := aw_ok x c (by rw [codeChk_keep] at hc; exact hc) _ σ Q h
    exact ⟨e, fr', σ', fun w0 G w a Q' hW hF hQ => h1 w0 G w a Q' hW (hF.keep d ts) hQ, h2⟩
  | .seq x y, c, hc => by
    intro fr σ Q h
    cases c <;> simp only [codeChk, Bool.false_eq_true, Bool.and_eq_true] at hc
    rename_i c1 c2
    obtain ⟨e, fr1, σ1, h1, h2⟩ := aw_ok x c1 hc.1 fr σ _ h
    cases e with
    | normal =>
      obtain ⟨e, fr', σ', h3, h4⟩ := aw_ok y c2 hc.2 fr1 σ1 _ h2
      refine ⟨e, fr', σ', ?_, h4⟩
      intro w0 G w a Q' hW hF hQ
      exact wp_seq (h1 w0 G w a _ hW hF fun a' w' G' hd hG hW' hF' => h3 w0 G' w' a' Q' hW' hF' fun a'' w'' G'' hd' hG' => hQ a'' w'' G'' (hd'.trans hd) (hG.trans hG'))
    | exit id =>
      refine ⟨_, fr1, σ1, ?_, h2⟩
      intro w0 G w a Q' hW hF hQ
      exact wp_seq (h1 w0 G w a _ hW hF hQ)
    | ret =>
      refine ⟨_, fr1, σ1, ?_, h2⟩
      intro w0 G w a Q' hW hF hQ
      exact wp_seq (h1 w0 G w a _ hW hF hQ)
  | .cond t x y, c, hc => by
    intro fr σ Q h
    cases c <;> simp only [codeChk, Bool.false_eq_true, Bool.and_eq_true] at hc
    rename_i o c1 c2
    obtain ⟨g1, g2, g3⟩ := hc
    simp only [aw] at h
    unfold condW at h
    split at h
    · rename_i ht
      obtain ⟨e, fr', σ', h1, h2⟩ := aw_ok x c1 g2 fr σ Q h
      refine ⟨e, fr', σ', ?_, h2⟩
      intro w0 G w a Q' hW hF hQ
      have hx := xChk_rel hF g1
      rw [ht] at hx
      exact wp_cond_true hx.bool_inv (h1 w0 G w a Q' hW hF hQ)
    · rename_i ht
      obtain ⟨e, fr', σ', h1, h2⟩ := aw_ok y c2 g3 fr σ Q h
      refine ⟨e, fr', σ', ?_, h2⟩
      intro w0 G w a Q' hW hF hQ
      have hx := xChk_rel hF g1
      rw [ht] at hx
      exact wp_cond_false hx.bool_inv (h1 w0 G w a Q' hW hF hQ)
    · cases h
  | .block id x, c, hc => by
    intro fr σ Q h
    cases c <;> simp only [codeChk, Bool.false_eq_true, Bool.and_eq_true, Nat.beq_eq] at hc
    rename_i id0 c1
    obtain ⟨hid, hc⟩ := hc
    subst hid
    obtain ⟨e, fr1, σ1, h1, h2⟩ := aw_ok x c1 hc fr σ _ h
    cases e with
    | normal =>
      refine ⟨_, fr1, σ1, ?_, h2⟩
      intro w0 G w a Q' hW hF hQ
      exact wp_block (h1 w0 G w a _ hW hF hQ)
    | ret =>
      refine ⟨_, fr1, σ1, ?_, h2⟩
      intro w0 G w a Q' hW hF hQ
      exact wp_block (h1 w0 G w a _ hW hF hQ)
    | exit id' =>
      simp only [blockP] at h2
      cases hb : id'.beq id0 with
      | true =>
        rw [hb] at h2
        refine ⟨.normal, fr1, σ1, ?_, h2⟩
        intro w0 G w a Q' hW hF hQ
        refine wp_block (h1 w0 G w a _ hW hF fun a' w' G' hd hG hW' hF' => ?_)
        simp only [exOf, Exit.inBlock]
        rw [if_pos (Nat.eq_of_beq_eq_true hb)]
        exact hQ a' w' G' hd hG hW' hF'
      | false =>
        rw [hb] at h2
        refine ⟨.exit id', fr1, σ1, ?_, h2⟩
        intro w0 G w a Q' hW hF hQ
        refine wp_block (h1 w0 G w a _ hW hF fun a' w' G' hd hG hW' hF' => ?_)
        simp only [exOf, Exit.inBlock]
        rw [if_neg (fun h => by rw [h, Nat.beq_refl] at hb; cases hb)]
        exact hQ a' w' G' hd hG hW' hF'
  | .loop x, c, hc => by
    intro fr σ Q h
    cases c <;> simp only [codeChk, Bool.false_eq_true] at hc
    rename_i c1
    obtain ⟨I, m, h0, hI⟩ := h
    obtain ⟨e, fr', σ', N, h1, h2⟩ := loopW_ok (fun fr σ Q h => aw_ok x c1 hc fr σ Q h) hI m fr σ h0
    refine ⟨e, fr', σ', ?_, h2⟩
    intro w0 G w a Q' hW hF hQ
    exact wp_loop_rounds N (h1 w0 G w a Q' hW hF hQ)
  | .exit id, c, hc => by
    intro fr σ Q h
    refine ⟨_, fr, σ, ?_, h⟩
    intro w0 G w a Q' hW hF hQ
    cases c <;> simp only [codeChk, Bool.false_eq_true, Nat.beq_eq] at hc
    subst hc
    exact wp_exit (hQ a w G rfl (Gle.refl G) hW hF)
  | .ret, c, hc => by
    intro fr σ Q h
    refine ⟨_, fr, σ, ?_, h⟩
    intro w0 G w a Q' hW hF hQ
    cases c <;> simp only [codeChk, Bool.false_eq_true] at hc
    exact wp_ret (hQ a w G rfl (Gle.refl G) hW hF)

/- functions -/

def resK (fr : Fr) (σ : St) : List ARes → (List AV → Prop) → Prop
  | [], K => K []
  | .tmp t :: r, K => resK fr σ r fun vs => K (fr.at t :: vs)
  | .cell1 t :: r, K => valW (load1V σ (fr.at t)) fun v => resK fr σ r fun vs => K (v :: vs)
  | .celln t n :: r, K => valW (loadnV σ n (fr.at t)) fun v => resK fr σ r fun vs => K (v :: vs)

def oneW (vs : List AV) (σ : St) (K : AV → St → Prop) : Prop := match vs with
  | [v] => K v σ
  | vs => K (.tup vs) σ

theorem resK_run {fr : Fr} : ∀ {rs : List ARes} {K : List AV → Prop}, resK fr σ rs K → ∃ vs, aResL fr σ rs = some vs ∧ K vs
  | [], K, h => ⟨[], rfl, h⟩
  | .tmp t :: r, K, h => by
    obtain ⟨vs, e, h⟩ := resK_run (rs := r) h
    exact ⟨_, by simp only [aResL, aRes1, e], h⟩
  | .cell1 t :: r, K, h => by
    obtain ⟨v, e1, h⟩ := valW_inv h
    obtain ⟨vs, e, h⟩ := resK_run (rs := r) h
    refine ⟨_, ?_, h⟩
    have e2 : aRes1 fr σ (.cell1 t) = some v := e1
    simp only [aResL, e2, e]
  | .celln t n :: r, K, h => by
    obtain ⟨v, e1, h⟩ := valW_inv h
    obtain ⟨vs, e, h⟩ := resK_run (rs := r) h
    refine ⟨_, ?_, h⟩
    have e2 : aRes1 fr σ (.celln t n) = some v := e1
    simp only [aResL, e2, e]

def retW (F : AF) (K : AV → St → Prop) : Post := fun e fr σ => match e with
  | .exit _ => False
  | .normal => resK fr σ F.res fun vs => oneW vs σ K
  | .ret => resK fr σ F.res fun vs => oneW vs σ K

theorem res_run {fr : Fr} {F : AF} {K : AV → St → Prop} (h : resK fr σ F.res fun vs => oneW vs σ K) : ∃ v, aResult fr σ F.res = some v ∧ K v σ := by
  obtain ⟨vs, e, h⟩ := resK_run h
  unfold aResult
  rw [e]
  unfold oneW at h
  split at h
  · exact ⟨_, rfl, h⟩
  · rename_i hne
    refine ⟨.tup vs, ?_, h⟩
    split
    · rename_i v' e'
      cases e'
      exact absurd rfl (hne _)
    · rename_i vs' _ e'
      cases e'; rfl
    · rename_i e'; cases e'

def fnW (P : Program) (F : AF) (args : List AV) (σ : St) (K : AV → St → Prop) : Prop := aw P F.body (retW F K) (initFr 0 args (fullT (F.ntmps.log2 + 1))) σ

theorem init_relT {G : Gh} {args : List AV} {vs : Array Value} {n m d : Nat} (hargs : RelL G false args vs.toList) (h1 : m = n) (hle : args.length ≤ n) :
    RelF G n (initFr 0 args (fullT d)).at { tmps := vs ++ Array.replicate (m - vs.size) Go.undef, defers := [] } := by
  have h := init_rel hargs h1 hle
  refine ⟨h.size, fun t => ?_⟩
  have := h.slot t
  rw [initFr_at] at this ⊢
  rw [fullT_at]
  exact this

theorem Ret.of_fn {f : FuncId} {fn : Func} {F : AF} (hf : P.funcs[f]? = some fn) (hcall : ∀ vs w, (callFunc f vs).run P w = .ok (.enter f vs) w)
    (hc : fnChk P fn F = true) {args : List AV} (hle : Nat.ble args.length F.ntmps = true) {K : AV → St → Prop} (h : fnW P F args σ K) : Ret P f args σ K := by
  have hle := Nat.le_of_ble_eq_true hle
  unfold fnChk at hc
  split at hc
  · rename_i c hb
    simp only [Bool.and_eq_true, Nat.beq_eq] at hc
    obtain ⟨h1, h2, h3⟩ := hc
    obtain ⟨e, fr, σ', g1, g2⟩ := aw_ok F.body c h3 _ _ _ h
    have key : ∀ v, aResult fr σ' F.res = some v → e ≠ .exit 0 → (e = .normal ∨ e = .ret) → CallOk P f args σ v σ' := by
      intro v hv _ he
      refine ⟨hcall, fun w0 G w vs hW hargs => ?_⟩
      refine calls_of_wp hf hb ?_
      refine g1 w0 G w _ _ hW (init_relT hargs h1 hle) fun a' w' G' hd hG hW' hF' => ?_
      obtain ⟨u, hr, hv'⟩ := results_ok hW' hF' h2 hv
      rcases he with rfl | rfl <;> exact ⟨hd, u, hr, u, G', rfl, hG, hW', hv'⟩
    unfold retW at g2
    cases e with
    | exit id => cases g2
    | normal =>
      obtain ⟨v, hv, g2⟩ := res_run g2
      exact ⟨v, σ', key v hv (by simp) (.inl rfl), g2⟩
    | ret =>
      obtain ⟨v, hv, g2⟩ := res_run g2
      exact ⟨v, σ', key v hv (by simp) (.inr rfl), g2⟩
  · cases hc

/-- These functions are the program's. -/
def Has (P : Program) (tab : Trie AF) : Prop := ∀ n F, tab.get n = some F → EntOk P n F

theorem Has.ret {tab : Trie AF} (H : Has P tab) {n : Nat} {F : AF} (hn : tab.get n = some F) {args : List AV} (hle : Nat.ble args.length F.ntmps = true) {K : AV → St → Prop} (h : fnW P F args σ K) : Ret P n args σ K := by
  obtain ⟨fn, h1, h2, h3⟩ := H n F hn
  exact Ret.of_fn h1 h2 h3 hle h

theorem loop_intro {body : Post → Fr → St → Prop} {Q : Post} {fr : Fr} (I : Nat → Fr → St → Prop) (m : Nat) (h0 : I m fr σ) (hs : ∀ m fr σ, I m fr σ → body (loopP (fun fr' σ' => ∃ m', m' < m ∧ I m' fr' σ') Q) fr σ) : loopW body Q fr σ :=
  ⟨I, m, h0, hs⟩
end Go.AM

/- Whole numbers of the abstract machine as naturals. -/
namespace Go.AM
set_option linter.all false

theorem wrap_u32 (n : Int) : IntKind.u32.wrap n = n % 4294967296 := by
  simp [IntKind.wrap, IntKind.bits, IntKind.signed]

theorem wrap_u64 (n : Int) : IntKind.u64.wrap n = n % 18446744073709551616 := by
  simp [IntKind.wrap, IntKind.bits, IntKind.signed]

theorem wrap_u8 (n : Int) : IntKind.u8.wrap n = n % 256 := by
  simp [IntKind.wrap, IntKind.bits, IntKind.signed]

theorem ofInt_nat (w a : Nat) : BitVec.ofInt w (a : Int) = BitVec.ofNat w a := by
  simp

theorem u32_xor {a b : Nat} (ha : a < 4294967296) (hb : b < 4294967296) : aBin .xor .num (.int .u32 a) (.int .u32 b) = some (.int .u32 ((a ^^^ b : Nat) : Int)) := by
  have h : a ^^^ b < 2 ^ 32 := Nat.xor_lt_two_pow (n := 32) (by omega) (by omega)
  show some (AV.int .u32 (IntKind.u32.wrap ((BitVec.ofInt 32 (a : Int) ^^^ BitVec.ofInt 32 (b : Int)).toNat))) = _
  rw [ofInt_nat, ofInt_nat, BitVec.toNat_xor, BitVec.toNat_ofNat, BitVec.toNat_ofNat, Nat.mod_eq_of_lt (by omega), Nat.mod_eq_of_lt (by omega), wrap_u32]
  congr 2
  omega

theorem u32_and {a b : Nat} (ha : a < 4294967296) (hb : b < 4294967296) : aBin .and .num (.int .u32 a) (.int .u32 b) = some (.int .u32 ((a &&& b : Nat) : Int)) := by
  have h : a &&& b < 2 ^ 32 := Nat.and_lt_two_pow (n := 32) _ (by omega)
  show some (AV.int .u32 (IntKind.u32.wrap ((BitVec.ofInt 32 (a : Int) &&& BitVec.ofInt 32 (b : Int)).toNat))) = _
  rw [ofInt_nat, ofInt_nat, BitVec.toNat_and, BitVec.toNat_ofNat, BitVec.toNat_ofNat, Nat.mod_eq_of_lt (by omega), Nat.mod_eq_of_lt (by omega), wrap_u32]
  congr 2
  omega

theorem u32_not {a : Nat} (ha : a < 4294967296) : aUn .xor (.int .u32 a) = some (.int .u32 ((4294967295 ^^^ a : Nat) : Int)) := by
  have h : 4294967295 ^^^ a < 2 ^ 32 := Nat.xor_lt_two_pow (n := 32) (by omega) (by omega)
  show some (AV.int .u32 (IntKind.u32.wrap ((BitVec.ofInt 32 ((4294967295 : Nat) : Int) ^^^ BitVec.ofInt 32 (a : Int)).toNat))) = _
  rw [ofInt_nat, ofInt_nat, BitVec.toNat_xor, BitVec.toNat_ofNat, BitVec.toNat_ofNat, Nat.mod_eq_of_lt (by omega), Nat.mod_eq_of_lt (by omega), wrap_u32]
  congr 2
  omega

theorem u32_shr1 {a : Nat} (ha : a < 4294967296) : aBin .shr .num (.int .u32 a) (.int .u64 1) = some (.int .u32 ((a / 2 : Nat) : Int)) := by
  have e : aBin .shr .num (.int .u32 a) (.int .u64 1) = some (AV.int .u32 ((a : Int).fdiv 2)) := by simp [aBin, IntKind.bits]
  rw [e, Int.fdiv_eq_ediv_of_nonneg _ (by omega)]
  congr 2

theorem u32_neg0 : aUn .neg (.int .u32 ((0 : Nat) : Int)) = some (.int .u32 ((0 : Nat) : Int)) := by
  show some (AV.int .u32 (IntKind.u32.wrap (0 - 0))) = _
  rw [wrap_u32]; rfl
theorem u32_neg1 : aUn .neg (.int .u32 ((1 : Nat) : Int)) = some (.int .u32 ((4294967295 : Nat) : Int)) := by
  show some (AV.int .u32 (IntKind.u32.wrap (0 - 1))) = _
  rw [wrap_u32]; rfl

theorem i64_wrap {n : Int} (h1 : -9223372036854775808 ≤ n) (h2 : n < 9223372036854775808) : IntKind.i64.wrap n = n := by
  simp only [IntKind.wrap, IntKind.bits, IntKind.signed]
  simp
  omega

theorem i64_add {a b : Int} (h1 : -9223372036854775808 ≤ a + b) (h2 : a + b < 9223372036854775808) : aBin .add .num (.int .i64 a) (.int .i64 b) = some (.int .i64 (a + b)) := by
  show some (AV.int .i64 (IntKind.i64.wrap (a + b))) = _
  rw [i64_wrap h1 h2]

theorem i64_sub {a b : Int} (h1 : -9223372036854775808 ≤ a - b) (h2 : a - b < 9223372036854775808) : aBin .sub .num (.int .i64 a) (.int .i64 b) = some (.int .i64 (a - b)) := by
  show some (AV.int .i64 (IntKind.i64.wrap (a - b))) = _
  rw [i64_wrap h1 h2]

theorem int_lss (k : IntKind) (a b : Int) : aBin .lss .num (.int k a) (.int k b) = some (.bool (decide (a < b))) := by cases k <;> rfl
theorem int_leq (k : IntKind) (a b : Int) : aBin .leq .num (.int k a) (.int k b) = some (.bool (decide (a ≤ b))) := by cases k <;> rfl
theorem int_gtr (k : IntKind) (a b : Int) : aBin .gtr .num (.int k a) (.int k b) = some (.bool (decide (a > b))) := by cases k <;> rfl
theorem int_geq (k : IntKind) (a b : Int) : aBin .geq .num (.int k a) (.int k b) = some (.bool (decide (a ≥ b))) := by cases k <;> rfl
theorem int_eql (k : IntKind) (a b : Int) : aBin .eql .num (.int k a) (.int k b) = some (.bool (decide (a = b))) := by cases k <;> rfl
theorem int_neq (k : IntKind) (a b : Int) : aBin .neq .num (.int k a) (.int k b) = some (.bool (!decide (a = b))) := by cases k <;> rfl

theorem valW_some (v : AV) (K : AV → Prop) : valW (some v) K = K v := rfl
theorem stW_some (σ : St) (K : St → Prop) : stW (some σ) K = K σ := rfl
theorem csW_some (c : List AV) (K : List AV → Prop) : csW (some c) K = K c := rfl
theorem optW_some (v : AV) (σ : St) (K : AV → St → Prop) : optW (some (v, σ)) K = K v σ := rfl
theorem condW_true (A B : Prop) : condW (.bool true) A B = A := rfl
theorem condW_false (A B : Prop) : condW (.bool false) A B = B := rfl

theorem condW_dec (p : Prop) [Decidable p] (A B : Prop) : condW (.bool (decide p)) A B = ((p → A) ∧ (¬p → B)) := by
  by_cases h : p
  · rw [decide_eq_true h, condW_true]; simp [h]
  · rw [decide_eq_false h, condW_false]; simp [h]
end Go.AM

/- What slices show. -/
namespace Go.AM
set_option linter.all false

/-- A slice's length and its cells. -/
def slView (k : Nat) (σ : St) (v : AV) : Option (Nat × List AV) := match v with
  | .nils => some (0, [])
  | .sl k' own len cs => view k σ (.sl k' own len cs)
  | .ms k' l off len => view k σ (.ms k' l off len)
  | _ => .none

theorem slView_view {k : Nat} {σ : St} {v : AV} {n : Nat} {cs : List AV} (h : slView k σ v = some (n, cs)) : view k σ v = some (n, cs) := by
  cases v <;> simp only [slView, reduceCtorEq] at h <;> first | exact h | (simp [view]; simp at h; exact h)

/-- Bytes. -/
def BytesV (σ : St) (v : AV) (bs : List Nat) : Prop := slView 1 σ v = some (bs.length, byteCells bs)

theorem view_len {k : Nat} {σ : St} {v : AV} {n : Nat} {cs : List AV} (h : slView k σ v = some (n, cs)) : lenV .slice σ v = some (.int .i64 n) := by
  cases v <;> simp only [slView, reduceCtorEq] at h
  · cases h; rfl
  · rename_i k' own len c
    simp only [view] at h
    split at h
    · cases h; rfl
    · cases h
  · rename_i k' l off len
    simp only [view] at h
    split at h
    · split at h
      · split at h
        · cases h; rfl
        · cases h
      · cases h
    · cases h

theorem view_at {k : Nat} {σ : St} {v : AV} {n : Nat} {cs : List AV} (h : slView k σ v = some (n, cs)) {i : Nat} (hi : i < n) :
    ∃ a, iaddrV k v (.int .i64 i) = some a ∧ ∀ m, (i * k) + m ≤ cs.length → m ≤ k → n * k ≤ cs.length → aLoad σ m a = some ((cs.drop (i * k)).take m) := by
  cases v <;> simp only [slView, reduceCtorEq] at h
  · cases h; omega
  · rename_i k' own len c
    simp only [view] at h
    split at h
    · rename_i hk
      simp at hk
      cases h
      subst hk
      refine ⟨.eptr (cs.drop (i * k)), ?_, fun m h1 _ _ => ?_⟩
      · simp [iaddrV, hi]
      · simp only [aLoad]
        rw [if_pos (by simp only [List.length_drop]; omega)]
    · cases h
  · rename_i k' l off len
    simp only [view] at h
    split at h
    · rename_i hk
      simp at hk
      split at h
      · rename_i c hl
        split at h
        · rename_i hle
          cases h
          subst hk
          refine ⟨.ptr l (off + i * k), ?_, fun m h1 h2 _ => ?_⟩
          · simp [iaddrV, hi]
          · have hm : i * k + m ≤ n * k := by
              have : (i + 1) * k ≤ n * k := Nat.mul_le_mul_right _ hi
              rw [Nat.add_mul] at this; omega
            simp only [aLoad, hl]
            rw [if_pos (by omega), List.drop_take, List.drop_drop, List.take_take, Nat.min_eq_left (by omega)]
        · cases h
      · cases h
    · cases h

theorem view_at1 {σ : St} {v : AV} {n : Nat} {cs : List AV} (h : slView 1 σ v = some (n, cs)) (hn : cs.length = n) {i : Nat} {x : AV} (hi : cs[i]? = some x) : ∃ a, iaddrV 1 v (.int .i64 i) = some a ∧ load1V σ a = some x := by
  have hlt : i < cs.length := (List.getElem?_eq_some_iff.1 hi).1
  obtain ⟨a, h1, h2⟩ := view_at h (by omega : i < n)
  refine ⟨a, h1, ?_⟩
  have := h2 1 (by omega) (Nat.le_refl _) (by omega)
  simp only [load1V, this, Nat.mul_one]
  have e : (cs.drop i).take 1 = [x] := by
    rw [List.getElem?_eq_some_iff] at hi
    obtain ⟨h, rfl⟩ := hi
    rw [List.drop_eq_getElem_cons h]; rfl
  rw [e]

theorem byteCells_length (bs : List Nat) : (byteCells bs).length = bs.length := by simp [byteCells]

theorem byteCells_get {bs : List Nat} {i : Nat} (h : i < bs.length) : (byteCells bs)[i]? = some (.int .u8 (bs[i] : Nat)) := by
  simp [byteCells, h]

theorem BytesV.at {σ : St} {v : AV} {bs : List Nat} (h : BytesV σ v bs) {i : Nat} (hi : i < bs.length) : ∃ a, iaddrV 1 v (.int .i64 i) = some a ∧ load1V σ a = some (.int .u8 (bs[i] : Nat)) :=
  view_at1 h (byteCells_length bs) (byteCells_get hi)
theorem BytesV.len {σ : St} {v : AV} {bs : List Nat} (h : BytesV σ v bs) : lenV .slice σ v = some (.int .i64 bs.length) := view_len h
end Go.AM

/- Stores that grow; cells; bytes that are appended to. -/
namespace Go.AM
set_option linter.all false

/-- What was there is as it was. -/
structure Ext (σ σ' : St) : Prop where
  next : σ.next ≤ σ'.next
  get : ∀ l, l < σ.next → σ'.get l = σ.get l

theorem Ext.refl (σ : St) : Ext σ σ := ⟨Nat.le_refl _, fun _ _ => rfl⟩
theorem Ext.trans {a b c : St} (h : Ext a b) (k : Ext b c) : Ext a c := ⟨Nat.le_trans h.next k.next, fun l hl => (k.get l (Nat.lt_of_lt_of_le hl h.next)).trans (h.get l hl)⟩
theorem Ext.new {a b : St} (h : Ext a b) (o : AObj) : Ext a (b.new o) := ⟨Nat.le_trans h.next (Nat.le_succ _), fun l hl => by
  rw [St.get_new, if_neg (by have := h.next; omega)]; exact h.get l hl⟩
theorem Ext.put {a b : St} (h : Ext a b) {l : Nat} (hl : a.next ≤ l) (o : AObj) : Ext a (b.put l o) := ⟨h.next, fun k hk => by
  rw [St.get_put, if_neg (by omega)]; exact h.get k hk⟩
theorem Ext.keep {a b : St} (h : Ext a b) {l : Nat} {o : AObj} (hl : l < a.next) (hg : a.get l = some o) : b.get l = some o := (h.get l hl).trans hg

theorem load1_ptr {σ : St} {l off : Nat} {cs : List AV} {v : AV} (h : σ.get l = some (.cells cs)) (hv : cs[off]? = some v) : load1V σ (.ptr l off) = some v := by
  have hlt := (List.getElem?_eq_some_iff.1 hv).1
  simp only [load1V, aLoad, h]
  rw [if_pos (by omega)]
  have e : (cs.drop off).take 1 = [v] := by
    rw [List.getElem?_eq_some_iff] at hv
    obtain ⟨h, rfl⟩ := hv
    rw [List.drop_eq_getElem_cons h]; rfl
  rw [e]

theorem loadn_ptr {σ : St} {l off n : Nat} {cs : List AV} (h : σ.get l = some (.cells cs)) (hn : off + n ≤ cs.length) : loadnV σ n (.ptr l off) = some (.agg ((cs.drop off).take n)) := by
  simp only [loadnV, aLoad, h]
  rw [if_pos hn]

theorem store_ptr {σ : St} {l off n : Nat} {cs vs : List AV} {y : AV} (h : σ.get l = some (.cells cs)) (hy : y.cellsO = some vs) (hl : vs.length = n) (hn : off + n ≤ cs.length) : storeS n σ (.ptr l off) y = some (σ.put l (.cells (fillAt cs off vs))) := by
  simp only [storeS, h, hy]
  rw [if_pos ⟨hl, hn⟩]

theorem store1_ptr {σ : St} {l off : Nat} {cs : List AV} {y : AV} (h : σ.get l = some (.cells cs)) (hy : y.cellsO = some [y]) (hn : off < cs.length) : storeS 1 σ (.ptr l off) y = some (σ.put l (.cells (cs.set off y))) := by
  rw [store_ptr (n := 1) h hy rfl (by omega)]
  congr 3
  unfold fillAt
  rw [List.set_eq_take_append_cons_drop, if_pos hn]
  simp

/- guards -/
theorem guard_tt (X : (AV → St → Prop) → Prop) (σ : St) (K : AV → St → Prop) : guardW (.bool true) true X σ K = X K := rfl
theorem guard_ft (X : (AV → St → Prop) → Prop) (σ : St) (K : AV → St → Prop) : guardW (.bool false) true X σ K = K (.tup []) σ := rfl
theorem guard_ff (X : (AV → St → Prop) → Prop) (σ : St) (K : AV → St → Prop) : guardW (.bool false) false X σ K = X K := rfl
theorem guard_tf (X : (AV → St → Prop) → Prop) (σ : St) (K : AV → St → Prop) : guardW (.bool true) false X σ K = K (.tup []) σ := rfl
theorem pick_t (x y : AV) : pickV (.bool true) x y = some x := rfl
theorem pick_f (x y : AV) : pickV (.bool false) x y = some y := rfl
theorem nilck_ptr (l o : Nat) : nilckV (.ptr l o) = some (.ptr l o) := rfl
theorem faddr_ptr (n l o : Nat) : faddrV n (.ptr l o) = some (.ptr l (o + n)) := rfl
theorem not_bool (b : Bool) : aUn .not (.bool b) = some (.bool !b) := rfl
theorem ext_0 (a : AV) (l : List AV) : extV (.tup (a :: l)) 0 = some a := rfl
theorem ext_1 (a b : AV) (l : List AV) : extV (.tup (a :: b :: l)) 1 = some b := rfl
theorem ext_2 (a b c : AV) (l : List AV) : extV (.tup (a :: b :: c :: l)) 2 = some c := rfl
theorem ptr_eq_nil (l o : Nat) : aBin .eql .ptr (.ptr l o) .nilp = some (.bool false) := rfl
theorem ptr_ne_nil (l o : Nat) : aBin .neq .ptr (.ptr l o) .nilp = some (.bool true) := rfl
theorem nil_eq_nil : aBin .eql .ptr .nilp .nilp = some (.bool true) := rfl
theorem nil_ne_nil : aBin .neq .ptr .nilp .nilp = some (.bool false) := rfl
theorem newW_eq (σ : St) (o : AObj) (K : AV → St → Prop) : newW σ o K = K (.ptr σ.next 0) (σ.new o) := rfl
theorem mapW_eq (σ : St) (K : AV → St → Prop) : mapW σ K = K (.mp σ.next) (σ.new (.map [] [] 0)) := rfl
theorem cells_agg (cs : List AV) : AV.cellsO (.agg cs) = some cs := rfl

/- a lazy way of rewriting: continuations are not looked into -/
@[congr] theorem valW_congr {x x' : Option AV} {K : AV → Prop} (h : x = x') : valW x K = valW x' K := by rw [h]
@[congr] theorem stW_congr {x x' : Option St} {K : St → Prop} (h : x = x') : stW x K = stW x' K := by rw [h]
@[congr] theorem csW_congr {x x' : Option (List AV)} {K : List AV → Prop} (h : x = x') : csW x K = csW x' K := by rw [h]
@[congr] theorem optW_congr {x x' : Option (AV × St)} {K : AV → St → Prop} (h : x = x') : optW x K = optW x' K := by rw [h]
@[congr] theorem condW_congr {v v' : AV} {A B : Prop} (h : v = v') : condW v A B = condW v' A B := by rw [h]
@[congr] theorem Ret_congr {P : Program} {f : FuncId} {a a' : List AV} {σ σ' : St} {K : AV → St → Prop} (h : a = a') (h' : σ = σ') : Ret P f a σ K = Ret P f a' σ' K := by rw [h, h']
@[congr] theorem bslW_congr {mt : Bool} {k n : Nat} {z : List AV} {σ : St} {q q' : List (Nat × Nat × AV)} {K : AV → St → Prop} (h : q = q') : bslW mt k n z σ q K = bslW mt k n z σ q' K := by rw [h]

/-- What hangs on a guard. -/
def guardT (b : Bool) (X : (AV → St → Prop) → Prop) (σ : St) (K : AV → St → Prop) : Prop := bif b then X K else K (.tup []) σ
def gv (b : Bool) (x : AV) : AV := bif b then x else .tup []
theorem guardW_t (b : Bool) (X : (AV → St → Prop) → Prop) (σ : St) (K : AV → St → Prop) : guardW (.bool b) true X σ K = guardT b X σ K := by cases b <;> rfl
theorem guardW_f (b : Bool) (X : (AV → St → Prop) → Prop) (σ : St) (K : AV → St → Prop) : guardW (.bool b) false X σ K = guardT (!b) X σ K := by cases b <;> rfl
theorem gT_load1 (b : Bool) (τ : St) (x : AV) (σ : St) (K : AV → St → Prop) : guardT b (fun K0 => valW (load1V τ (gv b x)) fun v => K0 v σ) σ K = guardT b (fun K0 => valW (load1V τ x) fun v => K0 v σ) σ K := by cases b <;> rfl
theorem gT_loadn (b : Bool) (τ : St) (n : Nat) (x : AV) (σ : St) (K : AV → St → Prop) : guardT b (fun K0 => valW (loadnV τ n (gv b x)) fun v => K0 v σ) σ K = guardT b (fun K0 => valW (loadnV τ n x) fun v => K0 v σ) σ K := by cases b <;> rfl
theorem gT_faddr (b : Bool) (n : Nat) (x : AV) (σ : St) (K : AV → St → Prop) : guardT b (fun K0 => valW (faddrV n (gv b x)) fun v => K0 v σ) σ K = guardT b (fun K0 => valW (faddrV n x) fun v => K0 v σ) σ K := by cases b <;> rfl
theorem gT_nilck (b : Bool) (x : AV) (σ : St) (K : AV → St → Prop) : guardT b (fun K0 => valW (nilckV (gv b x)) fun v => K0 v σ) σ K = guardT b (fun K0 => valW (nilckV x) fun v => K0 v σ) σ K := by cases b <;> rfl
theorem gT_bin1 (b : Bool) (o : BinOp) (k : EK) (x y : AV) (σ : St) (K : AV → St → Prop) : guardT b (fun K0 => valW (aBin o k (gv b x) y) fun v => K0 v σ) σ K = guardT b (fun K0 => valW (aBin o k x y) fun v => K0 v σ) σ K := by cases b <;> rfl
theorem gT_bin2 (b : Bool) (o : BinOp) (k : EK) (x y : AV) (σ : St) (K : AV → St → Prop) : guardT b (fun K0 => valW (aBin o k x (gv b y)) fun v => K0 v σ) σ K = guardT b (fun K0 => valW (aBin o k x y) fun v => K0 v σ) σ K := by cases b <;> rfl
theorem gT_un (b : Bool) (o : UnOp) (x : AV) (σ : St) (K : AV → St → Prop) : guardT b (fun K0 => valW (aUn o (gv b x)) fun v => K0 v σ) σ K = guardT b (fun K0 => valW (aUn o x) fun v => K0 v σ) σ K := by cases b <;> rfl
theorem gT_len (b : Bool) (k : EK) (τ : St) (x : AV) (σ : St) (K : AV → St → Prop) : guardT b (fun K0 => valW (lenV k τ (gv b x)) fun v => K0 v σ) σ K = guardT b (fun K0 => valW (lenV k τ x) fun v => K0 v σ) σ K := by cases b <;> rfl
theorem gT_conv (b : Bool) (c : AConv) (τ : St) (x : AV) (σ : St) (K : AV → St → Prop) : guardT b (fun K0 => valW (aConv c τ (gv b x)) fun v => K0 v σ) σ K = guardT b (fun K0 => valW (aConv c τ x) fun v => K0 v σ) σ K := by cases b <;> rfl
theorem gT_iaddr1 (b : Bool) (n : Nat) (x y : AV) (σ : St) (K : AV → St → Prop) : guardT b (fun K0 => valW (iaddrV n (gv b x) y) fun v => K0 v σ) σ K = guardT b (fun K0 => valW (iaddrV n x y) fun v => K0 v σ) σ K := by cases b <;> rfl
theorem gT_iaddr2 (b : Bool) (n : Nat) (x y : AV) (σ : St) (K : AV → St → Prop) : guardT b (fun K0 => valW (iaddrV n x (gv b y)) fun v => K0 v σ) σ K = guardT b (fun K0 => valW (iaddrV n x y) fun v => K0 v σ) σ K := by cases b <;> rfl
theorem gT_ext (b : Bool) (x : AV) (i : Nat) (σ : St) (K : AV → St → Prop) : guardT b (fun K0 => valW (extV (gv b x) i) fun v => K0 v σ) σ K = guardT b (fun K0 => valW (extV x i) fun v => K0 v σ) σ K := by cases b <;> rfl
theorem gT_field (b : Bool) (o : Nat) (n : Option Nat) (x : AV) (σ : St) (K : AV → St → Prop) : guardT b (fun K0 => valW (fieldV o n (gv b x)) fun v => K0 v σ) σ K = guardT b (fun K0 => valW (fieldV o n x) fun v => K0 v σ) σ K := by cases b <;> rfl
theorem gT_pick1 (b : Bool) (x y z : AV) (σ : St) (K : AV → St → Prop) : guardT b (fun K0 => valW (pickV (gv b x) y z) fun v => K0 v σ) σ K = guardT b (fun K0 => valW (pickV x y z) fun v => K0 v σ) σ K := by cases b <;> rfl
theorem gT_pick2 (b : Bool) (x y z : AV) (σ : St) (K : AV → St → Prop) : guardT b (fun K0 => valW (pickV x (gv b y) z) fun v => K0 v σ) σ K = guardT b (fun K0 => valW (pickV x y z) fun v => K0 v σ) σ K := by cases b <;> rfl
theorem guardT_mvg (b : Bool) (x : AV) (σ : St) (K : AV → St → Prop) : guardT b (fun K0 => K0 (gv b x) σ) σ K = K (gv b x) σ := by cases b <;> rfl
@[congr] theorem guardT_congr {b b' : Bool} {X X' : (AV → St → Prop) → Prop} {σ : St} {K : AV → St → Prop} (hb : b = b') (h : X = X') : guardT b X σ K = guardT b' X' σ K := by rw [hb, h]
theorem guardT_mv (b : Bool) (x : AV) (σ : St) (K : AV → St → Prop) : guardT b (fun K0 => K0 x σ) σ K = K (gv b x) σ := by cases b <;> rfl
theorem guardT_true (X : (AV → St → Prop) → Prop) (σ : St) (K : AV → St → Prop) : guardT true X σ K = X K := rfl
theorem guardT_false (X : (AV → St → Prop) → Prop) (σ : St) (K : AV → St → Prop) : guardT false X σ K = K (.tup []) σ := rfl
theorem guardT_iff (b : Bool) (X : (AV → St → Prop) → Prop) (σ : St) (K : AV → St → Prop) : guardT b X σ K = ((b = true → X K) ∧ (b = false → K (.tup []) σ)) := by cases b <;> simp [guardT]
theorem gv_true (x : AV) : gv true x = x := rfl
theorem gv_false (x : AV) : gv false x = .tup [] := rfl
theorem pick_and (b c : Bool) : pickV (.bool b) (gv b (.bool c)) (.bool false) = some (.bool (b && c)) := by cases b <;> rfl
theorem pick_or (b c : Bool) : pickV (.bool b) (.bool true) (gv (!b) (.bool c)) = some (.bool (b || c)) := by cases b <;> rfl
theorem pick_orn (b c : Bool) : pickV (.bool !b) (.bool true) (gv b (.bool c)) = some (.bool (!b || c)) := by cases b <;> rfl
theorem condW_bool (b : Bool) (A B : Prop) : condW (.bool b) A B = ((b = true → A) ∧ (b = false → B)) := by cases b <;> simp [condW]

/- bytes that are appended to -/

/-- Bytes of which this is the newest slice; nothing of what lies below B is touched when more are appended. -/
inductive Owned (B : Nat) (σ : St) : AV → List Nat → Prop where
  | nil : Owned B σ .nils []
  | exact (bs) : Owned B σ (.sl 1 .exact bs.length (byteCells bs)) bs
  | fam (l bs) : B ≤ l → l < σ.next → σ.get l = some (.fam bs.length) → Owned B σ (.sl 1 (.fam l bs.length) bs.length (byteCells bs)) bs

theorem Owned.bytes {B : Nat} {σ τ : St} {v : AV} {bs : List Nat} (h : Owned B σ v bs) : BytesV τ v bs := by
  cases h <;> simp [BytesV, slView, view, byteCells]

/-- Bytes that lie in no object. -/
inductive Flat : AV → List Nat → Prop where
  | nils : Flat .nils []
  | sl (own bs) : Flat (.sl 1 own bs.length (byteCells bs)) bs
theorem Flat.bytes {v : AV} {bs : List Nat} (h : Flat v bs) (τ : St) : BytesV τ v bs := by
  cases h <;> simp [BytesV, slView, view, byteCells]
theorem Owned.flat {B : Nat} {σ : St} {v : AV} {bs : List Nat} (h : Owned B σ v bs) : Flat v bs := by
  cases h
  · exact .nils
  · exact .sl _ _
  · exact .sl _ _

/-- One object alone may have changed. -/
structure Only (l : Nat) (σ σ' : St) : Prop where
  next : σ'.next = σ.next
  get : ∀ k, k ≠ l → σ'.get k = σ.get k
theorem Only.refl (l : Nat) (σ : St) : Only l σ σ := ⟨rfl, fun _ _ => rfl⟩
theorem Only.trans {l : Nat} {a b c : St} (h : Only l a b) (k : Only l b c) : Only l a c := ⟨k.next.trans h.next, fun i hi => (k.get i hi).trans (h.get i hi)⟩
theorem Only.put (l : Nat) (σ : St) (o : AObj) : Only l σ (σ.put l o) := ⟨rfl, fun k hk => by rw [St.get_put, if_neg (fun h => hk h.symm)]⟩

theorem Owned.weaken {B B' : Nat} {σ : St} {v : AV} {bs : List Nat} (h : Owned B σ v bs) (hB : B' ≤ B) : Owned B' σ v bs := by
  cases h with
  | nil => exact .nil
  | exact => exact .exact _
  | fam l bs h1 h2 h3 => exact .fam l bs (by omega) h2 h3

theorem Owned.ext {B : Nat} {σ σ' : St} {v : AV} {bs : List Nat} (h : Owned B σ v bs) (hE : Ext σ σ') : Owned B σ' v bs := by
  cases h with
  | nil => exact .nil
  | exact => exact .exact _
  | fam l bs h1 h2 h3 => exact .fam l bs h1 (Nat.lt_of_lt_of_le h2 hE.next) (hE.keep h2 h3)

theorem byteCells_append (a b : List Nat) : byteCells (a ++ b) = byteCells a ++ byteCells b := by simp [byteCells]

/-- What an append leaves. -/
structure Kept (B : Nat) (σ σ' : St) : Prop where
  next : σ.next ≤ σ'.next
  low : ∀ l, l < B → σ'.get l = σ.get l
  cells : ∀ l o, σ.get l = some o → (∀ e, o ≠ .fam e) → l < σ.next → σ'.get l = some o

theorem Kept.refl (B : Nat) (σ : St) : Kept B σ σ := ⟨Nat.le_refl _, fun _ _ => rfl, fun _ _ h _ _ => h⟩
theorem Kept.trans {B : Nat} {a b c : St} (h : Kept B a b) (k : Kept B b c) : Kept B a c :=
  ⟨Nat.le_trans h.next k.next, fun l hl => (k.low l hl).trans (h.low l hl), fun l o hg hf hl => k.cells l o (h.cells l o hg hf hl) hf (Nat.lt_of_lt_of_le hl h.next)⟩
theorem Ext.kept {B : Nat} {a b : St} (h : Ext a b) (hB : B ≤ a.next) : Kept B a b := ⟨h.next, fun l hl => h.get l (by omega), fun l _ hg _ hl => (h.get l hl).trans hg⟩

theorem Kept.new {B : Nat} {a b : St} (h : Kept B a b) (hB : B ≤ b.next) (o : AObj) : Kept B a (b.new o) :=
  ⟨Nat.le_trans h.next (Nat.le_succ _), fun l hl => by rw [St.get_new, if_neg (by omega)]; exact h.low l hl, fun l o' hg hf hl => by
    rw [St.get_new, if_neg (by have := h.next; omega)]; exact h.cells l o' hg hf hl⟩

theorem app_bytes' {B : Nat} {σ : St} {v x : AV} {bs cs : List Nat} (hv : Owned B σ v bs) (hx : BytesV σ x cs) (hr : bs.length + cs.length ≤ 1099511627776) (hB : B ≤ σ.next) :
    ∃ v' σ', aApp false 1 1 σ v x = some (v', σ') ∧ Owned B σ' v' (bs ++ cs) ∧ Kept B σ σ' ∧ (cs ≠ [] → B < σ'.next) := by
  have hvw := slView_view hx
  by_cases h0 : cs = []
  · subst h0
    refine ⟨v, σ, ?_, by simpa using hv, Kept.refl _ _, fun h => absurd rfl h⟩
    cases hv <;> simp [aApp, hvw]
  · have hn : cs.length ≠ 0 := by cases cs <;> simp_all
    cases hv with
    | nil =>
      refine ⟨_, _, by simp only [aApp, hvw]; rw [if_neg hn]; simp only [Nat.mul_one]; rw [if_pos (by simpa [room] using hr)]; rfl, ?_, ?_⟩
      · simp only [List.nil_append]
        exact .fam σ.next cs hB (by simp) (by rw [St.get_new, if_pos rfl])
      · exact ⟨⟨by simp, fun l hl => by rw [St.get_new, if_neg (by omega)], fun l o hg _ hl => by rw [St.get_new, if_neg (by omega)]; exact hg⟩, fun _ => by simp; omega⟩
    | exact =>
      refine ⟨.sl 1 (.fam σ.next (bs ++ cs).length) (bs ++ cs).length (byteCells (bs ++ cs)), σ.new (.fam (bs ++ cs).length), ?_, .fam σ.next (bs ++ cs) hB (by simp) (by rw [St.get_new, if_pos rfl]), ?_⟩
      · simp only [aApp, hvw]
        rw [if_neg hn]
        simp only [Nat.mul_one, List.length_append, byteCells_append]
        rw [if_pos ⟨trivial, by simpa [room] using hr⟩]
        rfl
      · exact ⟨⟨by simp, fun l hl => by rw [St.get_new, if_neg (by omega)], fun l o hg _ hl => by rw [St.get_new, if_neg (by omega)]; exact hg⟩, fun _ => by simp; omega⟩
    | fam l _ h1 h2 h3 =>
      refine ⟨.sl 1 (.fam l (bs ++ cs).length) (bs ++ cs).length (byteCells (bs ++ cs)), σ.put l (.fam (bs ++ cs).length), ?_, .fam l (bs ++ cs) h1 (by simpa using h2) (by rw [St.get_put, if_pos rfl]), ?_⟩
      · simp only [aApp, hvw]
        rw [if_neg hn]
        simp only [Nat.mul_one, List.length_append, byteCells_append, h3]
        rw [if_pos ⟨trivial, by simpa [room] using hr⟩]
        simp
      · refine ⟨⟨by simp, fun k hk => by rw [St.get_put, if_neg (by omega)], fun k o hg hf hk => ?_⟩, fun _ => by simp; omega⟩
        rw [St.get_put]
        split
        · rename_i e; subst e; rw [h3] at hg; cases hg; exact absurd rfl (hf _)
        · exact hg

theorem app_bytes {B : Nat} {σ : St} {v x : AV} {bs cs : List Nat} (hv : Owned B σ v bs) (hx : BytesV σ x cs) (hr : bs.length + cs.length ≤ 1099511627776) (hB : B ≤ σ.next) :
    ∃ v' σ', aApp false 1 1 σ v x = some (v', σ') ∧ Owned B σ' v' (bs ++ cs) ∧ Kept B σ σ' := by
  obtain ⟨v', s, h1, h2, h3, _⟩ := app_bytes' hv hx hr hB
  exact ⟨v', s, h1, h2, h3⟩
theorem get_put_same (σ : St) (l : Nat) (o : AObj) : (σ.put l o).get l = some o := by rw [St.get_put, if_pos rfl]
theorem get_new_same (σ : St) (o : AObj) : (σ.new o).get σ.next = some o := by rw [St.get_new, if_pos rfl]
theorem Flat.cellsO {v : AV} {bs : List Nat} (h : Flat v bs) : v.cellsO = some [v] := by cases h <;> rfl
theorem Kept.put {B : Nat} {a b : St} (h : Kept B a b) {l : Nat} (hl : a.next ≤ l) (hB : B ≤ l) (o : AObj) : Kept B a (b.put l o) :=
  ⟨h.next, fun k hk => by rw [St.get_put, if_neg (by omega)]; exact h.low k hk, fun k o' hg hf hk => by rw [St.get_put, if_neg (by omega)]; exact h.cells k o' hg hf hk⟩
theorem Kept.lower {B B' : Nat} {a b : St} (h : Kept B a b) (hB : B' ≤ B) : Kept B' a b := ⟨h.next, fun l hl => h.low l (by omega), h.cells⟩
theorem Owned.kept {B : Nat} {σ σ' : St} {v : AV} {bs : List Nat} (h : Owned B σ v bs) (hE : Kept σ.next σ σ') : Owned B σ' v bs := by
  cases h with
  | nil => exact .nil
  | exact => exact .exact _
  | fam l bs h1 h2 h3 => exact .fam l bs h1 (Nat.lt_of_lt_of_le h2 hE.next) ((hE.low l h2).trans h3)

theorem Kept.at {B : Nat} {a b : St} (h : Kept B a b) {l : Nat} {o : AObj} (hl : l < B) (hg : a.get l = some o) : b.get l = some o := (h.low l hl).trans hg

end Go.AM

/- A call that needs nothing of the heap comes to the same in every store. -/
namespace Go.AM
set_option linter.all false
open Go.RowKit
variable {P : Program} {w0 : Base} {w : World} {G : Gh} {σ : St}

theorem W.above (hW : W w0 G σ w) {w' : World} (h : Below w.heap.size w w') : W w0 G σ w' where
  below := by
    have h0 := hW.below
    exact ⟨h.os.trans h0.os, h.tape.trans h0.tape, h.output.trans h0.output, Nat.le_trans h0.size h.size, fun k hk => (h.block k (Nat.lt_of_lt_of_le hk h0.size)).trans (h0.block k hk)⟩
  obj l o hl := (hW.obj l o hl).mono (Gle.refl G) (fun b hb => by
    obtain ⟨b', hb', hlt, _⟩ := hW.blk_lt hl
    rw [hb] at hb'; cases hb'
    exact h.block b hlt) (fun _ _ => ⟨rfl, fun _ _ => rfl⟩)
  arr b pre tot hb := by rw [h.block b (hW.room b _ hb)]; exact hW.arr b pre tot hb
  sep := hW.sep
  sepΓ := hW.sepΓ
  fresh := hW.fresh
  room b x hb := Nat.lt_of_lt_of_le (hW.room b x hb) h.size
  roomΦ l e b hb := Nat.lt_of_lt_of_le (hW.roomΦ l e b hb) h.size
  famLive := hW.famLive
  hid b ob hb := by
    obtain ⟨h1, h2, h3⟩ := hW.hid b ob hb
    exact ⟨by rw [h.block b (hW.hid_lt hb)]; exact h1, h2, h3⟩

theorem closed_any {calls : Calls'} (hC : SoundC P calls) {f : FuncId} (h : isTrue (calls f [] St.empty) = true) (σ : St) : CallOk P f [] σ (.bool true) σ := by
  obtain ⟨σ', hr⟩ := isTrue_inv h
  refine ⟨(hC f [] St.empty _ σ' hr).1, fun w0 G w vs hW hargs => ?_⟩
  have hvs : vs = #[] := by
    have := hargs.length
    cases vs with | mk l => simpa using this.symm
  subst hvs
  refine (closed_walk hC h (vs := #[]) (.nil _) w).mono ?_
  rintro e w' ⟨rfl, hb⟩
  exact ⟨_, G, rfl, Gle.refl G, hW.above hb, .bool true⟩

/-- The same, as a summary. -/
def trueI : Intr := fun _ args σ => match args with
  | [] => some (.bool true, σ)
  | _ => .none

theorem trueI_ok {calls : Calls'} (hC : SoundC P calls) {f : FuncId} (h : isTrue (calls f [] St.empty) = true) : IntrOk P f trueI := by
  intro _ _ args σ r σ' hr
  unfold trueI at hr
  split at hr
  · cases hr; exact closed_any hC h σ
  · cases hr

theorem TAll.of_get {α : Type} : ∀ {t : Trie α} {p : Nat → α → Prop}, (∀ n x, t.get n = some x → p n x) → TAll p t
  | .leaf, _, _ => trivial
  | .node l v r, p, h => by
    refine ⟨?_, TAll.of_get fun m x hx => ?_, TAll.of_get fun m x hx => ?_⟩
    · cases v with
      | none => trivial
      | some x => exact h 0 x rfl
    · refine h (2 * m + 1) x ?_
      have e1 : (2 * m % 2).beq 0 = true := by simp
      have e2 : 2 * m / 2 = m := by omega
      simp only [Trie.get, e1, e2, cond_true]; exact hx
    · refine h (2 * m + 2) x ?_
      have e1 : ((2 * m + 1) % 2).beq 0 = false := by
        have : (2 * m + 1) % 2 = 1 := by omega
        rw [this]; rfl
      have e2 : (2 * m + 1) / 2 = m := by omega
      simp only [Trie.get, e1, e2, cond_false]; exact hx

theorem intr_set {t : Trie Intr} (h : TAll (IntrOk P) t) {n : Nat} {g : Intr} (hg : IntrOk P n g) : TAll (IntrOk P) (t.set n (some g)) := TAll.of_get fun m x hx => by
  rw [Trie.get_set] at hx
  split at hx
  · rename_i e; subst e; cases hx; exact hg
  · exact h.get m x hx

end Go.AM

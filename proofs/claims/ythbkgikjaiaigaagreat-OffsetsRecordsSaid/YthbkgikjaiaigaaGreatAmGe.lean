/- The abstract machine: AmDraw, AmHide, AmDraw2. -/
import Derived.Test.YthbkgikjaiaigaaGreatAmGd
namespace Go.AM
set_option linter.all false
open Go.RowKit
variable {P : Program} {w0 : Base} {w : World} {G : Gh} {σ : St}

/- what an operation looks at -/
def AX.slots : AX → List Nat | .t n => [n] | .c _ => []
def optSlots : Option AX → List Nat | .none => [] | some x => x.slots
def xsSlots (xs : List AX) : List Nat := xs.flatMap AX.slots
def psSlots (ps : List (Nat × Nat × AX)) : List Nat := ps.flatMap fun p => p.2.2.slots

def AO.slots : AO → List Nat
  | .mv x => x.slots
  | .pick c a b => c.slots ++ (a.slots ++ b.slots)
  | .alloc _ => []
  | .box x => x.slots
  | .build _ ps => psSlots ps
  | .bsl _ _ _ _ ps => psSlots ps
  | .load1 x => x.slots
  | .loadn _ x => x.slots
  | .store _ a v => a.slots ++ v.slots
  | .nilck x => x.slots
  | .bin _ _ x y => x.slots ++ y.slots
  | .un _ x => x.slots
  | .conv _ x => x.slots
  | .faddr _ x => x.slots
  | .iaddr _ x i => x.slots ++ i.slots
  | .iarr _ _ x i => x.slots ++ i.slots
  | .sidx x i => x.slots ++ i.slots
  | .field _ _ x => x.slots
  | .slc _ x lo hi m3 => x.slots ++ (optSlots lo ++ (optSlots hi ++ optSlots m3))
  | .sslc x lo hi => x.slots ++ (optSlots lo ++ optSlots hi)
  | .look _ _ _ m key => m.slots ++ key.slots
  | .mapup _ m key v => m.slots ++ (key.slots ++ v.slots)
  | .mapdel _ m key => m.slots ++ key.slots
  | .len _ x => x.slots
  | .app _ _ _ s x => s.slots ++ x.slots
  | .mx xs => xsSlots xs
  | .mn xs => xsSlots xs
  | .ext x _ => x.slots
  | .mkfn _ first cap => xsSlots first ++ xsSlots cap
  | .mkmap => []
  | .range x => x.slots
  | .next x => x.slots
  | .entry x => x.slots
  | .mksl _ _ _ n c => n.slots ++ c.slots
  | .call _ args => xsSlots args
  | .callv g args => g.slots ++ xsSlots args
  | .clr _ _ x => x.slots
  | .slcx _ x lo hi => x.slots ++ (lo.slots ++ hi.slots)
  | .bad => []

def AOp.slots (o : AOp) : List Nat := match o.guard with | some (t, _) => t :: o.op.slots | .none => o.op.slots

section congr
variable {fr fr' : Env}
theorem ev_congr {x : AX} (h : ∀ t ∈ x.slots, fr t = fr' t) : x.ev fr = x.ev fr' := by
  cases x with
  | t n => exact h n (by simp [AX.slots])
  | c v => rfl

theorem evs_congr : ∀ {xs : List AX}, (∀ t ∈ xsSlots xs, fr t = fr' t) → evs fr xs = evs fr' xs
  | [], _ => rfl
  | x :: xs, h => by
    have h1 : x.ev fr = x.ev fr' := ev_congr fun t ht => h t (by simp [xsSlots]; exact .inl ht)
    have h2 : evs fr xs = evs fr' xs := evs_congr fun t ht => h t (by simp [xsSlots] at ht ⊢; exact .inr ht)
    simp only [evs, List.map_cons] at h2 ⊢
    rw [h1, h2]

theorem fill_congr : ∀ {ps : List (Nat × Nat × AX)} {z : List AV}, (∀ t ∈ psSlots ps, fr t = fr' t) → fillAll fr z ps = fillAll fr' z ps
  | [], _, _ => rfl
  | (off, size, x) :: ps, z, h => by
    have h1 : x.ev fr = x.ev fr' := ev_congr fun t ht => h t (by simp [psSlots]; exact .inl ht)
    have h2 : ∀ z, fillAll fr z ps = fillAll fr' z ps := fun z => fill_congr fun t ht => h t (by simp [psSlots] at ht ⊢; exact .inr ht)
    simp only [fillAll, h1, h2]

theorem optNat_congr {d : Nat} {x : Option AX} (h : ∀ t ∈ optSlots x, fr t = fr' t) : optNat fr d x = optNat fr' d x := by
  cases x with
  | none => rfl
  | some x => simp only [optNat, ev_congr (x := x) h]

theorem aSlc_congr {k : Nat} {x : AV} {lo hi mx : Option AX} (h1 : ∀ t ∈ optSlots lo, fr t = fr' t) (h2 : ∀ t ∈ optSlots hi, fr t = fr' t) (h3 : ∀ t ∈ optSlots mx, fr t = fr' t) :
    aSlc k fr x lo hi mx = aSlc k fr' x lo hi mx := by
  have e1 : ∀ d, optNat fr d lo = optNat fr' d lo := fun d => optNat_congr h1
  have e2 : ∀ d, optNat fr d hi = optNat fr' d hi := fun d => optNat_congr h2
  have e3 : ∀ d, optNat fr d mx = optNat fr' d mx := fun d => optNat_congr h3
  unfold aSlc
  cases mx with
  | none =>
    simp only [e1, e2, e3]
    cases x with
    | ms k' b off len =>
      simp only
      generalize optNat fr' 0 lo = p
      generalize optNat fr' len hi = q
      cases p <;> cases q <;> rfl
    | _ => rfl
  | some m =>
    have e4 : m.ev fr = m.ev fr' := ev_congr h3
    simp only [e1, e2, e3]
    cases x with
    | ms k' b off len =>
      simp only
      generalize optNat fr' 0 lo = p
      generalize optNat fr' len hi = q
      cases p <;> cases q <;> simp only [e4]
    | _ => rfl

theorem aOp_congr {calls : Calls'} {σ : St} {o : AO} (h : ∀ t ∈ o.slots, fr t = fr' t) : aOp calls fr σ o = aOp calls fr' σ o := by
  cases o <;> simp only [AO.slots, List.mem_append] at h <;> simp only [aOp, bslS]
  case mv x => rw [ev_congr h]
  case pick c a b => rw [ev_congr fun t ht => h t (.inl ht), ev_congr (x := a) fun t ht => h t (.inr (.inl ht)), ev_congr (x := b) fun t ht => h t (.inr (.inr ht))]
  case box x => rw [ev_congr h]
  case build z ps => rw [fill_congr h]
  case bsl mt k len z ps => rw [fill_congr h]
  case load1 x => rw [ev_congr h]
  case loadn n x => rw [ev_congr h]
  case store n a v => rw [ev_congr fun t ht => h t (.inl ht), ev_congr (x := v) fun t ht => h t (.inr ht)]
  case nilck x => rw [ev_congr h]
  case bin op ek x y => rw [ev_congr fun t ht => h t (.inl ht), ev_congr (x := y) fun t ht => h t (.inr ht)]
  case un op x => rw [ev_congr h]
  case conv c x => rw [ev_congr h]
  case faddr off x => rw [ev_congr h]
  case iaddr k x i => rw [ev_congr fun t ht => h t (.inl ht), ev_congr (x := i) fun t ht => h t (.inr ht)]
  case iarr k len x i => rw [ev_congr fun t ht => h t (.inl ht), ev_congr (x := i) fun t ht => h t (.inr ht)]
  case sidx x i => rw [ev_congr fun t ht => h t (.inl ht), ev_congr (x := i) fun t ht => h t (.inr ht)]
  case field off n x => rw [ev_congr h]
  case slc k x lo hi mx => rw [ev_congr fun t ht => h t (.inl ht), aSlc_congr (fun t ht => h t (.inr (.inl ht))) (fun t ht => h t (.inr (.inr (.inl ht)))) (fun t ht => h t (.inr (.inr (.inr ht))))]
  case sslc x lo hi =>
    rw [ev_congr fun t ht => h t (.inl ht)]
    have e1 : ∀ d, optNat fr d lo = optNat fr' d lo := fun d => optNat_congr fun t ht => h t (.inr (.inl ht))
    have e2 : ∀ d, optNat fr d hi = optNat fr' d hi := fun d => optNat_congr fun t ht => h t (.inr (.inr ht))
    simp only [aSslc, e1, e2]
  case look ek z ok m key => rw [ev_congr fun t ht => h t (.inl ht), ev_congr (x := key) fun t ht => h t (.inr ht)]
  case mapup ek m key v => rw [ev_congr fun t ht => h t (.inl ht), ev_congr (x := key) fun t ht => h t (.inr (.inl ht)), ev_congr (x := v) fun t ht => h t (.inr (.inr ht))]
  case mapdel ek m key => rw [ev_congr fun t ht => h t (.inl ht), ev_congr (x := key) fun t ht => h t (.inr ht)]
  case len ek x => rw [ev_congr h]
  case app mt k bytes s x => rw [ev_congr fun t ht => h t (.inl ht), ev_congr (x := x) fun t ht => h t (.inr ht)]
  case clr k z x => rw [ev_congr h]
  case slcx k x lo hi => rw [ev_congr fun t ht => h t (.inl ht), ev_congr (x := lo) fun t ht => h t (.inr (.inl ht)), ev_congr (x := hi) fun t ht => h t (.inr (.inr ht))]
  case mx xs => rw [evs_congr h]
  case mn xs => rw [evs_congr h]
  case ext x i => rw [ev_congr h]
  case mkfn f first cap => rw [evs_congr fun t ht => h t (.inl ht), evs_congr (xs := cap) fun t ht => h t (.inr ht)]
  case range x => rw [ev_congr h]
  case next x => rw [ev_congr h]
  case entry x => rw [ev_congr h]
  case mksl k bytes z len cap => rw [ev_congr fun t ht => h t (.inl ht), ev_congr (x := cap) fun t ht => h t (.inr ht)]
  case call f args => rw [evs_congr h]
  case callv g args => rw [ev_congr fun t ht => h t (.inl ht), evs_congr fun t ht => h t (.inr ht)]

theorem aStep_congr {calls : Calls'} {σ : St} {o : AOp} (h : ∀ t ∈ o.slots, fr t = fr' t) : aStep calls fr σ o = aStep calls fr' σ o := by
  have h1 : ∀ t ∈ o.op.slots, fr t = fr' t := fun t ht => h t (by unfold AOp.slots; split <;> simp [ht])
  have h2 : wanted fr o.guard = wanted fr' o.guard := by
    unfold AOp.slots at h
    split at h
    · rename_i t b hg
      have := h t (by simp)
      rw [hg]; simp only [wanted, this]
    · rename_i hg; rw [hg]; rfl
  unfold aStep
  rw [h2, aOp_congr h1]
end congr

theorem wrapV_same {σ σ' : St} {x : Option AV} {v : AV} (h : wrapV σ x = some (v, σ')) : σ' = σ := by
  cases x <;> simp [wrapV] at h; exact h.2.symm

/-- A quiet operation leaves the store. -/
theorem quiet_same {calls : Calls'} {fr : Env} {σ σ' : St} {o : AO} {v : AV} (hq : o.loud = false) (h : aOp calls fr σ o = some (v, σ')) : σ' = σ := by
  cases o <;> simp only [AO.loud, Bool.true_eq_false] at hq <;> simp only [aOp] at h <;> try (first | exact wrapV_same h | (cases h; rfl) | (cases h; done))
  case build z ps => split at h <;> cases h; rfl
  case bsl mt k len z ps =>
    subst hq
    simp only [bslS] at h
    split at h
    · simp at h; exact h.2.symm
    · cases h

theorem step_quiet {calls : Calls'} {fr : Env} {σ σ' : St} {o : AOp} {v : AV} (hq : o.op.loud = false) (h : aStep calls fr σ o = some (v, σ')) : σ' = σ := by
  unfold aStep at h
  split at h
  · exact quiet_same hq h
  · cases h; rfl
  · cases h

/-- Does the answer hang on the store? -/
def AO.pure : AO → Bool
  | .mv _ | .pick .. | .build .. | .nilck _ | .bin .. | .un .. | .faddr .. | .iaddr .. | .iarr .. | .sidx .. | .field .. | .slc .. | .sslc .. | .mx _ | .mn _ | .ext .. | .mkfn .. => true
  | .bsl mt .. => !mt
  | .len .str _ => true
  | .len .slice _ => true
  | .conv (.int _) _ => true
  | .conv .same _ => true
  | .conv .toBytes _ => true
  | .bad => true
  | _ => false

theorem pure_any {calls : Calls'} {fr : Env} {σ σ1 : St} {o : AO} (hp : o.pure = true) {v : AV} {σ' : St} (h : aOp calls fr σ o = some (v, σ')) : aOp calls fr σ1 o = some (v, σ1) := by
  have key : ∀ {x : Option AV}, wrapV σ x = some (v, σ') → wrapV σ1 x = some (v, σ1) := by
    intro x hx
    cases x <;> simp [wrapV] at hx ⊢; exact hx.1
  unfold AO.pure at hp
  split at hp <;> simp only [aOp] at h ⊢ <;> try (first | exact key h | (simp at h ⊢; exact h.1) | cases hp)
  · split at h <;> simp at h ⊢; exact h.1
  · rename_i mt k len z ps
    simp only [Bool.not_eq_true'] at hp
    subst hp
    simp only [bslS] at h ⊢
    split at h <;> simp at h ⊢; exact h.1
  · refine key (x := _) ?_
    rename_i x
    have : lenV .str σ (x.ev fr) = lenV .str σ1 (x.ev fr) := by
      unfold lenV aLen; cases x.ev fr <;> rfl
    rw [← this]; exact h
  · refine key (x := _) ?_
    rename_i x
    have : lenV .slice σ (x.ev fr) = lenV .slice σ1 (x.ev fr) := by
      unfold lenV aLen; cases x.ev fr <;> rfl
    rw [← this]; exact h
  · refine key (x := _) ?_
    rename_i k x
    have : aConv (.int k) σ (x.ev fr) = aConv (.int k) σ1 (x.ev fr) := by
      unfold aConv; cases x.ev fr <;> rfl
    rw [← this]; exact h
  · refine key (x := _) ?_
    rename_i x
    have : aConv .same σ (x.ev fr) = aConv .same σ1 (x.ev fr) := by
      unfold aConv; cases x.ev fr <;> rfl
    rw [← this]; exact h
  · refine key (x := _) ?_
    rename_i x
    have : aConv .toBytes σ (x.ev fr) = aConv .toBytes σ1 (x.ev fr) := by
      unfold aConv; cases x.ev fr <;> rfl
    rw [← this]; exact h
  · cases h

theorem step_pure {calls : Calls'} {fr : Env} {σ σ1 : St} {o : AOp} (hp : o.op.pure = true) {v : AV} {σ' : St} (h : aStep calls fr σ o = some (v, σ')) : aStep calls fr σ1 o = some (v, σ1) := by
  unfold aStep at h ⊢
  split at h
  · exact pure_any hp h
  · cases h; rfl
  · cases h

theorem listEq_iff : ∀ {a b : List Nat}, listEq a b = true → a = b
  | [], [], _ => rfl
  | [], _ :: _, h => by simp [listEq] at h
  | _ :: _, [], h => by simp [listEq] at h
  | a :: x, b :: y, h => by
    simp [listEq] at h
    rw [h.1, listEq_iff h.2]

theorem ownEq_eq {a b : Own} (h : ownEq a b = true) : a = b := by
  cases a <;> cases b <;> simp [ownEq] at h <;> first | rfl | (rw [h.1, h.2])

mutual
theorem AV.beq_eq : ∀ (a b : AV), a.beq b = true → a = b
  | .undef, b, h => by cases b <;> simp [AV.beq] at h; rfl
  | .int k n, b, h => by
    cases b <;> simp [AV.beq] at h
    rw [kindEq_eq h.1, h.2]
  | .bool a, b, h => by cases b <;> simp [AV.beq] at h; rw [h]
  | .str a, b, h => by cases b <;> simp [AV.beq] at h; rw [listEq_iff h]
  | .nilp, b, h => by cases b <;> simp [AV.beq] at h; rfl
  | .ptr l o, b, h => by cases b <;> simp [AV.beq] at h; rw [h.1, h.2]
  | .eptr a, b, h => by
    cases b <;> simp [AV.beq] at h
    rw [beqL_eq a _ h]
  | .nils, b, h => by cases b <;> simp [AV.beq] at h; rfl
  | .sl k w n a, b, h => by
    cases b <;> simp [AV.beq] at h
    rw [h.1.1.1, ownEq_eq h.1.1.2, h.1.2, beqL_eq a _ h.2]
  | .ms k l o n, b, h => by cases b <;> simp [AV.beq] at h; rw [h.1.1.1, h.1.1.2, h.1.2, h.2]
  | .nilm, b, h => by cases b <;> simp [AV.beq] at h; rfl
  | .mp l, b, h => by cases b <;> simp [AV.beq] at h; rw [h]
  | .nilf, b, h => by cases b <;> simp [AV.beq] at h; rfl
  | .fn f a c, b, h => by
    cases b <;> simp [AV.beq] at h
    rw [h.1.1, beqL_eq a _ h.1.2, beqL_eq c _ h.2]
  | .agg a, b, h => by cases b <;> simp [AV.beq] at h; rw [beqL_eq a _ h]
  | .tup a, b, h => by cases b <;> simp [AV.beq] at h; rw [beqL_eq a _ h]
theorem beqL_eq : ∀ (a b : List AV), beqL a b = true → a = b
  | [], b, h => by cases b <;> simp [beqL] at h; rfl
  | x :: a, b, h => by
    cases b <;> simp [beqL] at h
    rw [AV.beq_eq x _ h.1, beqL_eq a _ h.2]
end

/- counting -/
def cnt (q : Nat → Bool) : Nat → Nat
  | 0 => 0
  | n + 1 => cnt q n + (bif q n then 1 else 0)

theorem cnt_mono {p q : Nat → Bool} : ∀ {n : Nat}, (∀ i, i < n → p i = true → q i = true) → cnt p n ≤ cnt q n
  | 0, _ => Nat.le_refl _
  | n + 1, h => by
    have h1 := cnt_mono (n := n) fun i hi => h i (by omega)
    have h2 := h n (by omega)
    simp only [cnt]
    cases hp : p n <;> cases hq : q n <;> simp_all <;> omega

theorem cnt_congr {p q : Nat → Bool} {n : Nat} (h : ∀ i, i < n → p i = q i) : cnt p n = cnt q n :=
  Nat.le_antisymm (cnt_mono fun i hi hp => by rw [← h i hi]; exact hp) (cnt_mono fun i hi hp => by rw [h i hi]; exact hp)

theorem cnt_flip {p q : Nat → Bool} {i : Nat} : ∀ {n : Nat}, i < n → p i = false → q i = true → (∀ j, j ≠ i → q j = p j) → cnt q n = cnt p n + 1
  | 0, h, _, _, _ => by omega
  | n + 1, h, hp, hq, hne => by
    simp only [cnt]
    by_cases hi : i = n
    · subst hi
      rw [cnt_congr (q := p) fun j hj => hne j (by omega)]
      simp [hp, hq]
    · rw [cnt_flip (n := n) (by omega) hp hq hne, hne n (Ne.symm hi)]
      omega

theorem cnt_zero {p : Nat → Bool} : ∀ {n : Nat}, cnt p n = 0 → ∀ i, i < n → p i = false
  | 0, _, i, hi => by omega
  | n + 1, h, i, hi => by
    simp only [cnt] at h
    by_cases hn : i = n
    · subst hn; cases hp : p i <;> simp_all
    · exact cnt_zero (n := n) (by omega) i (by omega)
end Go.AM

namespace Go.AM
set_option linter.all false
open Go.RowKit
variable {P : Program} {w0 : Base} {w : World} {G : Gh} {σ : St}

def Base.hide (w0 : Base) (b : Nat) (ob : Obj) : Base := { w0 with hid := (b, ob) :: w0.hid }

/-- A new block that is set aside. -/
theorem W.hide (hW : W w0 G σ w) (ob : Obj) : W (w0.hide w.heap.size ob) G σ (w.alloc ob) := by
  have hlt : ∀ {l o b}, σ.get l = some o → blk G l o = some b → b < w.heap.size := by
    intro l o b hl hb
    obtain ⟨b', h1, h2, _⟩ := hW.blk_lt hl
    rw [hb] at h1; cases h1; exact h2
  refine ⟨hW.below.alloc hW.below.size ob, ?_, ?_, hW.sep, hW.sepΓ, hW.fresh, ?_, ?_, hW.famLive, ?_⟩
  · intro l p hl
    refine (hW.obj l p hl).mono (Gle.refl G) (fun b hb => ?_) (fun _ _ => ⟨rfl, fun _ _ => rfl⟩)
    have := hlt hl hb
    rw [heap_new, if_neg (by omega)]
  · intro b pre tot h
    have := hW.room b _ h
    rw [heap_new, if_neg (by omega)]
    exact hW.arr b pre tot h
  · intro b x h
    have := hW.room b x h
    simp; omega
  · intro l e b h
    have := hW.roomΦ l e b h
    simp; omega
  · intro b x h
    rcases List.mem_cons.1 h with h | h
    · cases h
      refine ⟨by rw [heap_new, if_pos rfl], ?_, fun l o hl hb => ?_⟩
      · cases hx : G.Γ w.heap.size with
        | none => rfl
        | some x => have := hW.room _ _ hx; omega
      · have := hlt hl hb; omega
    · have hb := hW.hid_lt h
      obtain ⟨h1, h2, h3⟩ := hW.hid b x h
      exact ⟨by rw [heap_new, if_neg (by omega)]; exact h1, h2, h3⟩

/-- What was set aside becomes an object. -/
theorem W.adopt {b : Nat} {c : Array Value} {el : TypeId} (hW : W (w0.hide b (.cells c el (0, 0))) G σ w) (hb : w0.heap.size ≤ b) (hself : ∀ ob, (b, ob) ∉ w0.hid) {z : List AV} (hz : RelL G true z c.toList) :
    W w0 (G.addρ σ.next (b, 0, c.size)) (σ.new (.cells z)) w ∧ Gle G (G.addρ σ.next (b, 0, c.size)) := by
  have hfr := hW.fresh σ.next (Nat.le_refl _)
  have hG : Gle G (G.addρ σ.next (b, 0, c.size)) := .addρ hfr.2.1
  obtain ⟨g1, g2, g3⟩ := hW.hid b _ (List.mem_cons_self ..)
  have hnew : blk (G.addρ σ.next (b, 0, c.size)) σ.next (.cells z) = some b := by simp [blk, Gh.addρ]
  refine ⟨⟨hW.below, ?_, hW.arr, ?_, ?_, ?_, hW.room, hW.roomΦ, ?_, ?_⟩, hG⟩
  · intro l p hl
    rw [St.get_new] at hl
    split at hl
    · rename_i heq; subst heq; cases hl
      refine ⟨b, 0, c.size, c, el, by simp [Gh.addρ], hb, g1, rfl, ?_, ?_⟩
      · rw [Nat.zero_add, hz.length]; simp
      · rw [List.drop_zero, List.take_of_length_le (by rw [hz.length]; exact Nat.le_refl _)]
        exact hz.mono hG
    · exact (hW.obj l p hl).mono hG (fun b' _ => rfl) (fun e he => ⟨rfl, fun _ _ => rfl⟩)
  · intro l l' p p' b' h1 h2 hne hb'
    rw [St.get_new] at h1 h2
    split at h1 <;> split at h2
    · omega
    · rename_i heq _; subst heq; cases h1
      rw [hnew] at hb'; cases hb'
      rw [blk_addρ (by omega)]
      exact g3 l' p' h2
    · rename_i _ heq; subst heq; cases h2
      rw [blk_addρ (by omega)] at hb'
      rw [hnew]
      intro he; cases he
      exact g3 l p h1 hb'
    · rw [blk_addρ (by omega)] at hb' ⊢
      exact hW.sep l l' p p' b' h1 h2 hne hb'
  · intro l p b' h1 hf' hb'
    rw [St.get_new] at h1
    split at h1
    · rename_i heq; subst heq; cases h1
      rw [hnew] at hb'; cases hb'
      exact g2
    · rw [blk_addρ (by omega)] at hb'
      exact hW.sepΓ l p b' h1 hf' hb'
  · intro l hl
    simp only [St.next_new] at hl
    have := hW.fresh l (by omega)
    rw [St.get_new, if_neg (by omega)]
    exact ⟨this.1, by simp only [Gh.addρ]; rw [if_neg (by omega)]; exact this.2.1, this.2.2⟩
  · intro l e b' h
    have := hW.famLive l e b' h
    rw [St.get_new, if_neg (by rintro rfl; rw [hfr.1] at this; cases this)]
    exact this
  · intro b' x h
    obtain ⟨h1, h2, h3⟩ := hW.hid b' x (List.mem_cons_of_mem _ h)
    refine ⟨h1, h2, fun l p hl => ?_⟩
    rw [St.get_new] at hl
    split at hl
    · rename_i heq; subst heq; cases hl
      rw [hnew]
      intro he; cases he; exact hself x h
    · rw [blk_addρ (by omega)]; exact h3 l p hl
end Go.AM

namespace Go.AM
set_option linter.all false
open Go.RowKit
variable {P : Program} {w0 : Base} {w : World} {G : Gh} {σ : St}

def loudAt (d : DR) (i : Nat) : Bool := match d.ops[i]? with | some o => o.op.loud | .none => false
def DR.up (d : DR) (i j : Nat) : Bool := (d.anc.getD i 0).testBit j

def lowC (d : DR) (N i : Nat) : Nat := cnt (fun j => d.up i j && loudAt d j) N
def hiC (d : DR) (N i : Nat) : Nat := cnt (fun j => !(j.beq i) && (!d.up j i && loudAt d j)) N

def DR.isLate (d : DR) (i : Nat) : Bool := match d.late with | some m => m.beq i | .none => false

/-- The loud ones that do not hang on the late one. -/
def preOf (d : DR) (m j : Nat) : Bool := loudAt d j && (!(j.beq m) && !d.up j m)

def allBelow (q : Nat → Bool) : Nat → Bool
  | 0 => true
  | n + 1 => q n && allBelow q n

theorem allBelow_at {q : Nat → Bool} : ∀ {n : Nat}, allBelow q n = true → ∀ i, i < n → q i = true
  | 0, _, i, h => by omega
  | n + 1, h, i, hi => by
    simp only [allBelow, Bool.and_eq_true] at h
    by_cases hn : i = n
    · subst hn; exact h.1
    · exact allBelow_at h.2 i (by omega)

def isAlloc (o : AOp) : Bool := match o with
  | ⟨some _, .none, .alloc _⟩ => true
  | _ => false

def lateChk (d : DR) (N : Nat) : Bool := match d.late with
  | .none => true
  | some m => Nat.blt m N && ((match d.ops[m]? with | some o => isAlloc o | .none => false) && allBelow (fun i => !d.up i m || allBelow (fun j => !preOf d m j || d.up i j) N) N)

def chain (d : DR) (i : Nat) : Nat → Bool
  | 0 => true
  | n + 1 => (!loudAt d n || ((n.beq i || d.isLate n) || (d.up i n || d.up n i))) && chain d i n

def seen (i k : Nat) : List (Nat × Nat) → Bool
  | [] => false
  | (a, b) :: r => (a.beq i && b.beq k) || seen i k r

/-- Every stage below hi, from lo, is c or looked at again. -/
def cover (d : DR) (i c lo : Nat) : Nat → Bool
  | 0 => true
  | h + 1 => (Nat.blt h lo || (h.beq c || seen i h d.chks)) && cover d i c lo h

def slotOk (d : DR) (i done t : Nat) : Bool := match writer 0 d.ops t with
  | .none => true
  | some j => (d.up i j == done.testBit j) && (d.up i j || (j.beq i || d.up j i))

def edges (ops : Array Oper) (i : Nat) : List Nat := match ops[i]? with
  | some o => (o.after.toList.filter fun e => Region.binds .any e).map (·.on)
  | none => []

def ordChk (ops : Array Oper) (d : DR) (N : Nat) : List Nat → Nat → Nat → Bool
  | [], c, done => done.beq (2 ^ N - 1) && c.beq (cnt (loudAt d) N)
  | i :: r, c, done => match d.ops[i]? with
    | .none => false
    | some o => !done.testBit i && (o.slots.all (slotOk d i done) && ((edges ops i).all (fun e => Nat.blt e N && done.testBit e) &&
        ((if o.op.loud then (if d.isLate i then c.beq (cnt (preOf d i) N) else c.beq (lowC d N i) && chain d i N) else (o.op.pure || cover d i c (lowC d N i) (hiC d N i + 1))) &&
        ordChk ops d N r (if o.op.loud then c + 1 else c) (done ||| 2 ^ i))))

def ancOf (d : DR) : List Nat → Nat
  | [] => 0
  | e :: r => (2 ^ e ||| d.anc.getD e 0) ||| ancOf d r

def maskChk (ops : Array Oper) (d : DR) : Nat → Bool
  | 0 => true
  | n + 1 => (d.anc.getD n 0).beq (ancOf d (edges ops n)) && maskChk ops d n

def wrChk (all : List AOp) : Nat → List AOp → Bool
  | _, [] => true
  | i, o :: r => (match o.dst with | some t => (match writer 0 all t with | some j => j.beq i | .none => false) | .none => true) && wrChk all (i + 1) r

def dregChk (P : Program) (ops : Array Oper) (n : Nat) (d : DR) : Bool :=
  opsChk P ops n ops.toList d.ops && lateChk d ops.size && (maskChk ops d ops.size && (wrChk d.ops 0 d.ops && ordChk ops d ops.size d.ord 0 0))

/- what the checks say -/

theorem opsChk_at {ops : Array Oper} {n : Nat} : ∀ {l : List Oper} {as : List AOp}, opsChk P ops n l as = true → ∀ (i : Nat) (o : Oper), l[i]? = some o → ∃ ao, as[i]? = some ao ∧ oneChk P ops n o ao = true
  | [], [], _, i, o, h => by simp at h
  | [], _ :: _, hc, _, _, _ => by simp [opsChk] at hc
  | _ :: _, [], hc, _, _, _ => by simp [opsChk] at hc
  | x :: l, y :: as, hc, i, o, h => by
    simp only [opsChk, Bool.and_eq_true] at hc
    cases i with
    | zero => simp at h; subst h; exact ⟨y, by simp, hc.1⟩
    | succ i => simpa using opsChk_at hc.2 i o (by simpa using h)

theorem opsChk_len {ops : Array Oper} {n : Nat} : ∀ {l : List Oper} {as : List AOp}, opsChk P ops n l as = true → l.length = as.length
  | [], [], _ => rfl
  | [], _ :: _, hc => by simp [opsChk] at hc
  | _ :: _, [], hc => by simp [opsChk] at hc
  | x :: l, y :: as, hc => by
    simp only [opsChk, Bool.and_eq_true] at hc
    simp [opsChk_len hc.2]

theorem ancOf_bit (d : DR) : ∀ (es : List Nat) (j : Nat), (ancOf d es).testBit j = true → ∃ e ∈ es, j = e ∨ d.up e j = true
  | [], j, h => by simp [ancOf] at h
  | e :: r, j, h => by
    simp only [ancOf, Nat.testBit_or, Bool.or_eq_true, Nat.testBit_two_pow, decide_eq_true_eq] at h
    rcases h with (h | h) | h
    · exact ⟨e, by simp, .inl h.symm⟩
    · exact ⟨e, by simp, .inr h⟩
    · obtain ⟨e', he, h⟩ := ancOf_bit d r j h
      exact ⟨e', by simp [he], h⟩

theorem maskChk_at {ops : Array Oper} {d : DR} : ∀ {N : Nat}, maskChk ops d N = true → ∀ i, i < N → d.anc.getD i 0 = ancOf d (edges ops i)
  | 0, _, i, h => by omega
  | n + 1, hc, i, h => by
    simp only [maskChk, Bool.and_eq_true, Nat.beq_eq] at hc
    by_cases hi : i = n
    · subst hi; exact hc.1
    · exact maskChk_at hc.2 i (by omega)

theorem writer_inv : ∀ {l : List AOp} {s t j : Nat}, writer s l t = some j → ∃ o, s ≤ j ∧ l[j - s]? = some o ∧ o.dst = some t
  | [], _, _, _, h => by simp [writer] at h
  | o :: r, s, t, j, h => by
    simp only [writer] at h
    split at h
    · rename_i dd hd
      split at h
      · rename_i hb
        simp at hb h
        subst hb; subst h
        exact ⟨o, Nat.le_refl _, by simp, hd⟩
      · obtain ⟨o', h1, h2, h3⟩ := writer_inv h
        refine ⟨o', by omega, ?_, h3⟩
        rw [show j - s = (j - (s + 1)) + 1 by omega]
        simpa using h2
    · obtain ⟨o', h1, h2, h3⟩ := writer_inv h
      refine ⟨o', by omega, ?_, h3⟩
      rw [show j - s = (j - (s + 1)) + 1 by omega]
      simpa using h2

theorem wrChk_at {all : List AOp} : ∀ {l : List AOp} {s : Nat}, wrChk all s l = true → ∀ (i : Nat) (o : AOp) (t : Nat), l[i]? = some o → o.dst = some t → writer 0 all t = some (s + i)
  | [], _, _, i, o, t, h, _ => by simp at h
  | x :: l, s, hc, i, o, t, h, hd => by
    simp only [wrChk, Bool.and_eq_true] at hc
    cases i with
    | zero =>
      simp at h; subst h
      have := hc.1
      rw [hd] at this
      simp only at this
      split at this
      · rename_i j hj; simp at this; rw [hj, this]; rfl
      · cases this
    | succ i =>
      rw [wrChk_at hc.2 i o t (by simpa using h) hd]
      congr 1; omega

theorem chain_at {d : DR} {i : Nat} : ∀ {N : Nat}, chain d i N = true → ∀ j, j < N → loudAt d j = true → (j = i ∨ d.isLate j = true) ∨ d.up i j = true ∨ d.up j i = true
  | 0, _, j, h, _ => by omega
  | n + 1, hc, j, h, hl => by
    simp only [chain, Bool.and_eq_true, Bool.or_eq_true, Bool.not_eq_true', Nat.beq_eq] at hc
    by_cases hj : j = n
    · subst hj
      rcases hc.1 with h1 | h1
      · rw [hl] at h1; cases h1
      · exact h1
    · exact chain_at hc.2 j (by omega) hl

theorem cover_at {d : DR} {i c lo : Nat} : ∀ {h : Nat}, cover d i c lo h = true → ∀ k, lo ≤ k → k < h → k = c ∨ seen i k d.chks = true
  | 0, _, k, _, hk => by omega
  | n + 1, hc, k, hl, hk => by
    simp only [cover, Bool.and_eq_true, Bool.or_eq_true, Nat.beq_eq, Nat.blt_eq] at hc
    by_cases hj : k = n
    · subst hj
      rcases hc.1 with h1 | h1
      · omega
      · exact h1
    · exact cover_at hc.2 k hl (by omega)

theorem seen_mem {i k : Nat} : ∀ {l : List (Nat × Nat)}, seen i k l = true → (i, k) ∈ l
  | [], h => by simp [seen] at h
  | (a, b) :: r, h => by
    simp only [seen, Bool.or_eq_true, Bool.and_eq_true, Nat.beq_eq] at h
    rcases h with ⟨rfl, rfl⟩ | h
    · simp
    · exact List.mem_cons_of_mem _ (seen_mem h)

theorem dChk_at {calls : Calls'} {d : DR} {fr0 fr1 : Env} {sts : List St} : ∀ {l : List (Nat × Nat)}, dChk calls d fr0 fr1 sts l = true → ∀ (i k : Nat), (i, k) ∈ l →
    ∃ o σ v σ', d.ops[i]? = some o ∧ sts[k]? = some σ ∧ aStep calls (opd d fr0 fr1 i) σ o = some (v, σ') ∧ ∀ t, o.dst = some t → v = fr1 t
  | [], _, i, k, h => by simp at h
  | (a, b) :: r, hc, i, k, h => by
    simp only [dChk, Bool.and_eq_true] at hc
    rcases List.mem_cons.1 h with h | h
    · cases h
      have h1 := hc.1
      split at h1
      · rename_i o σ ho hσ
        split at h1
        · rename_i v σ' hs
          refine ⟨o, σ, v, σ', ho, hσ, hs, fun t ht => ?_⟩
          rw [ht] at h1
          exact AV.beq_eq _ _ h1
        · cases h1
      · cases h1
    · exact dChk_at hc.2 i k h

theorem up_lt {ops : Array Oper} {d : DR} {N i j : Nat} (h : d.up i j = true) (hm : maskChk ops d N = true) (hi : i < N) : ∃ e ∈ edges ops i, j = e ∨ d.up e j = true := by
  unfold DR.up at h
  rw [maskChk_at hm i hi] at h
  exact ancOf_bit d _ j h

theorem testBit_or_pow (done i j : Nat) : (done ||| 2 ^ i).testBit j = (done.testBit j || decide (i = j)) := by
  simp [Nat.testBit_or, Nat.testBit_two_pow]

/-- All are listed when none is ready. -/
theorem all_listed {ops : Array Oper} {d : DR} {listed : Array Bool} (hs : listed.size = ops.size) (hn : Region.ready .any ops listed = []) (hN : ops.size = d.ops.length) : ∀ {ord : List Nat} {c done : Nat}, ordChk ops d ops.size ord c done = true →
    (∀ j, j < ops.size → done.testBit j = true → listed.getD j false = true) → ∀ j, j < ops.size → listed.getD j false = true
  | [], c, done, h, hd, j, hj => by
    simp only [ordChk, Bool.and_eq_true, Nat.beq_eq] at h
    refine hd j hj ?_
    rw [h.1, Nat.testBit_two_pow_sub_one]
    simpa using hj
  | i :: r, c, done, h, hd, j, hj => by
    simp only [ordChk] at h
    split at h
    · cases h
    · rename_i o ho
      simp only [Bool.and_eq_true] at h
      obtain ⟨h1, h2, h3, h4, h5⟩ := h
      refine all_listed hs hn hN h5 (fun k hk hb => ?_) j hj
      rw [testBit_or_pow] at hb
      simp only [Bool.or_eq_true, decide_eq_true_eq] at hb
      rcases hb with hb | rfl
      · exact hd k hk hb
      · cases hl : listed.getD i false with
        | true => rfl
        | false =>
          exfalso
          have hmem : i ∈ Region.ready .any ops listed := by
            rw [mem_ready]
            have hlt : i < listed.size := by omega
            refine ⟨by simpa [hlt] using hl, ops[i], by simp [hk], fun e he hb => ?_⟩
            have : e.on ∈ edges ops i := by
              unfold edges
              have : ops[i]? = some ops[i] := by simp [hk]
              rw [this]
              simp only [List.mem_map, List.mem_filter]
              exact ⟨e, ⟨by simpa using he, hb⟩, rfl⟩
            have h6 := List.all_eq_true.1 h3 _ this
            simp only [Bool.and_eq_true, Nat.blt_eq] at h6
            exact hd _ h6.1 h6.2
          rw [hn] at hmem
          cases hmem

/-- What the run along the order says of every operation. -/
def Good (calls : Calls') (ops : Array Oper) (d : DR) (fr0 fr1 : Env) (sts : List St) (i : Nat) (o : AOp) : Prop :=
  ∃ k σk σ' v, sts[k]? = some σk ∧ aStep calls (opd d fr0 fr1 i) σk o = some (v, σ') ∧ (∀ t, o.dst = some t → v = fr1 t) ∧
    (o.op.loud = true → (d.isLate i = true → k = cnt (preOf d i) ops.size) ∧ (d.isLate i = false → k = lowC d ops.size i ∧ chain d i ops.size = true) ∧ sts[k + 1]? = some σ') ∧
    (o.op.loud = false → o.op.pure = true ∨ cover d i k (lowC d ops.size i) (hiC d ops.size i + 1) = true)

theorem rev_at {α : Type} (ext rest : List α) (σ : α) : (ext ++ σ :: rest).reverse[rest.length]? = some σ := by
  simp

theorem rev_at1 {α : Type} (ext rest : List α) (σ σ' : α) : (ext ++ σ' :: σ :: rest).reverse[rest.length + 1]? = some σ' := by
  simp

theorem dRun_good {calls : Calls'} {ops : Array Oper} {d : DR} {fr0 : Env} {fr1 : Fr} {L : List St} (hN : ops.size = d.ops.length) (hwr : wrChk d.ops 0 d.ops = true) :
    ∀ {ord : List Nat} {c done : Nat} {fr : Fr} {σ : St} {rest : List St}, ordChk ops d ops.size ord c done = true → dRun calls d.ops ord fr (σ :: rest) = some (fr1, L) → rest.length = c →
    (∀ t, (∀ j, writer 0 d.ops t = some j → done.testBit j = false) → fr.at t = fr0 t) →
    (∃ ext, L = ext ++ σ :: rest) ∧ (L.length = cnt (loudAt d) ops.size + 1) ∧ (∀ t j, writer 0 d.ops t = some j → done.testBit j = true → fr1.at t = fr.at t) ∧ (∀ t, writer 0 d.ops t = .none → fr1.at t = fr.at t) ∧
    (∀ i o, done.testBit i = false → d.ops[i]? = some o → Good calls ops d fr0 fr1.at L.reverse i o ∧ ∀ t ∈ o.slots, ∀ j, writer 0 d.ops t = some j → d.up i j = true ∨ j = i ∨ d.up j i = true)
  | [], c, done, fr, σ, rest, h, hr, hc, hfw => by
    simp only [dRun] at hr
    cases hr
    simp only [ordChk, Bool.and_eq_true, Nat.beq_eq] at h
    refine ⟨⟨[], rfl⟩, by simp [hc, h.2], fun _ _ _ _ => rfl, fun _ _ => rfl, fun i o hi ho => ?_⟩
    exfalso
    rw [h.1, Nat.testBit_two_pow_sub_one] at hi
    have := (List.getElem?_eq_some_iff.1 ho).1
    simp at hi
    omega
  | i :: r, c, done, fr, σ, rest, h, hr, hc, hfw => by
    simp only [ordChk] at h
    split at h
    · cases h
    · rename_i o ho
      simp only [Bool.and_eq_true, Bool.not_eq_true'] at h
      obtain ⟨h1, h2, h3, h4, h5⟩ := h
      simp only [dRun, ho] at hr
      split at hr
      · rename_i v σ' hs
        have hslot : ∀ t ∈ o.slots, ∀ j, writer 0 d.ops t = some j → (d.up i j = done.testBit j) ∧ (d.up i j = true ∨ j = i ∨ d.up j i = true) := by
          intro t ht j hj
          have := List.all_eq_true.1 h2 t ht
          simp only [slotOk, hj, Bool.and_eq_true, Bool.or_eq_true, beq_iff_eq, Nat.beq_eq] at this
          exact this
        have hfw' : ∀ t, (∀ j, writer 0 d.ops t = some j → (done ||| 2 ^ i).testBit j = false) → (putDst fr o.dst v).at t = fr0 t := by
          intro t ht
          have h6 : fr.at t = fr0 t := hfw t fun j hj => by
            have := ht j hj
            rw [testBit_or_pow] at this
            simp at this
            exact this.1
          unfold putDst
          split
          · rename_i t' hd
            rw [Fr.at_put]
            by_cases htt : t' = t
            · subst htt
              have hw := wrChk_at hwr i o t' ho hd
              simp only [Nat.zero_add] at hw
              have := ht i hw
              rw [testBit_or_pow] at this
              simp at this
            · rw [if_neg htt]; exact h6
          · exact h6
        have hbig : ∃ σ1 rest1 c1, (if o.op.loud then σ' :: σ :: rest else σ :: rest) = σ1 :: rest1 ∧ rest1.length = c1 ∧ c1 = (if o.op.loud then c + 1 else c) ∧ ∃ e1, σ1 :: rest1 = e1 ++ σ :: rest := by
          cases o.op.loud
          · exact ⟨σ, rest, c, rfl, hc, rfl, [], rfl⟩
          · exact ⟨σ', σ :: rest, c + 1, rfl, by simp [hc], rfl, [σ'], rfl⟩
        obtain ⟨σ1, rest1, c1, e1, e2, e3, e4, e5⟩ := hbig
        rw [e1] at hr
        rw [← e3] at h5
        obtain ⟨⟨ext, g1⟩, g2, g3, g4, g5⟩ := dRun_good hN hwr h5 hr e2 hfw'
        have gE : ∃ ext, L = ext ++ σ :: rest := ⟨ext ++ e4, by rw [g1, e5, List.append_assoc]⟩
        have hput : ∀ t, o.dst ≠ some t → (putDst fr o.dst v).at t = fr.at t := by
          intro t ht
          unfold putDst
          split
          · rename_i t' hd
            rw [Fr.at_put, if_neg]
            rintro rfl; exact ht hd
          · rfl
        have g3' : ∀ t j, writer 0 d.ops t = some j → done.testBit j = true → fr1.at t = fr.at t := by
          intro t j hj hb
          rw [g3 t j hj (by rw [testBit_or_pow, hb]; rfl), hput]
          intro hd
          have hw := wrChk_at hwr i o t ho hd
          simp only [Nat.zero_add, hj, Option.some.injEq] at hw
          rw [hw, h1] at hb
          cases hb
        have g4' : ∀ t, writer 0 d.ops t = .none → fr1.at t = fr.at t := by
          intro t ht
          rw [g4 t ht, hput]
          intro hd
          have hw := wrChk_at hwr i o t ho hd
          rw [ht] at hw
          cases hw
        refine ⟨gE, g2, g3', g4', fun i' o' hi' ho' => ?_⟩
        by_cases hii : i' = i
        · subst hii
          rw [ho] at ho'
          cases ho'
          obtain ⟨ext2, gE⟩ := gE
          refine ⟨⟨c, σ, σ', v, by rw [gE, ← hc]; exact rev_at _ _ _, ?_, ?_, ?_, ?_⟩, fun t ht j hj => (hslot t ht j hj).2⟩
          · rw [← hs]
            refine aStep_congr fun t ht => ?_
            unfold opd
            split
            · rename_i j hj
              have h7 := (hslot t ht j hj).1
              unfold DR.up at h7
              rw [h7]
              split
              · rename_i hb; exact g3' t j hj hb
              · rename_i hb
                refine (hfw t fun j' hj' => ?_).symm
                rw [hj] at hj'
                cases hj'
                simpa using hb
            · rename_i hj
              exact (hfw t fun j' hj' => by rw [hj] at hj'; cases hj').symm
          · intro t ht
            have hw := wrChk_at hwr i' o t ho ht
            simp only [Nat.zero_add] at hw
            rw [g3 t i' hw (by rw [testBit_or_pow]; simp), ht]
            simp [putDst, Fr.at_put]
          · intro hl
            rw [hl] at e1
            simp only [if_true, List.cons.injEq] at e1
            simp only [hl, if_true] at h4
            refine ⟨fun hlt => ?_, fun hlt => ?_, ?_⟩
            · simp only [hlt, if_true, Nat.beq_eq] at h4; exact h4
            · simp only [hlt, Bool.false_eq_true, if_false, Bool.and_eq_true, Nat.beq_eq] at h4; exact h4
            rw [g1, ← e1.1, ← e1.2, ← hc]
            exact rev_at1 _ _ _ _
          · intro hl
            simp only [hl, Bool.false_eq_true, if_false, Bool.or_eq_true] at h4
            exact h4
        · refine g5 i' o' ?_ ho'
          rw [testBit_or_pow, hi']
          simp [Ne.symm hii]
      · cases hr

/-- What the slots hold when the listed ones have been carried out. -/
def mixed (d : DR) (fr0 fr1 : Env) (S : Nat → Bool) : Env := fun t => match writer 0 d.ops t with
  | some j => if S j then fr1 t else fr0 t
  | .none => fr0 t

def blank (x : Option Nat) (fr : Env) : Env := fun t => match x with
  | some s => if s = t then .undef else fr t
  | .none => fr t

theorem RelF.putE {G G' : Gh} {n : Nat} {fr fr' : Env} {a : Act} {v : AV} {u : Value} {d : Option Nat} (hG : Gle G G') (hF : RelF G n fr a) (hv : RelV G' v u) (hd : ∀ t, d = some t → t < n)
    (h1 : ∀ t, d = some t → fr' t = v) (h2 : ∀ t, d ≠ some t → fr' t = fr t) : RelF G' n fr' (a.put d u) := by
  cases d with
  | none =>
    have : fr' = fr := funext fun t => h2 t (by simp)
    rw [this]
    exact hF.mono hG
  | some t =>
    have ht := hd t rfl
    refine ⟨by simp [Act.put, hF.size], fun k => ?_⟩
    simp only [Act.put]
    by_cases hk : t = k
    · subst hk
      rw [h1 t rfl]
      have : (a.tmps.setIfInBounds t u).getD t Go.undef = u := by
        simp [Array.getD, hF.size, ht]
      rw [this]; exact hv
    · rw [h2 k (by simpa using hk)]
      have : (a.tmps.setIfInBounds t u).getD k Go.undef = a.tmps.getD k Go.undef := by
        simp only [Array.getD_eq_getD_getElem?, Array.getElem?_setIfInBounds_ne hk]
      rw [this]; exact (hF.slot k).mono hG

theorem put_getD_ne {a : Act} {d : Option Nat} {u : Value} {t : Nat} (h : d ≠ some t) : (a.put d u).tmps.getD t Go.undef = a.tmps.getD t Go.undef := by
  cases d with
  | none => rfl
  | some s =>
    have : s ≠ t := by rintro rfl; exact h rfl
    simp only [Act.put, Array.getD_eq_getD_getElem?, Array.getElem?_setIfInBounds_ne this]

theorem getD_set_self {listed : Array Bool} {i : Nat} (h : i < listed.size) : (listed.setIfInBounds i true).getD i false = true := by
  simp [h]

theorem getD_set (listed : Array Bool) (i j : Nat) (h : i < listed.size) : (listed.setIfInBounds i true).getD j false = (listed.getD j false || j.beq i) := by
  by_cases hji : j = i
  · subst hji; rw [getD_set_self h]; simp
  · rw [getD_set_ne false (Ne.symm hji)]
    have : j.beq i = false := by cases hb : j.beq i with | false => rfl | true => exact absurd (Nat.eq_of_beq_eq_true hb) hji
    rw [this, Bool.or_false]

theorem beq_ne {i j : Nat} (h : j ≠ i) : j.beq i = false := by
  cases hb : j.beq i with | false => rfl | true => exact absurd (Nat.eq_of_beq_eq_true hb) h

/-- One step, at any stage at which it may come. -/
theorem stage {calls : Calls'} {ops : Array Oper} {d : DR} {fr0 fr1 : Env} {sts : List St} {i : Nat} {ao : AOp} {A : Nat → Bool} {σk : St} (hlt : i < ops.size) (hao : d.ops[i]? = some ao)
    (hgood : Good calls ops d fr0 fr1 sts i ao) (hsl : ∀ t ∈ ao.slots, ∀ j, writer 0 d.ops t = some j → d.up i j = true ∨ j = i ∨ d.up j i = true) (hN : ops.size = d.ops.length)
    (hchks : dChk calls d fr0 fr1 sts d.chks = true)
    (A0 : A i = false) (A1 : ∀ j, d.up i j = true → A j = true) (A2 : ∀ j, j < ops.size → A j = true → d.up j i = false)
    (A3 : loudAt d i = true → d.isLate i = false → ∀ j, j < ops.size → loudAt d j = true → A j = true → d.up i j = true)
    (A4 : d.isLate i = true → ∀ j, j < ops.size → (loudAt d j && A j) = preOf d i j)
    (r1 : sts[cnt (fun j => loudAt d j && A j) ops.size]? = some σk) :
    ∃ v σn, aStep calls (mixed d fr0 fr1 A) σk ao = some (v, σn) ∧ (∀ t, ao.dst = some t → v = fr1 t) ∧ sts[cnt (fun j => loudAt d j && (A j || j.beq i)) ops.size]? = some σn := by
  have hld : loudAt d i = ao.op.loud := by simp [loudAt, hao]
  obtain ⟨k0, σ0, σ1, v, q1, q2, q3, q4, q5⟩ := hgood
  have hcong : ∀ σ, aStep calls (mixed d fr0 fr1 A) σ ao = aStep calls (opd d fr0 fr1 i) σ ao := by
    intro σ
    refine aStep_congr fun t ht => ?_
    unfold mixed opd
    split
    · rename_i j hj
      simp only [hj]
      rcases hsl t ht j hj with h | rfl | h
      · rw [A1 j h]; unfold DR.up at h; rw [h]
      · rw [A0]
        cases hb : (d.anc.getD j 0).testBit j with
        | false => rfl
        | true => have := A1 j hb; rw [A0] at this; cases this
      · have hjl : j < ops.size := by
          obtain ⟨o, _, ho, _⟩ := writer_inv hj
          have := (List.getElem?_eq_some_iff.1 ho).1
          omega
        have h1 : A j = false := by
          cases hb : A j with
          | false => rfl
          | true => rw [A2 j hjl hb] at h; cases h
        rw [h1]
        cases hb' : (d.anc.getD i 0).testBit j with
        | false => rfl
        | true => rw [A1 j hb'] at h1; cases h1
    · rename_i hj; simp only [hj]
  have hlow : lowC d ops.size i ≤ cnt (fun j => loudAt d j && A j) ops.size := cnt_mono fun j hj h => by
    simp only [Bool.and_eq_true] at h ⊢
    exact ⟨h.2, A1 j h.1⟩
  have hhi : cnt (fun j => loudAt d j && A j) ops.size ≤ hiC d ops.size i := cnt_mono fun j hj h => by
    simp only [Bool.and_eq_true, Bool.not_eq_true'] at h ⊢
    have hji : j ≠ i := by rintro rfl; rw [A0] at h; cases h.2
    exact ⟨beq_ne hji, A2 j hj h.2, h.1⟩
  simp only [hcong]
  cases hl : ao.op.loud with
  | true =>
    obtain ⟨g0, g1, g3⟩ := q4 hl
    have hk : cnt (fun j => loudAt d j && A j) ops.size = k0 := by
      cases hla : d.isLate i with
      | true => rw [g0 hla]; exact cnt_congr (A4 hla)
      | false =>
        obtain ⟨g1, g2⟩ := g1 hla
        have hle : cnt (fun j => loudAt d j && A j) ops.size ≤ lowC d ops.size i := cnt_mono fun j hj h => by
          simp only [Bool.and_eq_true] at h ⊢
          exact ⟨A3 (by rw [hld, hl]) hla j hj h.1 h.2, h.1⟩
        omega
    rw [hk, q1] at r1
    cases r1
    refine ⟨v, σ1, q2, q3, ?_⟩
    rw [cnt_flip (p := fun j => loudAt d j && A j) (i := i) hlt (by simp [A0]) (by rw [hld, hl]; simp) (fun j hj => by simp only [beq_ne hj, Bool.or_false]), hk]
    exact g3
  | false =>
    have hsame : cnt (fun j => loudAt d j && (A j || j.beq i)) ops.size = cnt (fun j => loudAt d j && A j) ops.size := cnt_congr fun j hj => by
      by_cases hji : j = i
      · subst hji; rw [hld, hl]; rfl
      · simp only [beq_ne hji, Bool.or_false]
    rw [hsame]
    rcases q5 hl with g | g
    · exact ⟨v, σk, step_pure g q2, q3, r1⟩
    · rcases cover_at g _ hlow (by omega) with g | g
      · have r1' := r1
        rw [g, q1] at r1'
        cases r1'
        have := step_quiet hl q2
        subst this
        exact ⟨v, _, q2, q3, r1⟩
      · obtain ⟨o', σ2, v', σ3, g1, g2, g3, g4⟩ := dChk_at hchks i _ (seen_mem g)
        rw [hao] at g1; cases g1
        rw [r1] at g2; cases g2
        rw [step_quiet hl g3] at g3
        exact ⟨v', σk, g3, g4, r1⟩

def baseOf (w0 : Base) : Option (Nat × Obj) → Base
  | some (b, ob) => w0.hide b ob
  | .none => w0

/-- How what has been carried out here stands to what is listed. -/
inductive Pend (d : DR) (N : Nat) (w0 : Base) (S : Nat → Bool) (a : Act) : (Nat → Bool) → Option (Nat × Obj) → Option Nat → Prop
  | done (h : ∀ m, d.late = some m → S m = true → ∀ j, j < N → preOf d m j = true → S j = true) : Pend d N w0 S a S none none
  | wait (m t : Nat) (z : List AV) (b : Nat) (c : Array Value) (el : TypeId) (h1 : d.late = some m) (h2 : d.ops[m]? = some ⟨some t, none, .alloc z⟩) (h3 : S m = true)
    (h4 : ∃ j, j < N ∧ preOf d m j = true ∧ S j = false) (h5 : w0.heap.size ≤ b) (h6 : ∀ ob, (b, ob) ∉ w0.hid) (h7 : a.tmps.getD t Go.undef = .pointer (some ⟨b, 0, none⟩))
    (h8 : ∀ G, RelL G true z c.toList) : Pend d N w0 S a (fun j => S j && !(j.beq m)) (some (b, .cells c el (0, 0))) (some t)

structure DInv (P : Program) (w0 : Base) (D : List Deferred) (G0 : Gh) (ops : Array Oper) (n : Nat) (d : DR) (fr0 fr1 : Env) (sts : List St) (fuel : Nat) (listed : Array Bool) (a : Act) (w : World) : Prop where
  defers : a.defers = D
  size : listed.size = ops.size
  left : cnt (fun j => !listed.getD j false) ops.size = fuel
  closed : ∀ i, i < ops.size → listed.getD i false = true → ∀ j, d.up i j = true → listed.getD j false = true
  world : ∃ A bs x G σk, Pend d ops.size w0 (fun j => listed.getD j false) a A bs x ∧ sts[cnt (fun j => loudAt d j && A j) ops.size]? = some σk ∧ Gle G0 G ∧ W (baseOf w0 bs) G σk w ∧
    RelF G n (blank x (mixed d fr0 fr1 A)) a

theorem lateChk_inv {d : DR} {N m : Nat} (h : lateChk d N = true) (hm : d.late = some m) : m < N ∧ (∃ t z, d.ops[m]? = some ⟨some t, none, .alloc z⟩) ∧ ∀ i, i < N → d.up i m = true → ∀ j, j < N → preOf d m j = true → d.up i j = true := by
  unfold lateChk at h
  rw [hm] at h
  simp only [Bool.and_eq_true, Nat.blt_eq] at h
  obtain ⟨h1, h2, h3⟩ := h
  refine ⟨h1, ?_, fun i hi hu j hj hp => ?_⟩
  · split at h2
    · rename_i o ho
      unfold isAlloc at h2
      split at h2
      · exact ⟨_, _, ho⟩
      · cases h2
    · cases h2
  · have := allBelow_at h3 i hi
    rw [hu] at this
    have := allBelow_at (by simpa using this) j hj
    rw [hp] at this
    simpa using this

theorem wrote {d : DR} {ops : Array Oper} (hN : ops.size = d.ops.length) {t j : Nat} (h : writer 0 d.ops t = some j) : j < ops.size ∧ ∃ o, d.ops[j]? = some o ∧ o.dst = some t := by
  obtain ⟨o, _, ho, hd⟩ := writer_inv h
  simp only [Nat.sub_zero] at ho
  exact ⟨by have := (List.getElem?_eq_some_iff.1 ho).1; omega, o, ho, hd⟩

/-- What was pending is carried out here too. -/
theorem settle {calls : Calls'} {ops : Array Oper} {n : Nat} {d : DR} {fr0 fr1 : Env} {sts : List St} (hN : ops.size = d.ops.length) (hwr : wrChk d.ops 0 d.ops = true) (hlate : lateChk d ops.size = true)
    {m t : Nat} {z : List AV} (hgood : Good calls ops d fr0 fr1 sts m ⟨some t, none, .alloc z⟩) {S T : Nat → Bool} {i : Nat} (hT : ∀ j, T j = (S j || j.beq i)) (hi : i < ops.size) (hSi : S i = false)
    (hclosed : ∀ i, i < ops.size → S i = true → ∀ j, d.up i j = true → S j = true) (hanc : ∀ j, d.up i j = true → S j = true)
    (h1 : d.late = some m) (h2 : d.ops[m]? = some ⟨some t, none, .alloc z⟩) (h3 : S m = true) (h4 : ∃ j, j < ops.size ∧ preOf d m j = true ∧ S j = false) (h4' : ∀ j, j < ops.size → preOf d m j = true → T j = true)
    {b : Nat} {c : Array Value} {el : TypeId} (h5 : w0.heap.size ≤ b) (h6 : ∀ ob, (b, ob) ∉ w0.hid) {a : Act} (h7 : a.tmps.getD t Go.undef = .pointer (some ⟨b, 0, none⟩)) (h8 : ∀ G, RelL G true z c.toList)
    {σn : St} (hs : sts[cnt (fun j => loudAt d j && ((S j && !(j.beq m)) || j.beq i)) ops.size]? = some σn) (hW : W (w0.hide b (.cells c el (0, 0))) G σn w)
    (hF : RelF G n (blank (some t) (mixed d fr0 fr1 fun j => (S j && !(j.beq m)) || j.beq i)) a) :
    ∃ σ' G', sts[cnt (fun j => loudAt d j && T j) ops.size]? = some σ' ∧ Gle G G' ∧ W w0 G' σ' w ∧ RelF G' n (blank none (mixed d fr0 fr1 T)) a := by
  have him : i ≠ m := by rintro rfl; rw [hSi] at h3; cases h3
  obtain ⟨hm, _, hdep⟩ := lateChk_inv hlate h1
  have hlm : loudAt d m = true := by simp [loudAt, h2, AO.loud]
  obtain ⟨k0, σ0, σ1, v, q1, q2, q3, q4, q5⟩ := hgood
  obtain ⟨g0, _, g3⟩ := q4 rfl
  have hk := g0 (by simp [DR.isLate, h1])
  have hcnt : cnt (fun j => loudAt d j && ((S j && !(j.beq m)) || j.beq i)) ops.size = cnt (preOf d m) ops.size := cnt_congr fun j hj => by
    unfold preOf
    cases hl : loudAt d j with
    | false => rfl
    | true =>
      simp only [Bool.true_and]
      by_cases hjm : j = m
      · subst hjm
        simp [beq_ne (Ne.symm him)]
      · rw [beq_ne hjm]
        simp only [Bool.not_false, Bool.and_true, Bool.true_and]
        rw [← hT j]
        cases hu : d.up j m with
        | false =>
          have := h4' j hj (by simp [preOf, hl, hu, beq_ne hjm])
          rw [this]; rfl
        | true =>
          cases hTj : T j with
          | false => rfl
          | true =>
            exfalso
            obtain ⟨p, p1, p2, p3⟩ := h4
            rw [hT j, Bool.or_eq_true] at hTj
            have := hdep j hj hu p p1 p2
            rcases hTj with hTj | hTj
            · rw [hclosed j hj hTj p this] at p3; cases p3
            · rw [Nat.eq_of_beq_eq_true hTj] at this
              rw [hanc p this] at p3; cases p3
  rw [hcnt, ← hk, q1] at hs
  cases hs
  simp only [aStep, wanted, aOp, Option.some.injEq, Prod.mk.injEq] at q2
  obtain ⟨rfl, rfl⟩ := q2
  obtain ⟨hW', hG⟩ := hW.adopt h5 h6 (h8 G)
  refine ⟨_, _, ?_, hG, hW', ?_⟩
  · rw [cnt_flip (p := fun j => loudAt d j && ((S j && !(j.beq m)) || j.beq i)) (i := m) hm (by simp [beq_ne (Ne.symm him)]) (by rw [hlm, hT, h3]; rfl) (fun j hj => by rw [hT, beq_ne hj]; simp), hcnt, ← hk]
    exact g3
  · refine ⟨hF.size, fun s => ?_⟩
    by_cases hst : s = t
    · subst hst
      have hw := wrChk_at hwr m _ s h2 rfl
      simp only [Nat.zero_add] at hw
      have e : blank none (mixed d fr0 fr1 T) s = .ptr σn.next 0 := by
        simp only [blank, mixed, hw]
        rw [hT, h3]
        exact (q3 s rfl).symm
      rw [e, h7]
      exact .ptr _ _ b 0 c.size (by simp [Gh.addρ])
    · have := (hF.slot s).mono hG
      have e : blank none (mixed d fr0 fr1 T) s = blank (some t) (mixed d fr0 fr1 fun j => (S j && !(j.beq m)) || j.beq i) s := by
        simp only [blank, mixed, if_neg (Ne.symm hst)]
        split
        · rename_i j hj
          have hjm : j ≠ m := by
            rintro rfl
            obtain ⟨_, o, ho, hd⟩ := wrote hN hj
            rw [h2] at ho; cases ho
            simp at hd; exact hst hd.symm
          show (if T j = true then fr1 s else fr0 s) = (if ((S j && !(j.beq m)) || j.beq i) = true then fr1 s else fr0 s)
          rw [hT, beq_ne hjm]; simp
        · rfl
      rw [e]; exact this

theorem dreg_any {calls : Calls'} (hC : SoundC P calls) {ops : Array Oper} {n : Nat} {d : DR} {fr0 : Env} {fr1 : Fr} {sts : List St} {σ' : St} {Q : Exit → Act → World → Prop}
    (hN : ops.size = d.ops.length) (hops : opsChk P ops n ops.toList d.ops = true) (hlate : lateChk d ops.size = true) (hm : maskChk ops d ops.size = true) (hwr : wrChk d.ops 0 d.ops = true) (hord : ordChk ops d ops.size d.ord 0 0 = true)
    (hlast : sts[cnt (loudAt d) ops.size]? = some σ') (hnone : ∀ t, writer 0 d.ops t = .none → fr1.at t = fr0 t)
    (hgood : ∀ i o, d.ops[i]? = some o → Good calls ops d fr0 fr1.at sts i o ∧ ∀ t ∈ o.slots, ∀ j, writer 0 d.ops t = some j → d.up i j = true ∨ j = i ∨ d.up j i = true)
    (hchks : dChk calls d fr0 fr1.at sts d.chks = true)
    {G0 : Gh} {D : List Deferred} (hQ : ∀ a w G, a.defers = D → Gle G0 G → W w0 G σ' w → RelF G n fr1.at a → Q .normal a w) :
    ∀ (fuel : Nat) (listed : Array Bool) (a : Act) (w : World), DInv P w0 D G0 ops n d fr0 fr1.at sts fuel listed a w → wpAny P .any ops Q fuel listed a w := by
  have hall : ∀ fuel listed a w, DInv P w0 D G0 ops n d fr0 fr1.at sts fuel listed a w → (∀ j, j < ops.size → listed.getD j false = true) → Q .normal a w := by
    intro fuel listed a w hI hl
    obtain ⟨A, bs, x, G, σk, hp, h1, hG0, h2, h3⟩ := hI.world
    cases hp with
    | wait m t z b c el p1 p2 p3 p4 _ _ _ _ =>
      obtain ⟨j, q1, _, q3⟩ := p4
      rw [hl j q1] at q3; cases q3
    | done _ =>
      have e : cnt (fun j => loudAt d j && listed.getD j false) ops.size = cnt (loudAt d) ops.size := cnt_congr fun j hj => by rw [hl j hj, Bool.and_true]
      rw [e, hlast] at h1
      cases h1
      refine hQ a w G hI.defers hG0 h2 ?_
      have : (blank none (mixed d fr0 fr1.at fun j => listed.getD j false)) = fr1.at := by
        funext t
        simp only [blank]
        unfold mixed
        split
        · rename_i j hj
          have := (wrote hN hj).1
          show (if listed.getD j false = true then fr1.at t else fr0 t) = fr1.at t
          rw [hl j this]; rfl
        · rename_i hj; exact (hnone t hj).symm
      rwa [this] at h3
  intro fuel
  induction fuel with
  | zero =>
    intro listed a w hI
    have hl : ∀ j, j < ops.size → listed.getD j false = true := fun j hj => by
      have := cnt_zero hI.left j hj
      simpa using this
    refine ⟨?_, hall 0 listed a w hI hl⟩
    cases hr : Region.ready .any ops listed with
    | nil => rfl
    | cons i r =>
      exfalso
      have hi : i ∈ Region.ready .any ops listed := by rw [hr]; simp
      obtain ⟨hu, o, ho, _⟩ := mem_ready.1 hi
      have hlt := (Array.getElem?_eq_some_iff.1 ho).1
      have := hl i hlt
      have hls : i < listed.size := by rw [hI.size]; exact hlt
      simp [hls] at hu this
      rw [hu] at this; cases this
  | succ fuel ih =>
    intro listed a w hI
    refine ⟨fun hr => hall _ listed a w hI (all_listed hI.size hr hN hord (fun j _ hj => by simp at hj)), fun i hi => ?_⟩
    obtain ⟨hu, o, ho, hdep⟩ := mem_ready.1 hi
    have hlt := (Array.getElem?_eq_some_iff.1 ho).1
    have hls : i < listed.size := by rw [hI.size]; exact hlt
    have hu' : listed.getD i false = false := by simp [hls] at hu ⊢; exact hu
    have hset := fun j => getD_set listed i j hls
    -- the ancestors have been carried out
    have hanc : ∀ j, d.up i j = true → listed.getD j false = true := by
      intro j hj
      obtain ⟨e, he, h⟩ := up_lt hj hm hlt
      unfold edges at he
      rw [ho] at he
      simp only [List.mem_map, List.mem_filter] at he
      obtain ⟨ed, ⟨h1, h2⟩, rfl⟩ := he
      have h3 := hdep ed (by simpa using h1) h2
      rcases h with rfl | h
      · exact h3
      · refine hI.closed ed.on ?_ h3 j h
        by_cases hh : ed.on < ops.size
        · exact hh
        · simp [hI.size, hh] at h3
    obtain ⟨ao, hao, hone⟩ := opsChk_at hops i o (by simpa using ho)
    obtain ⟨hopc, hguard, hdst, hdn⟩ := oneChk_inv hone
    obtain ⟨hgd, hsl⟩ := hgood i ao hao
    have hsize : (listed.setIfInBounds i true).size = ops.size := by simp [hI.size]
    have hleft : cnt (fun j => !(listed.setIfInBounds i true).getD j false) ops.size = fuel := by
      have := cnt_flip (p := fun j => !(listed.setIfInBounds i true).getD j false) (q := fun j => !listed.getD j false) (i := i) hlt (by rw [getD_set_self hls]; rfl) (by rw [hu']; rfl) (fun j hj => by rw [getD_set_ne false (Ne.symm hj)])
      rw [hI.left] at this
      omega
    have hclosed : ∀ j, j < ops.size → (listed.setIfInBounds i true).getD j false = true → ∀ k, d.up j k = true → (listed.setIfInBounds i true).getD k false = true := by
      intro j hj hb k hk
      by_cases hji : j = i
      · subst hji; exact getD_set_true (hanc k hk)
      · rw [getD_set_ne false (Ne.symm hji)] at hb
        exact getD_set_true (hI.closed j hj hb k hk)
    obtain ⟨A, bs, x, G, σk, hp, r1, hG0, r2, r3⟩ := hI.world
    by_cases hd : d.isLate i = true ∧ ∃ j, j < ops.size ∧ preOf d i j = true ∧ listed.getD j false = false
    · -- the late one comes early: its block is set aside
      obtain ⟨hli, hblk⟩ := hd
      have hlm : d.late = some i := by
        unfold DR.isLate at hli
        split at hli
        · rename_i m hm'; rw [hm', Nat.eq_of_beq_eq_true hli]
        · cases hli
      obtain ⟨_, ⟨t, z, hal⟩, _⟩ := lateChk_inv hlate hlm
      rw [hao] at hal; cases hal
      cases hp with
      | wait m t' z' b c el p1 p2 p3 _ _ _ _ _ =>
        rw [hlm] at p1; cases p1
        have p3' : listed.getD i false = true := p3
        rw [hu'] at p3'; cases p3'
      | done _ =>
        have hgn : o.guard = none := by
          unfold guardChk at hguard
          cases hg : o.guard with
          | none => rfl
          | some q => rw [hg] at hguard; cases q; simp at hguard
        have hop : opChk P o.op (.alloc z) = true := by
          rcases hopc with h | h
          · exact h
          · cases hoo : o.op <;> rw [hoo] at h <;> simp [callChk] at h
        obtain ⟨ty, hty, hz⟩ : ∃ ty, o.op = .alloc ty ∧ zeroChk P ty z = true := by
          cases hoo : o.op <;> rw [hoo] at hop <;> simp [opChk] at hop
          exact ⟨_, rfl, hop⟩
        obtain ⟨inf, zv, hinf, hzv, hzc⟩ := zeroChk_inv hz
        simp only [wpOp, ho, Region.wanted, hgn, if_true]
        refine .inl ?_
        unfold Oper.wp
        have hrun : (execOp a.eval o).run P w = .ok (.value (.pointer (some ⟨w.heap.size, 0, none⟩))) (w.alloc (.cells zv.cells ty)) := by
          obtain ⟨dst, op, type, pos, after, guard⟩ := o
          simp only at hty
          subst hty
          simp [execOp, Instr.alloc, zeroValue, typeInfo, hinf, hzv, newVar, newRow]
        rw [hrun, Oper.upon_value, hdst]
        have htn := hdn t rfl
        refine ih _ _ _ ⟨by rw [put_def]; exact hI.defers, hsize, hleft, hclosed, _, _, _, G, σk, .wait i t z w.heap.size zv.cells ty hlm hao (getD_set_self hls) ?_ r2.below.size (fun ob h => ?_) ?_ (fun G => cChkL_rel hzc), ?_, hG0, r2.hide _, ?_⟩
        · obtain ⟨j, p1, p2, p3⟩ := hblk
          refine ⟨j, p1, p2, ?_⟩
          have hji : j ≠ i := by
            rintro rfl
            simp [preOf] at p2
          show (listed.setIfInBounds i true).getD j false = false
          rw [getD_set_ne false (Ne.symm hji)]; exact p3
        · have := r2.hid_lt h; omega
        · simp [Act.put, Array.getD, r3.size, htn]
        · have : cnt (fun j => loudAt d j && ((listed.setIfInBounds i true).getD j false && !(j.beq i))) ops.size = cnt (fun j => loudAt d j && listed.getD j false) ops.size := cnt_congr fun j hj => by
            by_cases hji : j = i
            · subst hji; rw [hu']; simp
            · rw [getD_set_ne false (Ne.symm hji), beq_ne hji]; simp
          rw [this]; exact r1
        · refine r3.putE (v := .undef) (Gle.refl G) (.undef _) hdn (fun s hs => ?_) (fun s hs => ?_)
          · cases hs; simp [blank]
          · have hst : ¬ t = s := fun h => hs (by rw [h])
            simp only [blank, if_neg hst]
            unfold mixed
            split
            · rename_i j hj
              have hji : j ≠ i := by
                rintro rfl
                obtain ⟨_, o', ho', hd'⟩ := wrote hN hj
                rw [hao] at ho'; cases ho'
                exact hs hd'
              show (if ((listed.setIfInBounds i true).getD j false && !(j.beq i)) = true then fr1.at s else fr0 s) = (if listed.getD j false = true then fr1.at s else fr0 s)
              rw [getD_set_ne false (Ne.symm hji), beq_ne hji]; simp
            · rfl
    · -- a step that is carried out here too
      have hd' : ∀ m, d.late = some m → m = i → ∀ j, j < ops.size → preOf d m j = true → listed.getD j false = true := by
        rintro m hm' rfl j hj hpj
        cases hb : listed.getD j false with
        | true => rfl
        | false => exact absurd ⟨by simp [DR.isLate, hm'], j, hj, hpj, hb⟩ hd
      have hup : ∀ m, d.late = some m → listed.getD m false = true → (∃ j, j < ops.size ∧ preOf d m j = true ∧ listed.getD j false = false) → d.up i m = false := by
        rintro m hm' _ ⟨j, p1, p2, p3⟩
        cases hb : d.up i m with
        | false => rfl
        | true =>
          have := (lateChk_inv hlate hm').2.2 i hlt hb j p1 p2
          rw [hanc j this] at p3; cases p3
      have hAS : ∀ j, A j = true → listed.getD j false = true := by
        intro j hj
        cases hp with
        | done _ => exact hj
        | wait m t z b c el => simp only [Bool.and_eq_true] at hj; exact hj.1
      have A0 : A i = false := by
        cases hb : A i with
        | false => rfl
        | true => have := hAS i hb; rw [hu'] at this; cases this
      have A1 : ∀ j, d.up i j = true → A j = true := by
        intro j hj
        have h1 := hanc j hj
        cases hp with
        | done _ => exact h1
        | wait m t z b c el p1 p2 p3 p4 =>
          simp only [Bool.and_eq_true, Bool.not_eq_true']
          refine ⟨h1, beq_ne ?_⟩
          rintro rfl
          rw [hup j p1 p3 p4] at hj; cases hj
      have A2 : ∀ j, j < ops.size → A j = true → d.up j i = false := by
        intro j hj hb
        cases h : d.up j i with
        | false => rfl
        | true => rw [hI.closed j hj (hAS j hb) i h] at hu'; cases hu'
      have A3 : loudAt d i = true → d.isLate i = false → ∀ j, j < ops.size → loudAt d j = true → A j = true → d.up i j = true := by
        intro hl hla j hj hlj hAj
        obtain ⟨_, _, _, _, _, _, _, q4, _⟩ := hgd
        have hl' : ao.op.loud = true := by simpa [loudAt, hao] using hl
        have hch := ((q4 hl').2.1 hla).2
        rcases chain_at hch j hj hlj with (rfl | h) | h | h
        · rw [A0] at hAj; cases hAj
        · -- the late one has been carried out: so what it waits for
          have hlm : d.late = some j := by
            unfold DR.isLate at h
            split at h
            · rename_i m hm'; rw [hm', Nat.eq_of_beq_eq_true h]
            · cases h
          cases hp with
          | wait m t z b c el p1 p2 p3 p4 =>
            rw [hlm] at p1; cases p1
            simp at hAj
          | done hdn' =>
            cases hb : d.up i j with
            | true => rfl
            | false =>
              have hAj' : listed.getD j false = true := hAj
              have hij : i ≠ j := by rintro rfl; rw [hu'] at hAj'; cases hAj'
              have this : listed.getD i false = true := hdn' j hlm hAj i hlt (by simp [preOf, hl, hb, beq_ne hij])
              rw [hu'] at this; cases this
        · exact h
        · rw [A2 j hj hAj] at h; cases h
      have A4 : d.isLate i = true → ∀ j, j < ops.size → (loudAt d j && A j) = preOf d i j := by
        intro hli j hj
        have hlm : d.late = some i := by
          unfold DR.isLate at hli
          split at hli
          · rename_i m hm'; rw [hm', Nat.eq_of_beq_eq_true hli]
          · cases hli
        cases hp with
        | wait m t z b c el p1 p2 p3 _ =>
          rw [hlm] at p1; cases p1
          have p3' : listed.getD i false = true := p3
          rw [hu'] at p3'; cases p3'
        | done _ =>
          cases hl : loudAt d j with
          | false => simp [preOf, hl]
          | true =>
            simp only [preOf, hl, Bool.true_and]
            by_cases hji : j = i
            · subst hji; rw [hu']; simp
            · rw [beq_ne hji]
              simp only [Bool.not_false, Bool.true_and]
              cases hu2 : d.up j i with
              | false =>
                rw [hd' i hlm rfl j hj (by simp [preOf, hl, hu2, beq_ne hji])]; rfl
              | true =>
                cases hb : listed.getD j false with
                | false => rfl
                | true => rw [hI.closed j hj hb i hu2] at hu'; cases hu'
      obtain ⟨v, σn, s1, q3, s2⟩ := stage hlt hao hgd hsl hN hchks A0 A1 A2 A3 A4 r1
      have hx : ∀ t, x = some t → t ∉ ao.slots ∧ ao.dst ≠ some t := by
        intro t ht
        cases hp with
        | done _ => cases ht
        | wait m t' z b c el p1 p2 p3 p4 =>
          cases ht
          have hw := wrChk_at hwr m _ t p2 rfl
          simp only [Nat.zero_add] at hw
          have him : i ≠ m := by
            rintro rfl
            have p3' : listed.getD i false = true := p3
            rw [hu'] at p3'; cases p3'
          refine ⟨fun hmem => ?_, fun hdd => ?_⟩
          · rcases hsl t hmem m hw with h | h | h
            · rw [hup m p1 p3 p4] at h; cases h
            · exact him h.symm
            · rw [hI.closed m (lateChk_inv hlate p1).1 p3 i h] at hu'; cases hu'
          · have hw' := wrChk_at hwr i _ t hao hdd
            simp only [Nat.zero_add, hw, Option.some.injEq] at hw'
            exact him hw'.symm
      have hst : aStep calls (blank x (mixed d fr0 fr1.at A)) σk ao = some (v, σn) := by
        rw [← s1]
        refine aStep_congr fun t ht => ?_
        unfold blank
        split
        · rename_i s
          have := (hx s rfl).1
          rw [if_neg (by rintro rfl; exact this ht)]
        · rfl
      refine aStep_wp hC ho hone r2 r3 hst fun u w' G' hG hW' hv => ?_
      rw [hdst]
      have hF' : RelF G' n (blank x (mixed d fr0 fr1.at fun j => A j || j.beq i)) (a.put ao.dst u) := by
        refine r3.putE hG hv hdn (fun t ht => ?_) (fun t ht => ?_)
        · have hw := wrChk_at hwr i ao t hao ht
          simp only [Nat.zero_add] at hw
          have e : mixed d fr0 fr1.at (fun j => A j || j.beq i) t = v := by
            unfold mixed
            rw [hw]
            simp only [Nat.beq_refl, Bool.or_true, if_true]
            exact (q3 t ht).symm
          unfold blank
          split
          · rename_i s
            rw [if_neg (by rintro rfl; exact (hx _ rfl).2 ht)]
            exact e
          · exact e
        · have e : mixed d fr0 fr1.at (fun j => A j || j.beq i) t = mixed d fr0 fr1.at A t := by
            unfold mixed
            split
            · rename_i j hj
              have hji : j ≠ i := by
                rintro rfl
                obtain ⟨_, o', ho', hd''⟩ := wrote hN hj
                rw [hao] at ho'; cases ho'
                exact ht hd''
              simp only [beq_ne hji, Bool.or_false]
            · rfl
          unfold blank
          rw [e]
      generalize hSd : (fun j => listed.getD j false) = S at hp
      have hS : ∀ j, listed.getD j false = S j := fun j => congrFun hSd j
      have hTd : (fun j => (listed.setIfInBounds i true).getD j false) = fun j => S j || j.beq i := by
        funext j; rw [hset j, hS]
      cases hp with
      | done hdn' =>
        refine ih _ _ _ ⟨by rw [put_def]; exact hI.defers, hsize, hleft, hclosed, _, none, none, G', σn, .done ?_, ?_, hG0.trans hG, hW', ?_⟩
        · intro m hm' hSm j hj hpj
          simp only [hset, Bool.or_eq_true] at hSm ⊢
          rcases hSm with hSm | hSm
          · rw [hS] at hSm ⊢
            exact .inl (hdn' m hm' hSm j hj hpj)
          · exact .inl (hd' m hm' (Nat.eq_of_beq_eq_true hSm) j hj hpj)
        · have e : (fun j => loudAt d j && (listed.setIfInBounds i true).getD j false) = fun j => loudAt d j && (A j || j.beq i) := by funext j; rw [hset, hS]
          rw [e]; exact s2
        · rw [hTd]; exact hF'
      | wait m t z b c el p1 p2 p3 p4 p5 p6 p7 p8 =>
        have him : i ≠ m := by rintro rfl; rw [← hS, hu'] at p3; cases p3
        have p7' : (a.put ao.dst u).tmps.getD t Go.undef = .pointer (some ⟨b, 0, none⟩) := by rw [put_getD_ne (hx t rfl).2]; exact p7
        have hcl : ∀ i, i < ops.size → S i = true → ∀ j, d.up i j = true → S j = true := by
          intro i' hi' hb j hj
          rw [← hS] at hb ⊢; exact hI.closed i' hi' hb j hj
        by_cases hbl : ∃ j, j < ops.size ∧ preOf d m j = true ∧ (S j || j.beq i) = false
        · refine ih _ _ _ ⟨by rw [put_def]; exact hI.defers, hsize, hleft, hclosed, _, _, _, G', σn, .wait m t z b c el p1 p2 ?_ ?_ p5 p6 p7' p8, ?_, hG0.trans hG, hW', ?_⟩
          · simp only [hset, hS, p3, Bool.true_or]
          · simpa only [hset, hS] using hbl
          · have e : (fun j => loudAt d j && ((listed.setIfInBounds i true).getD j false && !(j.beq m))) = fun j => loudAt d j && ((S j && !(j.beq m)) || j.beq i) := by
              funext j
              rw [hset, hS]
              by_cases hji : j = i
              · subst hji; simp [beq_ne him]
              · rw [beq_ne hji]; simp
            rw [e]; exact s2
          · have e : (fun j => (listed.setIfInBounds i true).getD j false && !(j.beq m)) = fun j => (S j && !(j.beq m)) || j.beq i := by
              funext j
              rw [hset, hS]
              by_cases hji : j = i
              · subst hji; simp [beq_ne him]
              · rw [beq_ne hji]; simp
            rw [e]; exact hF'
        · have hbl' : ∀ j, j < ops.size → preOf d m j = true → (fun j => S j || j.beq i) j = true := by
            intro j hj hpj
            cases hb : (S j || j.beq i) with
            | true => exact hb
            | false => exact absurd ⟨j, hj, hpj, hb⟩ hbl
          obtain ⟨σ2, G2, t1, t2, t3, t4⟩ := settle (T := fun j => S j || j.beq i) hN hwr hlate (hgood m _ p2).1 (fun _ => rfl) hlt (by rw [← hS]; exact hu') hcl (fun j hj => by rw [← hS]; exact hanc j hj) p1 p2 p3 p4 hbl' p5 p6 p7' p8 s2 hW' hF'
          refine ih _ _ _ ⟨by rw [put_def]; exact hI.defers, hsize, hleft, hclosed, _, none, none, G2, σ2, .done ?_, ?_, (hG0.trans hG).trans t2, t3, ?_⟩
          · intro m' hm' _ j hj hpj
            rw [p1] at hm'; cases hm'
            simp only [hset, hS]
            exact hbl' j hj hpj
          · have e : (fun j => loudAt d j && (listed.setIfInBounds i true).getD j false) = fun j => loudAt d j && (S j || j.beq i) := by funext j; rw [hset, hS]
            rw [e]; exact t1
          · rw [hTd]; exact t4

theorem repl_false (n j : Nat) : (Array.replicate n false).getD j false = false := by
  by_cases h : j < n <;> simp [Array.getD, h]

theorem dreg_wp {calls : Calls'} (hC : SoundC P calls) {id : Nat} {ops : Array Oper} {n : Nat} {d : DR} {fr fr' : Fr} {σ' : St} {a : Act} {Q : Exit → Act → World → Prop} (hP : P.follows .mixedOrders = true)
    (hc : dregChk P ops n d = true) (h : dExec calls d fr σ = some (fr', σ')) (hW : W w0 G σ w) (hF : RelF G n fr.at a)
    (hQ : ∀ a' w' G', a'.defers = a.defers → Gle G G' → W w0 G' σ' w' → RelF G' n fr'.at a' → Q .normal a' w') : (Code.region id ops true).wp P Q a w := by
  simp only [dregChk, Bool.and_eq_true] at hc
  obtain ⟨⟨h1, hlate⟩, h2, h3, h4⟩ := hc
  have hN : ops.size = d.ops.length := by simpa using opsChk_len h1
  unfold dExec at h
  split at h
  · rename_i fr1 σ1 rest hr
    split at h
    · rename_i hk
      cases h
      obtain ⟨⟨ext, g1⟩, g2, g3, g4, g5⟩ := dRun_good (fr0 := fr.at) hN h3 h4 hr rfl (fun _ _ => rfl)
      have hz : (fun j => (Array.replicate ops.size false).getD j false) = fun _ => false := by funext j; exact repl_false _ _
      refine wp_region_any hP (dreg_any hC (fr0 := fr.at) (sts := (σ' :: rest).reverse) hN h1 hlate h2 h3 h4 ?_ g4 (fun i o ho => g5 i o (by simp) ho) hk (G0 := G) (D := a.defers) (fun a w G hd hG hW hF => hQ a w G hd hG hW hF) _ _ _ _
        ⟨rfl, by simp, ?_, ?_, _, none, none, G, σ, .done ?_, ?_, Gle.refl G, hW.drew, ?_⟩)
      · simp only [List.length_cons] at g2
        have : cnt (loudAt d) ops.size = rest.length := by omega
        rw [this]
        simp
      · have : ∀ m, m ≤ ops.size → cnt (fun j => !(Array.replicate ops.size false).getD j false) m = m := by
          intro m
          induction m with
          | zero => intro _; rfl
          | succ m ih =>
            intro hm
            simp only [cnt]
            rw [ih (by omega), repl_false]; rfl
        exact this _ (Nat.le_refl _)
      · intro i hi hb
        rw [repl_false] at hb; cases hb
      · intro m _ hb
        simp only [repl_false] at hb
        cases hb
      · have : cnt (fun j => loudAt d j && (Array.replicate ops.size false).getD j false) ops.size = 0 := by
          have h0 : ∀ m, cnt (fun _ => false) m = 0 := by
            intro m
            induction m with
            | zero => rfl
            | succ m ih => simp [cnt, ih]
          rw [cnt_congr (q := fun _ => false) fun j hj => by rw [repl_false, Bool.and_false], h0]
        rw [this, g1]
        simp
      · rw [hz]
        have : (blank none (mixed d fr.at fr'.at fun _ => false)) = fr.at := by
          funext t
          simp only [blank]
          unfold mixed
          split <;> simp
        rw [this]; exact hF
    · cases h
  · cases h
end Go.AM

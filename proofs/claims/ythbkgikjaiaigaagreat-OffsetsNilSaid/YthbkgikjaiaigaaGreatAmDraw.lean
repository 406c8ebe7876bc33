import Derived.Test.YthbkgikjaiaigaaGreatAmExec
namespace Go.AM
set_option linter.all false
open Go.RowKit
variable {P : Program} {w0 : Base} {w : World} {G : Gh} {σ : St}

/- what an operation looks at -/
def AX.slots : AX → List Nat | .t n => [n] | .c _ => []
def optSlots : Option AX → List Nat | .none => [] | some x => x.slots
def xsSlots (xs : List AX) : List Nat := xs.flatMap AX.slots
def psSlots (ps : List (Nat × Nat × AX)) : List Nat := ps.flatMap fun p => p.2.2.slots

def AO.slots : AO → List Nat
  | .mv x => x.slots
  | .pick c a b => c.slots ++ (a.slots ++ b.slots)
  | .alloc _ => []
  | .box x => x.slots
  | .build _ ps => psSlots ps
  | .bsl _ _ _ _ ps => psSlots ps
  | .load1 x => x.slots
  | .loadn _ x => x.slots
  | .store _ a v => a.slots ++ v.slots
  | .nilck x => x.slots
  | .bin _ _ x y => x.slots ++ y.slots
  | .un _ x => x.slots
  | .conv _ x => x.slots
  | .faddr _ x => x.slots
  | .iaddr _ x i => x.slots ++ i.slots
  | .iarr _ _ x i => x.slots ++ i.slots
  | .sidx x i => x.slots ++ i.slots
  | .field _ _ x => x.slots
  | .slc _ x lo hi m3 => x.slots ++ (optSlots lo ++ (optSlots hi ++ optSlots m3))
  | .sslc x lo hi => x.slots ++ (optSlots lo ++ optSlots hi)
  | .look _ _ _ m key => m.slots ++ key.slots
  | .mapup _ m key v => m.slots ++ (key.slots ++ v.slots)
  | .mapdel _ m key => m.slots ++ key.slots
  | .len _ x => x.slots
  | .app _ _ _ s x => s.slots ++ x.slots
  | .mx xs => xsSlots xs
  | .mn xs => xsSlots xs
  | .ext x _ => x.slots
  | .mkfn _ first cap => xsSlots first ++ xsSlots cap
  | .mkmap => []
  | .range x => x.slots
  | .next x => x.slots
  | .entry x => x.slots
  | .mksl _ _ _ n c => n.slots ++ c.slots
  | .call _ args => xsSlots args
  | .callv g args => g.slots ++ xsSlots args
  | .bad => []

def AOp.slots (o : AOp) : List Nat := match o.guard with | some (t, _) => t :: o.op.slots | .none => o.op.slots

section congr
variable {fr fr' : Env}
theorem ev_congr {x : AX} (h : ∀ t ∈ x.slots, fr t = fr' t) : x.ev fr = x.ev fr' := by
  cases x with
  | t n => exact h n (by simp [AX.slots])
  | c v => rfl

theorem evs_congr : ∀ {xs : List AX}, (∀ t ∈ xsSlots xs, fr t = fr' t) → evs fr xs = evs fr' xs
  | [], _ => rfl
  | x :: xs, h => by
    have h1 : x.ev fr = x.ev fr' := ev_congr fun t ht => h t (by simp [xsSlots]; exact .inl ht)
    have h2 : evs fr xs = evs fr' xs := evs_congr fun t ht => h t (by simp [xsSlots] at ht ⊢; exact .inr ht)
    simp only [evs, List.map_cons] at h2 ⊢
    rw [h1, h2]

theorem fill_congr : ∀ {ps : List (Nat × Nat × AX)} {z : List AV}, (∀ t ∈ psSlots ps, fr t = fr' t) → fillAll fr z ps = fillAll fr' z ps
  | [], _, _ => rfl
  | (off, size, x) :: ps, z, h => by
    have h1 : x.ev fr = x.ev fr' := ev_congr fun t ht => h t (by simp [psSlots]; exact .inl ht)
    have h2 : ∀ z, fillAll fr z ps = fillAll fr' z ps := fun z => fill_congr fun t ht => h t (by simp [psSlots] at ht ⊢; exact .inr ht)
    simp only [fillAll, h1, h2]

theorem optNat_congr {d : Nat} {x : Option AX} (h : ∀ t ∈ optSlots x, fr t = fr' t) : optNat fr d x = optNat fr' d x := by
  cases x with
  | none => rfl
  | some x => simp only [optNat, ev_congr (x := x) h]

theorem aSlc_congr {k : Nat} {x : AV} {lo hi mx : Option AX} (h1 : ∀ t ∈ optSlots lo, fr t = fr' t) (h2 : ∀ t ∈ optSlots hi, fr t = fr' t) (h3 : ∀ t ∈ optSlots mx, fr t = fr' t) :
    aSlc k fr x lo hi mx = aSlc k fr' x lo hi mx := by
  have e1 : ∀ d, optNat fr d lo = optNat fr' d lo := fun d => optNat_congr h1
  have e2 : ∀ d, optNat fr d hi = optNat fr' d hi := fun d => optNat_congr h2
  have e3 : ∀ d, optNat fr d mx = optNat fr' d mx := fun d => optNat_congr h3
  unfold aSlc
  simp only [e1, e2, e3]

theorem aOp_congr {calls : Calls'} {σ : St} {o : AO} (h : ∀ t ∈ o.slots, fr t = fr' t) : aOp calls fr σ o = aOp calls fr' σ o := by
  cases o <;> simp only [AO.slots, List.mem_append] at h <;> simp only [aOp, bslS]
  case mv x => rw [ev_congr h]
  case pick c a b => rw [ev_congr fun t ht => h t (.inl ht), ev_congr (x := a) fun t ht => h t (.inr (.inl ht)), ev_congr (x := b) fun t ht => h t (.inr (.inr ht))]
  case box x => rw [ev_congr h]
  case build z ps => rw [fill_congr h]
  case bsl mt k len z ps => rw [fill_congr h]
  case load1 x => rw [ev_congr h]
  case loadn n x => rw [ev_congr h]
  case store n a v => rw [ev_congr fun t ht => h t (.inl ht), ev_congr (x := v) fun t ht => h t (.inr ht)]
  case nilck x => rw [ev_congr h]
  case bin op ek x y => rw [ev_congr fun t ht => h t (.inl ht), ev_congr (x := y) fun t ht => h t (.inr ht)]
  case un op x => rw [ev_congr h]
  case conv c x => rw [ev_congr h]
  case faddr off x => rw [ev_congr h]
  case iaddr k x i => rw [ev_congr fun t ht => h t (.inl ht), ev_congr (x := i) fun t ht => h t (.inr ht)]
  case iarr k len x i => rw [ev_congr fun t ht => h t (.inl ht), ev_congr (x := i) fun t ht => h t (.inr ht)]
  case sidx x i => rw [ev_congr fun t ht => h t (.inl ht), ev_congr (x := i) fun t ht => h t (.inr ht)]
  case field off n x => rw [ev_congr h]
  case slc k x lo hi mx => rw [ev_congr fun t ht => h t (.inl ht), aSlc_congr (fun t ht => h t (.inr (.inl ht))) (fun t ht => h t (.inr (.inr (.inl ht)))) (fun t ht => h t (.inr (.inr (.inr ht))))]
  case sslc x lo hi =>
    rw [ev_congr fun t ht => h t (.inl ht)]
    have e1 : ∀ d, optNat fr d lo = optNat fr' d lo := fun d => optNat_congr fun t ht => h t (.inr (.inl ht))
    have e2 : ∀ d, optNat fr d hi = optNat fr' d hi := fun d => optNat_congr fun t ht => h t (.inr (.inr ht))
    simp only [aSslc, e1, e2]
  case look ek z ok m key => rw [ev_congr fun t ht => h t (.inl ht), ev_congr (x := key) fun t ht => h t (.inr ht)]
  case mapup ek m key v => rw [ev_congr fun t ht => h t (.inl ht), ev_congr (x := key) fun t ht => h t (.inr (.inl ht)), ev_congr (x := v) fun t ht => h t (.inr (.inr ht))]
  case mapdel ek m key => rw [ev_congr fun t ht => h t (.inl ht), ev_congr (x := key) fun t ht => h t (.inr ht)]
  case len ek x => rw [ev_congr h]
  case app mt k bytes s x => rw [ev_congr fun t ht => h t (.inl ht), ev_congr (x := x) fun t ht => h t (.inr ht)]
  case mx xs => rw [evs_congr h]
  case mn xs => rw [evs_congr h]
  case ext x i => rw [ev_congr h]
  case mkfn f first cap => rw [evs_congr fun t ht => h t (.inl ht), evs_congr (xs := cap) fun t ht => h t (.inr ht)]
  case range x => rw [ev_congr h]
  case next x => rw [ev_congr h]
  case entry x => rw [ev_congr h]
  case mksl k bytes z len cap => rw [ev_congr fun t ht => h t (.inl ht), ev_congr (x := cap) fun t ht => h t (.inr ht)]
  case call f args => rw [evs_congr h]
  case callv g args => rw [ev_congr fun t ht => h t (.inl ht), evs_congr fun t ht => h t (.inr ht)]

theorem aStep_congr {calls : Calls'} {σ : St} {o : AOp} (h : ∀ t ∈ o.slots, fr t = fr' t) : aStep calls fr σ o = aStep calls fr' σ o := by
  have h1 : ∀ t ∈ o.op.slots, fr t = fr' t := fun t ht => h t (by unfold AOp.slots; split <;> simp [ht])
  have h2 : wanted fr o.guard = wanted fr' o.guard := by
    unfold AOp.slots at h
    split at h
    · rename_i t b hg
      have := h t (by simp)
      rw [hg]; simp only [wanted, this]
    · rename_i hg; rw [hg]; rfl
  unfold aStep
  rw [h2, aOp_congr h1]
end congr

theorem wrapV_same {σ σ' : St} {x : Option AV} {v : AV} (h : wrapV σ x = some (v, σ')) : σ' = σ := by
  cases x <;> simp [wrapV] at h; exact h.2.symm

/-- A quiet operation leaves the store. -/
theorem quiet_same {calls : Calls'} {fr : Env} {σ σ' : St} {o : AO} {v : AV} (hq : o.loud = false) (h : aOp calls fr σ o = some (v, σ')) : σ' = σ := by
  cases o <;> simp only [AO.loud, Bool.true_eq_false] at hq <;> simp only [aOp] at h <;> try (first | exact wrapV_same h | (cases h; rfl) | (cases h; done))
  case build z ps => split at h <;> cases h; rfl
  case bsl mt k len z ps =>
    subst hq
    simp only [bslS] at h
    split at h
    · simp at h; exact h.2.symm
    · cases h

theorem step_quiet {calls : Calls'} {fr : Env} {σ σ' : St} {o : AOp} {v : AV} (hq : o.op.loud = false) (h : aStep calls fr σ o = some (v, σ')) : σ' = σ := by
  unfold aStep at h
  split at h
  · exact quiet_same hq h
  · cases h; rfl
  · cases h

/-- Does the answer hang on the store? -/
def AO.pure : AO → Bool
  | .mv _ | .pick .. | .build .. | .nilck _ | .bin .. | .un .. | .faddr .. | .iaddr .. | .iarr .. | .sidx .. | .field .. | .slc .. | .sslc .. | .mx _ | .mn _ | .ext .. | .mkfn .. => true
  | .bsl mt .. => !mt
  | .len .str _ => true
  | .len .slice _ => true
  | .conv (.int _) _ => true
  | .conv .same _ => true
  | .conv .toBytes _ => true
  | .bad => true
  | _ => false

theorem pure_any {calls : Calls'} {fr : Env} {σ σ1 : St} {o : AO} (hp : o.pure = true) {v : AV} {σ' : St} (h : aOp calls fr σ o = some (v, σ')) : aOp calls fr σ1 o = some (v, σ1) := by
  have key : ∀ {x : Option AV}, wrapV σ x = some (v, σ') → wrapV σ1 x = some (v, σ1) := by
    intro x hx
    cases x <;> simp [wrapV] at hx ⊢; exact hx.1
  unfold AO.pure at hp
  split at hp <;> simp only [aOp] at h ⊢ <;> try (first | exact key h | (simp at h ⊢; exact h.1) | cases hp)
  · split at h <;> simp at h ⊢; exact h.1
  · rename_i mt k len z ps
    simp only [Bool.not_eq_true'] at hp
    subst hp
    simp only [bslS] at h ⊢
    split at h <;> simp at h ⊢; exact h.1
  · refine key (x := _) ?_
    rename_i x
    have : lenV .str σ (x.ev fr) = lenV .str σ1 (x.ev fr) := by
      unfold lenV aLen; cases x.ev fr <;> rfl
    rw [← this]; exact h
  · refine key (x := _) ?_
    rename_i x
    have : lenV .slice σ (x.ev fr) = lenV .slice σ1 (x.ev fr) := by
      unfold lenV aLen; cases x.ev fr <;> rfl
    rw [← this]; exact h
  · refine key (x := _) ?_
    rename_i k x
    have : aConv (.int k) σ (x.ev fr) = aConv (.int k) σ1 (x.ev fr) := by
      unfold aConv; cases x.ev fr <;> rfl
    rw [← this]; exact h
  · refine key (x := _) ?_
    rename_i x
    have : aConv .same σ (x.ev fr) = aConv .same σ1 (x.ev fr) := by
      unfold aConv; cases x.ev fr <;> rfl
    rw [← this]; exact h
  · refine key (x := _) ?_
    rename_i x
    have : aConv .toBytes σ (x.ev fr) = aConv .toBytes σ1 (x.ev fr) := by
      unfold aConv; cases x.ev fr <;> rfl
    rw [← this]; exact h
  · cases h

theorem step_pure {calls : Calls'} {fr : Env} {σ σ1 : St} {o : AOp} (hp : o.op.pure = true) {v : AV} {σ' : St} (h : aStep calls fr σ o = some (v, σ')) : aStep calls fr σ1 o = some (v, σ1) := by
  unfold aStep at h ⊢
  split at h
  · exact pure_any hp h
  · cases h; rfl
  · cases h

theorem listEq_iff : ∀ {a b : List Nat}, listEq a b = true → a = b
  | [], [], _ => rfl
  | [], _ :: _, h => by simp [listEq] at h
  | _ :: _, [], h => by simp [listEq] at h
  | a :: x, b :: y, h => by
    simp [listEq] at h
    rw [h.1, listEq_iff h.2]

theorem ownEq_eq {a b : Own} (h : ownEq a b = true) : a = b := by
  cases a <;> cases b <;> simp [ownEq] at h <;> first | rfl | (rw [h.1, h.2])

mutual
theorem AV.beq_eq : ∀ (a b : AV), a.beq b = true → a = b
  | .undef, b, h => by cases b <;> simp [AV.beq] at h; rfl
  | .int k n, b, h => by
    cases b <;> simp [AV.beq] at h
    rw [kindEq_eq h.1, h.2]
  | .bool a, b, h => by cases b <;> simp [AV.beq] at h; rw [h]
  | .str a, b, h => by cases b <;> simp [AV.beq] at h; rw [listEq_iff h]
  | .nilp, b, h => by cases b <;> simp [AV.beq] at h; rfl
  | .ptr l o, b, h => by cases b <;> simp [AV.beq] at h; rw [h.1, h.2]
  | .eptr a, b, h => by
    cases b <;> simp [AV.beq] at h
    rw [beqL_eq a _ h]
  | .nils, b, h => by cases b <;> simp [AV.beq] at h; rfl
  | .sl k w n a, b, h => by
    cases b <;> simp [AV.beq] at h
    rw [h.1.1.1, ownEq_eq h.1.1.2, h.1.2, beqL_eq a _ h.2]
  | .ms k l o n, b, h => by cases b <;> simp [AV.beq] at h; rw [h.1.1.1, h.1.1.2, h.1.2, h.2]
  | .nilm, b, h => by cases b <;> simp [AV.beq] at h; rfl
  | .mp l, b, h => by cases b <;> simp [AV.beq] at h; rw [h]
  | .nilf, b, h => by cases b <;> simp [AV.beq] at h; rfl
  | .fn f a c, b, h => by
    cases b <;> simp [AV.beq] at h
    rw [h.1.1, beqL_eq a _ h.1.2, beqL_eq c _ h.2]
  | .agg a, b, h => by cases b <;> simp [AV.beq] at h; rw [beqL_eq a _ h]
  | .tup a, b, h => by cases b <;> simp [AV.beq] at h; rw [beqL_eq a _ h]
theorem beqL_eq : ∀ (a b : List AV), beqL a b = true → a = b
  | [], b, h => by cases b <;> simp [beqL] at h; rfl
  | x :: a, b, h => by
    cases b <;> simp [beqL] at h
    rw [AV.beq_eq x _ h.1, beqL_eq a _ h.2]
end

/- counting -/
def cnt (q : Nat → Bool) : Nat → Nat
  | 0 => 0
  | n + 1 => cnt q n + (bif q n then 1 else 0)

theorem cnt_mono {p q : Nat → Bool} : ∀ {n : Nat}, (∀ i, i < n → p i = true → q i = true) → cnt p n ≤ cnt q n
  | 0, _ => Nat.le_refl _
  | n + 1, h => by
    have h1 := cnt_mono (n := n) fun i hi => h i (by omega)
    have h2 := h n (by omega)
    simp only [cnt]
    cases hp : p n <;> cases hq : q n <;> simp_all <;> omega

theorem cnt_congr {p q : Nat → Bool} {n : Nat} (h : ∀ i, i < n → p i = q i) : cnt p n = cnt q n :=
  Nat.le_antisymm (cnt_mono fun i hi hp => by rw [← h i hi]; exact hp) (cnt_mono fun i hi hp => by rw [h i hi]; exact hp)

theorem cnt_flip {p q : Nat → Bool} {i : Nat} : ∀ {n : Nat}, i < n → p i = false → q i = true → (∀ j, j ≠ i → q j = p j) → cnt q n = cnt p n + 1
  | 0, h, _, _, _ => by omega
  | n + 1, h, hp, hq, hne => by
    simp only [cnt]
    by_cases hi : i = n
    · subst hi
      rw [cnt_congr (q := p) fun j hj => hne j (by omega)]
      simp [hp, hq]
    · rw [cnt_flip (n := n) (by omega) hp hq hne, hne n (Ne.symm hi)]
      omega

theorem cnt_zero {p : Nat → Bool} : ∀ {n : Nat}, cnt p n = 0 → ∀ i, i < n → p i = false
  | 0, _, i, hi => by omega
  | n + 1, h, i, hi => by
    simp only [cnt] at h
    by_cases hn : i = n
    · subst hn; cases hp : p i <;> simp_all
    · exact cnt_zero (n := n) (by omega) i (by omega)
end Go.AM

import Derived.Test.YthbkgikjaiaigaaGreatAmOps11
import Derived.Test.YthbkgikjaiaigaaGreatAmW3
namespace Go.AM
set_option linter.all false
open Go.RowKit
variable {P : Program} {w0 : Base} {w : World} {G : Gh} {σ : St}

def notInt (P : Program) (t : TypeId) : Bool := match P.underlying t with | some (.slice _) | some .string => true | _ => false

theorem notInt_cases {t1 : TypeId} (hn : notInt P t1 = true) : (∃ e', P.underlying t1 = some (.slice e')) ∨ P.underlying t1 = some .string := by
  unfold notInt at hn
  split at hn
  · rename_i e hu; exact .inl ⟨e, hu⟩
  · rename_i hu; exact .inr hu
  · cases hn

theorem cell_heap {w w' : World} (h : w'.heap = w.heap) (a : Addr) : w'.cell? a = w.cell? a := by simp [World.cell?, h]

/-- The new cells of an append. -/
theorem first_run (hW : W w0 G σ w) {k n : Nat} {x : AV} {v : Value} {xs : List AV} (hx : RelV G x v) (h : view k σ x = some (n, xs)) :
    ∃ us, RelL G true xs us ∧ xs.length = n * k ∧ ∀ w', w'.heap = w.heap → (Builtin.firstCells k n v).run P w' = .ok us.toArray w' ∧ (Builtin.lenOf v).run P w' = .ok n w' := by
  obtain ⟨hl, us, hR, hc⟩ := view_rel hW hx h
  refine ⟨us, hR, hl, fun w' hw' => ⟨?_, ?_⟩⟩
  · rcases hc with ⟨b, rfl, hb, rfl⟩ | ⟨rfl, rfl, a, cap, rfl⟩ | ⟨a, cap, rfl, hcell⟩
    · subst hb
      simp only [Builtin.firstCells, Sem.run_pure]
      congr 1
      apply Array.ext'
      simp
    · cases a with
      | none => simp [Builtin.firstCells]
      | some a => simp [Builtin.firstCells, loadCells, loadCellsFrom]
    · have hr := run_loadCells_list (P := P) w' a us (fun j u hj => by rw [cell_heap hw']; exact hcell j u hj)
      rw [← hR.length, hl] at hr
      simpa [Builtin.firstCells] using hr
  · rcases hc with ⟨b, rfl, hb, rfl⟩ | ⟨rfl, rfl, a, cap, rfl⟩ | ⟨a, cap, rfl, hcell⟩
    · simp [Builtin.lenOf, hb]
    · simp [Builtin.lenOf]
    · simp [Builtin.lenOf]

section
variable {ts : Array TypeId} {t ty t1 e : TypeId} {i : TypeInfo} {zv : Value}

theorem append_zero (ht0 : ts[0]? = some t) (ht1 : ts[1]? = some t1) (hn : notInt P t1 = true) (ht : P.underlying t = some (.slice e)) (hi : P.info? e = some i) {base : Option Addr} {len cap : Nat} {v : Value} {us : List Value}
    (hle : len ≤ cap) (hf : (Builtin.firstCells i.size 0 v).run P w = .ok us.toArray w) (hl : (Builtin.lenOf v).run P w = .ok 0 w) (hu : us = []) :
    (Builtin.append_ ts ty #[.slice base len cap, v]).run P w = .ok (.slice base len cap) w := by
  subst hu
  rcases notInt_cases hn with ⟨e', hu⟩ | hu <;> cases base <;> simp [Builtin.append_, ht0, ht1, run_underlying ht, run_underlying hu, size_run hi, hl, hle, hf, storeCells]

theorem append_room (ht0 : ts[0]? = some t) (ht1 : ts[1]? = some t1) (hn : notInt P t1 = true) (ht : P.underlying t = some (.slice e)) (hi : P.info? e = some i) {b off len cap n : Nat} {v : Value} {us : List Value} {c : Array Value} {el : TypeId}
    (hroom : len + n ≤ cap) (hf : (Builtin.firstCells i.size n v).run P w = .ok us.toArray w) (hl : (Builtin.lenOf v).run P w = .ok n w) (hc : w.heap[b]? = some (.cells c el (0, 0)))
    (hfit : off + len * i.size + us.length ≤ c.size) (h1 : ∀ u ∈ us, u.oneCell' = true) :
    (Builtin.append_ ts ty #[.slice (some ⟨b, off, none⟩) len cap, v]).run P w = .ok (.slice (some ⟨b, off, none⟩) (len + n) cap)
      (w.setRow b (c.toList.take (off + len * i.size) ++ us ++ c.toList.drop (off + len * i.size + us.length)).toArray) := by
  have hst := run_storeCells_at P b (off + len * i.size) el us 0 c w hc (by omega) h1
  simp only [Nat.add_zero] at hst
  rcases notInt_cases hn with ⟨e', hu⟩ | hu <;> simp [Builtin.append_, ht0, ht1, run_underlying ht, run_underlying hu, size_run hi, hl, hroom, hf, add_lit, hst]

theorem append_grow (ht0 : ts[0]? = some t) (ht1 : ts[1]? = some t1) (hn : notInt P t1 = true) (ht : P.underlying t = some (.slice e)) (hi : P.info? e = some i) (hzv : i.zero = some zv) {base : Option Addr} {len cap n : Nat} {v : Value} {us os : List Value}
    (hgrow : cap < len + n) (hl : (Builtin.lenOf v).run P w = .ok n w) (ho : (Builtin.firstCells i.size len (.slice base len cap)).run P w.drew = .ok os.toArray w.drew)
    (hf' : (Builtin.firstCells i.size n v).run P w.drew = .ok us.toArray w.drew) (hb1 : len + n ≤ 1099511627776) (hb2 : (len + n) * i.bytes ≤ 1099511627776) :
    (Builtin.append_ ts ty #[.slice base len cap, v]).run P w = .ok (.slice (some ⟨w.heap.size, 0, none⟩) (len + n) (grownCap w (len + n) cap e))
      (w.drew.alloc (.cells ((os ++ us).toArray ++ Builtin.zeroCells zv.cells (grownCap w (len + n) cap e - (len + n))) e)) := by
  have n1 : ¬ len + n ≤ cap := by omega
  have n2 : ¬ (9223372036854775807 < (len : Int) + (n : Int)) := by omega
  have n3 : ¬ (Builtin.nextslicecap (len + n) cap * i.bytes > 2 ^ 48) := by
    have := growslice_fits (need := len + n) (old := cap) (bytes := i.bytes) hgrow (by omega)
    omega
  have n3' : ¬ (281474976710656 < Builtin.nextslicecap (len + n) cap * i.bytes) := by omega
  have hask : ∀ (m : Nat) (w : World), (askRoom m).run P w = .ok () w := by
    intro m w
    unfold askRoom
    split <;> simp [mark, Sem.run]
  rcases notInt_cases hn with ⟨e', hu⟩ | hu <;>
    simp [Builtin.append_, ht0, ht1, run_underlying ht, run_underlying hu, size_run hi, hl, n1, n2, n3', typeInfo, hi, Question.forced, grownCap, ho, hf', zeroValue, hzv, newRow, hask, ← List.append_toArray]
end

theorem zeroCells_size (z : Array Value) (m : Nat) : (Builtin.zeroCells z m).size = m * z.size := by simp [Builtin.zeroCells]

theorem list_ms {α : Type} (C us : List α) (A M : Nat) (hA : A + M + us.length ≤ C.length) :
    ((C.take (A + M) ++ us ++ C.drop (A + M + us.length)).drop A).take (M + us.length) = (C.drop A).take M ++ us := by
  have l1 : (C.take (A + M)).length = A + M := by simp only [List.length_take]; omega
  have l2 : ((C.drop A).take M).length = M := by simp only [List.length_take, List.length_drop]; omega
  rw [List.append_assoc, List.drop_append_of_le_length (by omega), List.drop_take, show A + M - A = M from by omega, List.take_append, l2, List.take_of_length_le (l := (C.drop A).take M) (by omega),
    show M + us.length - M = us.length from by omega, List.take_append_of_le_length (Nat.le_refl _), List.take_of_length_le (Nat.le_refl _)]

theorem app_ok (hW : W w0 G σ w) {ts : Array TypeId} {t ty t1 e : TypeId} {i : TypeInfo} {zv : Value} (ht0 : ts[0]? = some t) (ht1 : ts[1]? = some t1) (hn : notInt P t1 = true) (ht : P.underlying t = some (.slice e)) (hi : P.info? e = some i) (hzv : i.zero = some zv) (hzl : zv.cells.size = i.size) (hby : 1 ≤ i.bytes)
    {s x r : AV} {sv xv : Value} {mt : Bool} {σ' : St} (hs : RelV G s sv) (hx : RelV G x xv) (h : aApp mt i.size i.bytes σ s x = some (r, σ')) :
    ValOk w0 G σ' r ((Builtin.append_ ts ty #[sv, xv]).run P w) := by
  unfold aApp at h
  split at h
  · cases h
  · rename_i n xs hv
    obtain ⟨us, hR, hxl, hfl⟩ := first_run (P := P) hW hx hv
    have hf := (hfl w rfl).1
    have hl := (hfl w rfl).2
    have hf' := (hfl w.drew rfl).1
    split at h
    · -- nothing is appended
      rename_i hn0
      subst hn0
      have hxs : xs = [] := List.eq_nil_of_length_eq_zero (by simpa using hxl)
      have hus : us = [] := List.eq_nil_of_length_eq_zero (by rw [← hR.length, hxs]; rfl)
      have fin : ∀ {base len cap}, sv = .slice base len cap → len ≤ cap → r = s → σ' = σ → ValOk w0 G σ' r ((Builtin.append_ ts ty #[sv, xv]).run P w) := by
        rintro base len cap rfl hle rfl rfl
        exact ValOk.pure hW (append_zero ht0 ht1 hn ht hi hle hf hl hus) hs
      split at h
      · cases h; cases hs; exact fin rfl (Nat.le_refl _) rfl rfl
      · split at h
        · cases h
          cases hs with
          | sl0 => exact fin rfl (Nat.zero_le _) rfl rfl
          | slx => exact fin rfl (Nat.le_refl _) rfl rfl
          | sl _ _ _ _ _ _ _ _ _ q => exact fin rfl q rfl rfl
        · cases h
      · cases h
        cases hs with
        | ms _ _ _ _ _ _ _ _ _ q => exact fin rfl q rfl rfl
      · cases h
    · rename_i hn0
      have hnpos : 0 < n := by omega
      -- the array grows: a new block
      have grow : ∀ {base : Option Addr} {len cap : Nat} {os : List Value} {cs : List AV}, sv = .slice base len cap → cap < len + n → (len + n) * i.bytes ≤ room → len + n ≤ room →
          RelL G true cs os → cs.length = len * i.size → (∀ w', w'.heap = w.heap → (Builtin.firstCells i.size len (.slice base len cap)).run P w' = .ok os.toArray w') →
          ∃ cap' c, len + n ≤ cap' ∧ (Builtin.append_ ts ty #[sv, xv]).run P w = .ok (.slice (some ⟨w.heap.size, 0, none⟩) (len + n) cap') (w.drew.alloc (.cells c e)) ∧ c.size = cap' * i.size ∧
            (os ++ us) <+: c.toList ∧ (cs ++ xs).length = (len + n) * i.size ∧ (os ++ us).length = (len + n) * i.size := by
        rintro base len cap os cs rfl hg hb hb' hRo hol ho
        have hrun := append_grow (ty := ty) ht0 ht1 hn ht hi hzv hg hl (ho w.drew rfl) hf' (by unfold room at hb'; omega) (by unfold room at hb; omega)
        have hge := grownCap_ge w (len + n) cap e
        have l1 : (os ++ us).length = (len + n) * i.size := by
          rw [List.length_append, ← hRo.length, ← hR.length, hol, hxl, Nat.add_mul]
        refine ⟨_, _, hge, hrun, ?_, ⟨(Builtin.zeroCells zv.cells (grownCap w (len + n) cap e - (len + n))).toList, by simp⟩, ?_, l1⟩
        · rw [Array.size_append, List.size_toArray, l1, zeroCells_size, hzl, ← Nat.add_mul]
          congr 1; omega
        · rw [List.length_append, hol, hxl, Nat.add_mul]
      -- what the new block is good for
      have fixed : ∀ {c : Array Value} {cs : List AV} {os : List Value} {len cap' : Nat}, c.size = cap' * i.size → (os ++ us) <+: c.toList → RelL G true cs os → len + n ≤ cap' → (cs ++ xs).length = (len + n) * i.size → (os ++ us).length = (len + n) * i.size →
          W w0 ((G.addΓ w.heap.size (os ++ us, c.size))) σ (w.drew.alloc (.cells c e)) ∧ Gle G (G.addΓ w.heap.size (os ++ us, c.size)) ∧ RelL (G.addΓ w.heap.size (os ++ us, c.size)) true (cs ++ xs) (((os ++ us).drop 0).take (cs ++ xs).length) := by
        intro c cs os len cap' h1 h2 h3 h4 h5 h6
        obtain ⟨hW', hG⟩ := hW.drew.newFix c e (0, 0) (os ++ us) h2
        refine ⟨hW', hG, ?_⟩
        rw [List.drop_zero, List.take_of_length_le (by omega)]
        exact (h3.append hR).mono hG
      have fresh : ∀ {c : Array Value} {cs : List AV} {os : List Value} {len cap' e' : Nat}, c.size = cap' * i.size → (os ++ us) <+: c.toList → RelL G true cs os → len + n ≤ cap' → (cs ++ xs).length = (len + n) * i.size → (os ++ us).length = (len + n) * i.size →
          (Builtin.append_ ts ty #[sv, xv]).run P w = .ok (.slice (some ⟨w.heap.size, 0, none⟩) (len + n) cap') (w.drew.alloc (.cells c e)) → r = .sl i.size (.fam σ.next (len + n)) (len + n) (cs ++ xs) → σ' = σ.new (.fam (len + n)) →
          ValOk w0 G σ' r ((Builtin.append_ ts ty #[sv, xv]).run P w) := by
        intro c cs os len cap' e' h1 h2 h3 h4 h5 h6 hrun hr hσ
        subst hr hσ
        obtain ⟨hW1, hG1, hR1⟩ := fixed h1 h2 h3 h4 h5 h6
        obtain ⟨hW2, hG2⟩ := hW1.newFam w.heap.size (len + n) (os ++ us) c.size c e (by simp [Gh.addΓ]) hW.below.size ((heap_new w.drew _ _).trans (if_pos rfl)) (fun l o hl hb => by
          obtain ⟨b', hb', hlt, _⟩ := hW.blk_lt hl
          have : blk G l o = some w.heap.size := by rw [← hb]; cases o <;> rfl
          rw [this] at hb'; cases hb'; omega)
        refine ⟨_, _, _, hrun, hG1.trans hG2, hW2, ?_⟩
        refine .sl _ _ _ _ w.heap.size 0 (os ++ us) c.size cap' h4 h5 (by rw [h1]; omega) (by simp [Gh.addΓ, Gh.addΦ]) (hR1.mono hG2) ?_
        exact ⟨len + n, w.heap.size, by simp [Gh.addΦ], Nat.le_refl _, fun _ => ⟨rfl, by rw [h6]; omega⟩⟩
      have object : ∀ {c : Array Value} {cs : List AV} {os : List Value} {len cap' : Nat}, c.size = cap' * i.size → (os ++ us) <+: c.toList → RelL G true cs os → len + n ≤ cap' → (cs ++ xs).length = (len + n) * i.size → (os ++ us).length = (len + n) * i.size →
          (Builtin.append_ ts ty #[sv, xv]).run P w = .ok (.slice (some ⟨w.heap.size, 0, none⟩) (len + n) cap') (w.drew.alloc (.cells c e)) → ∀ σ1, σ1.next = σ.next → W w0 G σ1 w → r = .ms i.size σ.next 0 (len + n) → σ' = σ1.new (.cells (cs ++ xs)) →
          ValOk w0 G σ' r ((Builtin.append_ ts ty #[sv, xv]).run P w) := by
        intro c cs os len cap' h1 h2 h3 h4 h5 h6 hrun σ1 hnx hW1 hr hσ
        subst hr hσ
        have hfr := hW1.fresh σ1.next (Nat.le_refl _)
        have hpre : (os ++ us) = c.toList.take (cs ++ xs).length := by
          obtain ⟨tl, htl⟩ := h2
          rw [← htl, List.take_append_of_le_length (by omega), List.take_of_length_le (by omega)]
        obtain ⟨hW2, hG2⟩ := hW1.drew.newObj (.cells (cs ++ xs)) (.cells c e) c.size rfl (by
          refine ⟨w.heap.size, 0, c.size, c, e, by simp [Gh.addρ], hW.below.size, (heap_new w.drew _ _).trans (if_pos rfl), rfl, ?_, ?_⟩
          · rw [h1, h5, Nat.zero_add]; exact Nat.mul_le_mul_right _ h4
          · rw [List.drop_zero, ← hpre]
            exact (h3.append hR).mono (Gle.addρ (x := (w.heap.size, 0, c.size)) hfr.2.1))
        refine ⟨_, _, _, hrun, hG2, hW2, ?_⟩
        rw [← hnx]
        exact .ms _ _ _ _ w.heap.size 0 c.size cap' (by simp [Gh.addρ]) h4 (by rw [h1]; omega)
      split at h
      · -- nil
        split at h
        · rename_i hb
          obtain ⟨cap', c, g1, g2, g3, g4, g5, g6⟩ := grow (base := none) (len := 0) (cap := 0) (os := []) (cs := []) (by cases hs; rfl) (by omega) (by simpa using hb) (by have := Nat.mul_le_mul_left n hby; omega) (.nil _) (by simp) (fun w' _ => by simp [Builtin.firstCells])
          split at h
          · cases h
            exact object (cs := []) (os := []) (len := 0) g3 g4 (.nil _) g1 g5 g6 g2 σ rfl hW (by simp) (by simp)
          · cases h
            exact fresh (cs := []) (os := []) (len := 0) (e' := 0) g3 g4 (.nil _) g1 g5 g6 g2 (by simp) (by simp)
        · cases h
      · -- a fixed slice
        rename_i k' own len cs
        split at h
        · rename_i hcond
          obtain ⟨rfl, hb⟩ := hcond
          -- its own cells
          have own_cells : ∃ base cap os, sv = .slice base len cap ∧ RelL G true cs os ∧ cs.length = len * i.size ∧ (∀ w', w'.heap = w.heap → (Builtin.firstCells i.size len (.slice base len cap)).run P w' = .ok os.toArray w') ∧ (own = .exact → cap = len) ∧
              ∀ l e0, own = .fam l e0 → ∃ b off pre tot e' b', base = some ⟨b, off, none⟩ ∧ len ≤ cap ∧ off + cap * i.size ≤ tot ∧ G.Γ b = some (pre, tot) ∧ os = (pre.drop off).take cs.length ∧ G.Φ l = some (e', b') ∧ (e0 = e' → b' = b ∧ pre.length = off + len * i.size) := by
            have hv' : view i.size σ (.sl i.size own len cs) = some (len, cs) := by simp [view]
            obtain ⟨os, hRo, hol, hfo⟩ := first_run (P := P) hW hs hv'
            cases hs with
            | sl0 => exact ⟨_, _, os, rfl, hRo, hol, fun w' hw' => (hfo w' hw').1, by simp, by simp⟩
            | slx => exact ⟨_, _, os, rfl, hRo, hol, fun w' hw' => (hfo w' hw').1, by simp, by simp⟩
            | sl _ _ _ _ b off pre tot cap q1 q2 q3 q4 q5 q6 =>
              have hfo' : ∀ w', w'.heap = w.heap → (Builtin.firstCells i.size len (.slice (some ⟨b, off, none⟩) len cap)).run P w' = .ok ((pre.drop off).take cs.length).toArray w' := by
                intro w' hw'
                by_cases h0 : cs.length = 0
                · have h00 : len * i.size = 0 := by omega
                  simp [Builtin.firstCells, h00, h0, loadCells, loadCellsFrom]
                · have hr := run_loadCells_list (P := P) w' ⟨b, off, none⟩ _ (fun j u hj => by rw [cell_heap hw']; exact cells_of_arr hW q4 (take_drop_len q5.length (by omega)) j u hj)
                  rw [← q5.length, q2] at hr
                  rw [q2]
                  simpa [Builtin.firstCells] using hr
              refine ⟨_, _, _, rfl, q5, q2, hfo', fun he => (by subst he; exact q6), fun l e0 he => ?_⟩
              subst he
              obtain ⟨e', b', z1, z2, z3⟩ := q6
              exact ⟨b, off, pre, tot, e', b', rfl, q1, q3, q4, rfl, z1, z3⟩
          obtain ⟨base, cap, os, hsv, hRo, hol, hfo, hexact, hfam⟩ := own_cells
          have hbl : len + n ≤ room := by have := Nat.mul_le_mul_left (len + n) hby; omega
          split at h
          · -- exact
            have hcl := hexact rfl
            obtain ⟨cap', c, g1, g2, g3, g4, g5, g6⟩ := grow hsv (by omega) hb hbl hRo hol hfo
            split at h
            · cases h
              exact object g3 g4 hRo g1 g5 g6 g2 σ rfl hW rfl rfl
            · cases h
              exact fresh (e' := 0) g3 g4 hRo g1 g5 g6 g2 rfl rfl
          · -- a family
            rename_i l e0
            split at h
            · cases h
            · split at h
              · rename_i e1 hl'
                split at h
                · rename_i he
                  simp at he; subst he
                  cases h
                  obtain ⟨b, off, pre, tot, e', b', hbase, q1, q3, q4, hos, z1, z3⟩ := hfam l e0 rfl
                  obtain ⟨b0, pre0, tot0, c0, el0, y1, y2, y3, y4⟩ := hW.obj l _ hl'
                  rw [z1] at y1; cases y1
                  obtain ⟨rfl, hpl⟩ := z3 rfl
                  rw [q4] at y3; cases y3
                  have hfull : os ++ us = pre.drop off ++ us := by
                    rw [hos, List.take_of_length_le (by simp; omega)]
                  by_cases hroom : len + n ≤ cap
                  · -- in place
                    obtain ⟨c', el', fz', a1, a2, a3⟩ := hW.arr _ _ _ q4
                    rw [y4] at a1; cases a1
                    have hfit : off + len * i.size + us.length ≤ c0.size := by
                      rw [a2, ← hR.length, hxl]
                      have : len * i.size + n * i.size ≤ cap * i.size := by rw [← Nat.add_mul]; exact Nat.mul_le_mul_right _ hroom
                      omega
                    have hrun := append_room (P := P) (w := w) (ty := ty) ht0 ht1 hn ht hi hroom hf hl y4 hfit hR.ones
                    rw [← hbase, ← hsv] at hrun
                    have htake : c0.toList.take (off + len * i.size) = pre := by
                      obtain ⟨tl, htl⟩ := a3
                      rw [← htl, ← hpl, List.take_append_of_le_length (Nat.le_refl _), List.take_of_length_le (Nat.le_refl _)]
                    rw [htake] at hrun
                    obtain ⟨hW', hG'⟩ := hW.famOn (e' := e0 + n) (ext := us) (c' := (pre ++ us ++ c0.toList.drop (off + len * i.size + us.length)).toArray) hl' z1 q4 (by omega) y4 (by
                      simp only [List.size_toArray, List.length_append, List.length_drop, Array.length_toList]; omega) ⟨c0.toList.drop (off + len * i.size + us.length), by simp⟩
                    refine ⟨_, _, _, hrun, hG', hW', ?_⟩
                    rw [hbase]
                    refine .sl _ _ _ _ b' off (pre ++ us) tot cap hroom (by rw [List.length_append, hol, hxl, Nat.add_mul]) q3 (by simp [Gh.addΓ, Gh.addΦ]) ?_ ?_
                    · have : (List.drop off (pre ++ us)).take (cs ++ xs).length = os ++ us := by
                        rw [hfull, List.drop_append_of_le_length (by omega), List.take_of_length_le]
                        simp only [List.length_append, List.length_drop]
                        rw [hol, hR.length]; omega
                      rw [this]
                      exact (hRo.append hR).mono hG'
                    · refine ⟨e0 + n, b', by simp [Gh.addΦ], Nat.le_refl _, fun _ => ⟨rfl, ?_⟩⟩
                      rw [List.length_append, hpl, ← hR.length, hxl, Nat.add_mul]; omega
                  · -- it grows
                    obtain ⟨cap', c, g1, g2, g3, g4, g5, g6⟩ := grow hsv (by omega) hb hbl hRo hol hfo
                    obtain ⟨hW1, hG1, hR1⟩ := fixed g3 g4 hRo g1 g5 g6
                    obtain ⟨hW2, hG2⟩ := hW1.famMove (e' := e0 + n) hl' (by omega) (b := w.heap.size) (pre := os ++ us) (tot := c.size) (by simp [Gh.addΓ]) hW.below.size ((heap_new w.drew _ _).trans (if_pos rfl)) (fun l o hl hb => by
                      obtain ⟨b', hb', hlt, _⟩ := hW.blk_lt hl
                      have : blk G l o = some w.heap.size := by rw [← hb]; cases o <;> rfl
                      rw [this] at hb'; cases hb'; omega)
                    refine ⟨_, _, _, g2, hG1.trans hG2, hW2, ?_⟩
                    refine .sl _ _ _ _ w.heap.size 0 (os ++ us) c.size cap' g1 g5 (by rw [g3]; omega) (by simp [Gh.addΓ, Gh.addΦ]) (hR1.mono hG2) ?_
                    exact ⟨e0 + n, w.heap.size, by simp [Gh.addΦ], Nat.le_refl _, fun _ => ⟨rfl, by rw [g6]; omega⟩⟩
                · cases h
              · cases h
          · cases h
        · cases h
      · -- an object's slice
        rename_i k' l off len
        split at h
        · rename_i hcond
          simp only [Bool.and_eq_true, decide_eq_true_eq, Nat.beq_eq] at hcond
          obtain ⟨rfl, hb⟩ := hcond
          split at h
          · rename_i cs hl'
            split at h
            · rename_i hend
              simp at hend
              cases h
              have hbl : len + n ≤ room := by have := Nat.mul_le_mul_left (len + n) hby; omega
              have hv' : view i.size σ (.ms i.size l off len) = some (len, cs.drop off) := by
                have hle : off + len * i.size ≤ cs.length := by omega
                simp only [view, hl', Nat.beq_refl, if_true, if_pos hle]
                rw [List.take_of_length_le (by simp; omega)]
              obtain ⟨os, hRo, hol, hfo⟩ := first_run (P := P) hW hs hv'
              cases hs with
              | ms _ _ _ _ b base tot cap q1 q2 q3 =>
                obtain ⟨b', base', tot', c0, el, h1, h2, h3, h4, h5, h6⟩ := hW.obj l _ hl'
                rw [q1] at h1; cases h1
                by_cases hroom : len + n ≤ cap
                · have hfit : base + off + len * i.size + us.length ≤ c0.size := by
                    rw [h4, ← hR.length, hxl]
                    have : len * i.size + n * i.size ≤ cap * i.size := by rw [← Nat.add_mul]; exact Nat.mul_le_mul_right _ hroom
                    omega
                  have hrun := append_room (P := P) (w := w) (ty := ty) ht0 ht1 hn ht hi hroom hf hl h3 hfit hR.ones
                  generalize hc' : (c0.toList.take (base + off + len * i.size) ++ us ++ c0.toList.drop (base + off + len * i.size + us.length)).toArray = c' at hrun
                  have hrow := setRow_heap w b c0 c' el _ h3
                  have hcs : c'.size = tot := by
                    rw [← hc']; simp only [List.size_toArray, List.length_append, List.length_take, List.length_drop, Array.length_toList]; omega
                  have hfr := hW.fresh σ.next (Nat.le_refl _)
                  have hxl' : xs.length = us.length := hR.length
                  obtain ⟨hW', hG'⟩ := hW.moveObj (cs' := cs.drop off ++ xs) (base' := base + off) (tot' := tot) (w' := w.setRow b c') hl' q1 (Below.setRow hW.below h2 _) (by simp) (fun k hk => setRow_other w b k _ hk) (by
                    refine ⟨b, base + off, tot, c', el, by simp [Gh.addρ], h2, hrow, hcs, ?_, ?_⟩
                    · simp only [List.length_append, List.length_drop]; omega
                    · have hm := Gle.addρ (G := G) (l := σ.next) (x := (b, base + off, tot)) hfr.2.1
                      have e1 : (c'.toList.drop (base + off)).take (cs.drop off ++ xs).length = ((c0.toList.drop base).take cs.length).drop off ++ us := by
                        have hcl : c0.toList.length = tot := by simpa using h4
                        have hlen : (cs.drop off ++ xs).length = len * i.size + us.length := by
                          simp only [List.length_append, List.length_drop]; omega
                        rw [← hc', List.toList_toArray, hlen, list_ms _ _ _ _ (by rw [hcl, ← h4]; exact hfit), List.drop_take, List.drop_drop]
                        congr 2
                        omega
                      rw [e1]
                      exact ((h6.drop off).append hR).mono hm)
                  refine ⟨_, _, _, hrun, hG', hW', ?_⟩
                  have := RelV.ms (G := G.addρ σ.next (b, base + off, tot)) i.size σ.next 0 (len + n) b (base + off) tot cap (by simp [Gh.addρ]) hroom (by omega)
                  simpa using this
                · obtain ⟨cap', c, g1, g2, g3, g4, g5, g6⟩ := grow rfl (by omega) hb hbl hRo hol (fun w' hw' => (hfo w' hw').1)
                  exact object g3 g4 hRo g1 g5 g6 g2 (σ.kill l) rfl (hW.kill hl' rfl) rfl rfl
            · cases h
          · cases h
        · cases h
      · cases h
end Go.AM

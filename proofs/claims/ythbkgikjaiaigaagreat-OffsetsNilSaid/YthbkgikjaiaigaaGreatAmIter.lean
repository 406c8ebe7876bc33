import Derived.Test.YthbkgikjaiaigaaGreatAmOps13
import Derived.Maps.RangeRun
namespace Go.AM
set_option linter.all false
open Go.RowKit
open Go.ChangeMaps (setBlock)
variable {P : Program} {w0 : Base} {w : World} {G : Gh} {σ : St}

theorem memN_iff (n : Nat) : ∀ (l : List Nat), l.toArray.contains n = memN n l
  | [] => by simp [memN]
  | m :: r => by
    have ih := memN_iff n r
    simp only [List.contains_toArray, List.contains_cons] at ih ⊢
    rw [memN, ← ih]
    congr 1
    rw [Bool.eq_iff_iff]
    simp only [beq_iff_eq, Nat.beq_eq]
    exact eq_comm

theorem allGe_iff (n : Nat) : ∀ (es : List MapEntry), es.all (fun e => decide (e.born ≥ n)) = allGe n (es.map (·.born))
  | [] => rfl
  | e :: es => by
    simp only [List.all_cons, List.map_cons, allGe, allGe_iff n es]
    congr 1
    rw [Bool.eq_iff_iff]; simp

inductive Rel3 (G : Gh) : List (AV × AV × Nat) → List MapEntry → Prop where
  | nil : Rel3 G [] []
  | cons (k v e l es) : RelV G k e.key → RelV G v e.val → Rel3 G l es → Rel3 G ((k, v, e.born) :: l) (e :: es)

theorem unseen_rel (seen : List Nat) : ∀ {kvs : List (AV × AV)} {es : List MapEntry}, RelKV G kvs es → Rel3 G (unseen seen kvs (es.map (·.born))) (es.filter fun e => !seen.toArray.contains e.born)
  | _, _, .nil => by simp [unseen]; exact .nil
  | _, _, .cons k v e kvs es h1 h2 h3 => by
    simp only [List.map_cons, unseen, List.filter_cons, memN_iff]
    cases h : memN e.born seen with
    | true =>
      have := unseen_rel seen h3
      simp only [memN_iff] at this
      simpa using this
    | false =>
      have := unseen_rel seen h3
      simp only [memN_iff] at this
      simpa using Rel3.cons _ _ _ _ _ h1 h2 this

theorem atStamp_rel (s : Nat) : ∀ {kvs : List (AV × AV)} {es : List MapEntry} {k v : AV}, RelKV G kvs es → atStamp s kvs (es.map (·.born)) = some (k, v) → ∃ e, es.find? (·.born == s) = some e ∧ RelV G k e.key ∧ RelV G v e.val
  | _, _, k, v, .nil, h => by simp [atStamp] at h
  | _, _, k', v', .cons k v e kvs es h1 h2 h3, h => by
    simp only [List.map_cons, atStamp] at h
    split at h
    · rename_i hb
      cases h
      exact ⟨e, by simp [Nat.eq_of_beq_eq_true hb], h1, h2⟩
    · rename_i hb
      obtain ⟨e', q1, q2, q3⟩ := atStamp_rel s h3 h
      refine ⟨e', ?_, q2, q3⟩
      rw [List.find?_cons]
      have : (e.born == s) = false := by
        cases hh : e.born == s with
        | false => rfl
        | true => exact absurd (by rw [eq_of_beq hh]; exact Nat.beq_refl _) hb
      simp [this, q1]

theorem range_ok (hW : W w0 G σ w) {t kt vt : TypeId} (ht : P.underlying t = some (.map kt vt)) {x : AV} {xv : Value} (hx : RelV G x xv) {r : AV} {σ' : St} (h : rangeS σ x = some (r, σ')) :
    ValOk w0 G σ' r ((Instr.range t xv).run P w) := by
  unfold rangeS at h
  cases x <;> simp only [reduceCtorEq] at h
  case nilm =>
    cases h
    cases hx
    obtain ⟨hW', hG⟩ := hW.newObj (.iter .none 0 [] 0) (.mapIter none 0 #[] 0) 0 rfl ⟨w.heap.size, none, by simp [Gh.addρ], hW.below.size, (heap_new w _ _).trans (if_pos rfl), rfl⟩
    refine ⟨.pointer (some ⟨w.heap.size, 0, none⟩), _, _, ?_, hG, hW', .ptr σ.next 0 w.heap.size 0 0 (by simp [Gh.addρ])⟩
    simp [Instr.range, run_underlying ht]
  case mp l =>
    cases hx with
    | mp _ b base tot hρ =>
      split at h
      · rename_i kvs bs ck hl
        cases h
        obtain ⟨b', base', tot', es, h1, h2, h3, h4, h5⟩ := hW.obj _ _ hl
        rw [hρ] at h1; cases h1
        have hfr := hW.fresh σ.next (Nat.le_refl _)
        have hlt := hW.lt hl
        obtain ⟨hW', hG⟩ := hW.newObj (.iter (some l) ck [] ck) (.mapIter (some b) ck #[] ck) 0 rfl
          ⟨w.heap.size, some b, by simp [Gh.addρ], hW.below.size, (heap_new w _ _).trans (if_pos rfl), b, base, tot, rfl, by simp only [Gh.addρ]; rw [if_neg (by omega)]; exact hρ⟩
        refine ⟨.pointer (some ⟨w.heap.size, 0, none⟩), _, _, ?_, hG, hW', .ptr σ.next 0 w.heap.size 0 0 (by simp [Gh.addρ])⟩
        simp [Instr.range, run_underlying ht, getObj_run h3]
      · cases h

theorem getIter_run {r s c : Nat} {m : Option Nat} {seen : Array Nat} (h : w.heap[r]? = some (.mapIter m s seen c)) : (getObj r).run P w = .ok (.mapIter m s seen c) w := by
  simp [getObj, Sem.run, h]

theorem next_ok (hW : W w0 G σ w) {ty : TypeId} {x : AV} {xv : Value} (hx : RelV G x xv) {r : AV} {σ' : St} (h : nextS σ x = some (r, σ')) :
    ValOk w0 G σ' r ((Instr.next xv false ty).run P w) := by
  unfold nextS at h
  split at h
  · rename_i l
    obtain ⟨b, base, tot, rfl, hρ⟩ := hx.ptr_inv
    have over : RelV G (.tup [.bool false]) (.tuple #[.bool false]) := .tup _ _ (.cons _ _ _ _ _ (.bool _) (by simp) (.nil _))
    split at h
    · rename_i s1 s2 s3 hl
      cases h
      obtain ⟨b', mm, h1, h2, h3, rfl⟩ := hW.obj _ _ hl
      rw [hρ] at h1; cases h1
      refine ValOk.pure hW ?_ over
      simp [Instr.next, getIter_run h3]
    · rename_i lm since seen last hl
      obtain ⟨b', mm, h1, h2, h3, bm, base', tot', rfl, hρm⟩ := hW.obj _ _ hl
      rw [hρ] at h1; cases h1
      split at h
      · rename_i kvs bs ck hlm
        obtain ⟨bm', base'', tot'', es, g1, g2, g3, g4, g5⟩ := hW.obj _ _ hlm
        rw [hρm] at g1; cases g1
        split at h
        · cases h
        · rename_i hold
          have hcond : (!seen.toArray.isEmpty && !es.isEmpty && es.all (fun e => decide (e.born ≥ last))) = false := by
            have e1 : seen.toArray.isEmpty = seen.isEmpty := by cases seen <;> rfl
            have e2 : es.isEmpty = bs.isEmpty := by
              rw [← g5]; cases es with | mk l => cases l <;> rfl
            have e3 : es.all (fun e => decide (e.born ≥ last)) = allGe last bs := by
              rw [← g5, ← allGe_iff, Array.all_toList]
            rw [e1, e2, e3, Bool.and_assoc]
            simpa using hold
          have hrel := unseen_rel (G := G) seen g4
          rw [g5] at hrel
          have hfl : (es.filter fun e => !seen.toArray.contains e.born).toList = es.toList.filter fun e => !seen.toArray.contains e.born := by simp
          split at h
          · rename_i hun
            cases h
            rw [hun] at hrel
            have hE : es.filter (fun e => !seen.toArray.contains e.born) = #[] := by
              apply Array.ext'
              rw [hfl]
              generalize (es.toList.filter fun e => !seen.toArray.contains e.born) = L at hrel
              cases hrel; rfl
            refine ValOk.pure hW ?_ over
            simp only [Instr.next, Sem.run_bind, getIter_run h3, getObj_run g3, Result.andThen, hcond, Bool.false_eq_true, if_false, hE]
            simp [choose, Sem.run, Question.forced]
          · rename_i k v bo hun
            split at h
            · rename_i hlt
              cases h
              rw [hun] at hrel
              obtain ⟨e, hE, hk, hv, hbo⟩ : ∃ e, es.filter (fun e => !seen.toArray.contains e.born) = #[e] ∧ RelV G k e.key ∧ RelV G v e.val ∧ e.born = bo := by
                generalize hL : (es.toList.filter fun e => !seen.toArray.contains e.born) = L at hrel
                cases hrel with
                | cons _ _ e _ es' q1 q2 q3 =>
                  cases q3
                  exact ⟨e, Array.ext' (by rw [hfl, hL]), q1, q2, rfl⟩
              subst hbo
              have hlt' : e.born < since := by simpa using hlt
              have hnot : ¬ e.born ≥ since := by omega
              refine ⟨.tuple #[.bool true, e.key, e.val], setBlock w b (.mapIter (some bm) since (seen.toArray.push e.born) ck), G, ?_, Gle.refl G, ?_, ?_⟩
              · simp only [Instr.next, Sem.run_bind, getIter_run h3, getObj_run g3, Result.andThen, hcond, Bool.false_eq_true, if_false, hE]
                simp [choose, Sem.run, Question.forced, hlt', hnot, run_setObj_at h3]
              · have hb := (Array.getElem?_eq_some_iff.1 h3).1
                refine hW.setObj hl rfl rfl (b := b) (by simp [blk, hρ]) (hW.below.trans ⟨rfl, rfl, rfl, by simp [setBlock], fun k hk => ?_⟩) (by simp [setBlock]) (fun k hk => ?_) ?_
                · simp only [setBlock]; rw [Array.getElem?_setIfInBounds_ne (by omega)]
                · simp only [setBlock]; rw [Array.getElem?_setIfInBounds_ne (Ne.symm hk)]
                · exact ⟨b, some bm, hρ, h2, by simp [setBlock, hb], bm, base', tot', rfl, hρm⟩
              · exact .tup _ _ (.cons _ _ _ _ _ (.bool _) (by simp) (.cons _ _ _ _ _ hk (by simp) (.cons _ _ _ _ _ hv (by simp) (.nil _))))
            · cases h
          · cases h
      · cases h
    · cases h
  · cases h

theorem entry_ok (hW : W w0 G σ w) {x : AV} {xv : Value} (hx : RelV G x xv) {r : AV} (h : entryV σ x = some r) :
    ValOk w0 G σ r ((Instr.entry xv).run P w) := by
  unfold entryV at h
  split at h
  · rename_i l
    obtain ⟨b, base, tot, rfl, hρ⟩ := hx.ptr_inv
    split at h
    · rename_i lm since seen last hl
      obtain ⟨b', mm, h1, h2, h3, bm, base', tot', rfl, hρm⟩ := hW.obj _ _ hl
      rw [hρ] at h1; cases h1
      split at h
      · rename_i kvs bs ck s hlm hs
        obtain ⟨bm', base'', tot'', es, g1, g2, g3, g4, g5⟩ := hW.obj _ _ hlm
        rw [hρm] at g1; cases g1
        split at h
        · rename_i hck
          have hck := Nat.eq_of_beq_eq_true hck
          subst hck
          split at h
          · rename_i k v hat
            cases h
            rw [← g5] at hat
            obtain ⟨e, q1, q2, q3⟩ := atStamp_rel s g4 hat
            have hback : seen.toArray.back? = some s := by rw [List.back?_toArray]; exact hs
            have hfind : es.find? (fun x => x.born == s) = some e := by rw [← Array.find?_toList]; exact q1
            refine ValOk.pure (u := .tuple #[e.key, e.val]) hW ?_ (.tup _ _ (.cons _ _ _ _ _ q2 (by simp) (.cons _ _ _ _ _ q3 (by simp) (.nil _))))
            simp [Instr.entry, getIter_run h3, hback, getObj_run g3, hfind]
          · cases h
        · cases h
      · cases h
    · cases h
  · cases h
end Go.AM

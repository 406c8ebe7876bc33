/- The abstract machine: AmIter, AmChk, AmSound, AmExec. -/
import Derived.Test.YthbkgikjaiaigaaGreatAmGc
import Derived.Maps.RangeRun
import Derived.Orders
import Derived.LoopN
import Derived.Scope
namespace Go.AM
set_option linter.all false
open Go.RowKit
open Go.ChangeMaps (setBlock)
variable {P : Program} {w0 : Base} {w : World} {G : Gh} {σ : St}

theorem memN_iff (n : Nat) : ∀ (l : List Nat), l.toArray.contains n = memN n l
  | [] => by simp [memN]
  | m :: r => by
    have ih := memN_iff n r
    simp only [List.contains_toArray, List.contains_cons] at ih ⊢
    rw [memN, ← ih]
    congr 1
    rw [Bool.eq_iff_iff]
    simp only [beq_iff_eq, Nat.beq_eq]
    exact eq_comm

theorem allGe_iff (n : Nat) : ∀ (es : List MapEntry), es.all (fun e => decide (e.born ≥ n)) = allGe n (es.map (·.born))
  | [] => rfl
  | e :: es => by
    simp only [List.all_cons, List.map_cons, allGe, allGe_iff n es]
    congr 1
    rw [Bool.eq_iff_iff]; simp

inductive Rel3 (G : Gh) : List (AV × AV × Nat) → List MapEntry → Prop where
  | nil : Rel3 G [] []
  | cons (k v e l es) : RelV G k e.key → RelV G v e.val → Rel3 G l es → Rel3 G ((k, v, e.born) :: l) (e :: es)

theorem unseen_rel (seen : List Nat) : ∀ {kvs : List (AV × AV)} {es : List MapEntry}, RelKV G kvs es → Rel3 G (unseen seen kvs (es.map (·.born))) (es.filter fun e => !seen.toArray.contains e.born)
  | _, _, .nil => by simp [unseen]; exact .nil
  | _, _, .cons k v e kvs es h1 h2 h3 => by
    simp only [List.map_cons, unseen, List.filter_cons, memN_iff]
    cases h : memN e.born seen with
    | true =>
      have := unseen_rel seen h3
      simp only [memN_iff] at this
      simpa using this
    | false =>
      have := unseen_rel seen h3
      simp only [memN_iff] at this
      simpa using Rel3.cons _ _ _ _ _ h1 h2 this

theorem atStamp_rel (s : Nat) : ∀ {kvs : List (AV × AV)} {es : List MapEntry} {k v : AV}, RelKV G kvs es → atStamp s kvs (es.map (·.born)) = some (k, v) → ∃ e, es.find? (·.born == s) = some e ∧ RelV G k e.key ∧ RelV G v e.val
  | _, _, k, v, .nil, h => by simp [atStamp] at h
  | _, _, k', v', .cons k v e kvs es h1 h2 h3, h => by
    simp only [List.map_cons, atStamp] at h
    split at h
    · rename_i hb
      cases h
      exact ⟨e, by simp [Nat.eq_of_beq_eq_true hb], h1, h2⟩
    · rename_i hb
      obtain ⟨e', q1, q2, q3⟩ := atStamp_rel s h3 h
      refine ⟨e', ?_, q2, q3⟩
      rw [List.find?_cons]
      have : (e.born == s) = false := by
        cases hh : e.born == s with
        | false => rfl
        | true => exact absurd (by rw [eq_of_beq hh]; exact Nat.beq_refl _) hb
      simp [this, q1]

theorem range_ok (hW : W w0 G σ w) {t kt vt : TypeId} (ht : P.underlying t = some (.map kt vt)) {x : AV} {xv : Value} (hx : RelV G x xv) {r : AV} {σ' : St} (h : rangeS σ x = some (r, σ')) :
    ValOk w0 G σ' r ((Instr.range t xv).run P w) := by
  unfold rangeS at h
  cases x <;> simp only [reduceCtorEq] at h
  case nilm =>
    cases h
    cases hx
    obtain ⟨hW', hG⟩ := hW.newObj (.iter .none 0 [] 0) (.mapIter none 0 #[] 0) 0 rfl ⟨w.heap.size, none, by simp [Gh.addρ], hW.below.size, (heap_new w _ _).trans (if_pos rfl), rfl⟩
    refine ⟨.pointer (some ⟨w.heap.size, 0, none⟩), _, _, ?_, hG, hW', .ptr σ.next 0 w.heap.size 0 0 (by simp [Gh.addρ])⟩
    simp [Instr.range, run_underlying ht]
  case mp l =>
    cases hx with
    | mp _ b base tot hρ =>
      split at h
      · rename_i kvs bs ck hl
        cases h
        obtain ⟨b', base', tot', es, h1, h2, h3, h4, h5⟩ := hW.obj _ _ hl
        rw [hρ] at h1; cases h1
        have hfr := hW.fresh σ.next (Nat.le_refl _)
        have hlt := hW.lt hl
        obtain ⟨hW', hG⟩ := hW.newObj (.iter (some l) ck [] ck) (.mapIter (some b) ck #[] ck) 0 rfl
          ⟨w.heap.size, some b, by simp [Gh.addρ], hW.below.size, (heap_new w _ _).trans (if_pos rfl), b, base, tot, rfl, by simp only [Gh.addρ]; rw [if_neg (by omega)]; exact hρ⟩
        refine ⟨.pointer (some ⟨w.heap.size, 0, none⟩), _, _, ?_, hG, hW', .ptr σ.next 0 w.heap.size 0 0 (by simp [Gh.addρ])⟩
        simp [Instr.range, run_underlying ht, getObj_run h3]
      · cases h

theorem getIter_run {r s c : Nat} {m : Option Nat} {seen : Array Nat} (h : w.heap[r]? = some (.mapIter m s seen c)) : (getObj r).run P w = .ok (.mapIter m s seen c) w := by
  simp [getObj, Sem.run, h]

theorem next_ok (hW : W w0 G σ w) {ty : TypeId} {x : AV} {xv : Value} (hx : RelV G x xv) {r : AV} {σ' : St} (h : nextS σ x = some (r, σ')) :
    ValOk w0 G σ' r ((Instr.next xv false ty).run P w) := by
  unfold nextS at h
  split at h
  · rename_i l
    obtain ⟨b, base, tot, rfl, hρ⟩ := hx.ptr_inv
    have over : RelV G (.tup [.bool false]) (.tuple #[.bool false]) := .tup _ _ (.cons _ _ _ _ _ (.bool _) (by simp) (.nil _))
    split at h
    · rename_i s1 s2 s3 hl
      cases h
      obtain ⟨b', mm, h1, h2, h3, rfl⟩ := hW.obj _ _ hl
      rw [hρ] at h1; cases h1
      refine ValOk.pure hW ?_ over
      simp [Instr.next, getIter_run h3]
    · rename_i lm since seen last hl
      obtain ⟨b', mm, h1, h2, h3, bm, base', tot', rfl, hρm⟩ := hW.obj _ _ hl
      rw [hρ] at h1; cases h1
      split at h
      · rename_i kvs bs ck hlm
        obtain ⟨bm', base'', tot'', es, g1, g2, g3, g4, g5⟩ := hW.obj _ _ hlm
        rw [hρm] at g1; cases g1
        split at h
        · cases h
        · rename_i hold
          have hcond : (!seen.toArray.isEmpty && !es.isEmpty && es.all (fun e => decide (e.born ≥ last))) = false := by
            have e1 : seen.toArray.isEmpty = seen.isEmpty := by cases seen <;> rfl
            have e2 : es.isEmpty = bs.isEmpty := by
              rw [← g5]; cases es with | mk l => cases l <;> rfl
            have e3 : es.all (fun e => decide (e.born ≥ last)) = allGe last bs := by
              rw [← g5, ← allGe_iff, Array.all_toList]
            rw [e1, e2, e3, Bool.and_assoc]
            simpa using hold
          have hrel := unseen_rel (G := G) seen g4
          rw [g5] at hrel
          have hfl : (es.filter fun e => !seen.toArray.contains e.born).toList = es.toList.filter fun e => !seen.toArray.contains e.born := by simp
          split at h
          · rename_i hun
            cases h
            rw [hun] at hrel
            have hE : es.filter (fun e => !seen.toArray.contains e.born) = #[] := by
              apply Array.ext'
              rw [hfl]
              generalize (es.toList.filter fun e => !seen.toArray.contains e.born) = L at hrel
              cases hrel; rfl
            refine ValOk.pure hW ?_ over
            simp only [Instr.next, Sem.run_bind, getIter_run h3, getObj_run g3, Result.andThen, hcond, Bool.false_eq_true, if_false, hE]
            simp [choose, Sem.run, Question.forced]
          · rename_i k v bo hun
            split at h
            · rename_i hlt
              cases h
              rw [hun] at hrel
              obtain ⟨e, hE, hk, hv, hbo⟩ : ∃ e, es.filter (fun e => !seen.toArray.contains e.born) = #[e] ∧ RelV G k e.key ∧ RelV G v e.val ∧ e.born = bo := by
                generalize hL : (es.toList.filter fun e => !seen.toArray.contains e.born) = L at hrel
                cases hrel with
                | cons _ _ e _ es' q1 q2 q3 =>
                  cases q3
                  exact ⟨e, Array.ext' (by rw [hfl, hL]), q1, q2, rfl⟩
              subst hbo
              have hlt' : e.born < since := by simpa using hlt
              have hnot : ¬ e.born ≥ since := by omega
              refine ⟨.tuple #[.bool true, e.key, e.val], setBlock w b (.mapIter (some bm) since (seen.toArray.push e.born) ck), G, ?_, Gle.refl G, ?_, ?_⟩
              · simp only [Instr.next, Sem.run_bind, getIter_run h3, getObj_run g3, Result.andThen, hcond, Bool.false_eq_true, if_false, hE]
                simp [choose, Sem.run, Question.forced, hlt', hnot, run_setObj_at h3]
              · have hb := (Array.getElem?_eq_some_iff.1 h3).1
                refine hW.setObj hl rfl rfl (b := b) (by simp [blk, hρ]) (hW.below.trans ⟨rfl, rfl, rfl, by simp [setBlock], fun k hk => ?_⟩) (by simp [setBlock]) (fun k hk => ?_) ?_
                · simp only [setBlock]; rw [Array.getElem?_setIfInBounds_ne (by omega)]
                · simp only [setBlock]; rw [Array.getElem?_setIfInBounds_ne (Ne.symm hk)]
                · exact ⟨b, some bm, hρ, h2, by simp [setBlock, hb], bm, base', tot', rfl, hρm⟩
              · exact .tup _ _ (.cons _ _ _ _ _ (.bool _) (by simp) (.cons _ _ _ _ _ hk (by simp) (.cons _ _ _ _ _ hv (by simp) (.nil _))))
            · cases h
          · cases h
      · cases h
    · cases h
  · cases h

theorem entry_ok (hW : W w0 G σ w) {x : AV} {xv : Value} (hx : RelV G x xv) {r : AV} (h : entryV σ x = some r) :
    ValOk w0 G σ r ((Instr.entry xv).run P w) := by
  unfold entryV at h
  split at h
  · rename_i l
    obtain ⟨b, base, tot, rfl, hρ⟩ := hx.ptr_inv
    split at h
    · rename_i lm since seen last hl
      obtain ⟨b', mm, h1, h2, h3, bm, base', tot', rfl, hρm⟩ := hW.obj _ _ hl
      rw [hρ] at h1; cases h1
      split at h
      · rename_i kvs bs ck s hlm hs
        obtain ⟨bm', base'', tot'', es, g1, g2, g3, g4, g5⟩ := hW.obj _ _ hlm
        rw [hρm] at g1; cases g1
        split at h
        · rename_i hck
          have hck := Nat.eq_of_beq_eq_true hck
          subst hck
          split at h
          · rename_i k v hat
            cases h
            rw [← g5] at hat
            obtain ⟨e, q1, q2, q3⟩ := atStamp_rel s g4 hat
            have hback : seen.toArray.back? = some s := by rw [List.back?_toArray]; exact hs
            have hfind : es.find? (fun x => x.born == s) = some e := by rw [← Array.find?_toList]; exact q1
            refine ValOk.pure (u := .tuple #[e.key, e.val]) hW ?_ (.tup _ _ (.cons _ _ _ _ _ q2 (by simp) (.cons _ _ _ _ _ q3 (by simp) (.nil _))))
            simp [Instr.entry, getIter_run h3, hback, getObj_run g3, hfind]
          · cases h
        · cases h
      · cases h
    · cases h
  · cases h
end Go.AM

namespace Go.AM
set_option linter.all false
open Go.RowKit
variable {P : Program} {w0 : Base} {w : World} {G : Gh} {σ : St}

def zeroChk (P : Program) (t : TypeId) (z : List AV) : Bool := match P.info? t with
  | some i => match i.zero with | some v => cChkL z v.cells.toList | none => false
  | none => false

def convChk (P : Program) (s d : TypeId) : AConv → Bool
  | .int k => (P.underlying s).isSome && (match P.underlying d with | some (.int k') => kindEq k' k | _ => false)
  | .same => (P.underlying s).isSome && (match P.underlying d with | some .string => true | _ => false)
  | .toBytes => (match P.underlying s with | some .string => true | _ => false) && (match P.underlying d with | some (.slice e) => (match P.underlying e with | some (.int .u8) => true | _ => false) | _ => false)
  | .toStr => (match P.underlying d with | some .string => true | _ => false) && (match P.underlying s with | some (.slice e) => (match P.underlying e with | some (.int .u8) => true | _ => false) | _ => false)

/-- Does an abstract operation say what an operation does? (Calls of functions apart.) -/
def opChk (P : Program) : Op → AO → Bool
  | .move x, .mv y => xChk x y
  | .assign x, .mv y => xChk x y
  | .pick c a b, .pick c' a' b' => xChk c c' && xChk a a' && xChk b b'
  | .alloc t, .alloc z => zeroChk P t z
  | .box _ x, .box y => xChk x y
  | .build t ps, .build z qs => zeroChk P t z && (match P.underlying t with
      | some (.struct fs) => fs.toList.all (fun f => (P.info? f.type).isSome) && partsChk ps.toList (fun j => (fs.toList[j]?).map fun (f : Field) => (f.offset, P.cellsOf f.type)) qs
      | _ => false)
  | .buildSlice t len ps, .bsl _ k len' z qs => (match P.underlying t with
      | some (.slice e) => zeroChk P e z && (match P.info? e with
          | some i => i.size.beq k && z.length.beq k && len.beq len' && Nat.ble (len * k) 16777216 && partsChk ps.toList (fun j => some (j * k, k)) qs
          | none => false)
      | _ => false)
  | .load t a, .load1 y => (match P.underlying t with | some d => !aggD d | none => false) && xChk a y
  | .load t a, .loadn n y => (match P.underlying t with | some d => aggD d | none => false) && (match P.info? t with | some i => i.size.beq n | none => false) && xChk a y
  | .store t a v, .store n a' v' => (match P.info? t with | some i => i.size.beq n | none => false) && xChk a a' && xChk v v'
  | .nilCheck x, .nilck y => xChk x y
  | .binOp op t x y _, .bin op' ek x' y' => decide (op = op') && kindT P t ek && xChk x x' && xChk y y'
  | .unOp op _ x, .un op' y => decide (op = op') && xChk x y
  | .convert s d x, .conv c y => convChk P s d c && xChk x y
  | .fieldAddr s x f, .faddr off y => (match P.underlying s with
      | some (.struct fs) => (match fs[f]? with
          | some fd => fd.offset.beq off && (match P.info? fd.type with | some i => !(i.size.beq 0) | none => false)
          | none => false)
      | _ => false) && xChk x y
  | .indexAddr t x i, .iaddr k y j => (match P.underlying t with | some (.slice e) => (match P.info? e with | some i => i.size.beq k | none => false) | _ => false) && xChk x y && xChk i j
  | .indexAddr t x i, .iarr k n y j => (match P.underlying t with | some (.array n' e) => n'.beq n && (match P.info? e with | some i => i.size.beq k | none => false) | _ => false) && xChk x y && xChk i j
  | .index t x i, .sidx y j => (match P.underlying t with | some .string => true | _ => false) && xChk x y && xChk i j
  | .field t x f, .field off n y => (match P.underlying t with
      | some (.struct fs) => (match fs[f]? with
          | some fd => fd.offset.beq off && (match P.underlying fd.type, P.info? fd.type with
              | some d, some i => (match n with | some m => aggD d && m.beq i.size | none => !aggD d)
              | _, _ => false)
          | none => false)
      | _ => false) && xChk x y
  | .slice t x lo hi mx, .slc k y lo' hi' mx' => (match P.underlying t with | some (.slice e) => (match P.info? e with | some i => i.size.beq k | none => false) | _ => false) && xChk x y && xoChk lo lo' && xoChk hi hi' && xoChk mx mx' && (!mx'.isSome || hi'.isSome)
  | .slice t x (some lo) (some hi) none, .slcx k y lo' hi' => (match P.underlying t with | some (.slice e) => (match P.info? e with | some i => i.size.beq k | none => false) | _ => false) && (xChk x y && (xChk lo lo' && xChk hi hi'))
  | .slice t x lo hi none, .sslc y lo' hi' => (match P.underlying t with | some .string => true | _ => false) && xChk x y && xoChk lo lo' && xoChk hi hi'
  | .lookup t m k ok, .look ek z ok' m' k' => (match P.underlying t with
      | some (.map kt vt) => keyT P kt ek && (match P.info? vt with | some i => (match i.zero with | some v => cChk z v | none => false) | none => false)
      | _ => false) && (ok == ok') && xChk m m' && xChk k k'
  | .mapUpdate t m k v, .mapup ek m' k' v' => (match P.underlying t with | some (.map kt _) => keyT P kt ek | _ => false) && xChk m m' && xChk k k' && xChk v v'
  | .makeMap _ none, .mkmap => true
  | .makeSlice t l c, .mksl k bytes z l' c' => (match P.underlying t with
      | some (.slice e) => zeroChk P e z && (match P.info? e with | some i => i.size.beq k && z.length.beq k && i.bytes.beq bytes && Nat.ble 1 bytes | none => false)
      | _ => false) && xChk l l' && xChk c c'
  | .extract x i, .ext y j => xChk x y && i.beq j
  | .makeFunc (.func f) first cap, .mkfn g first' cap' => f.beq g && xsChk first.toList first' && xsChk cap.toList cap'
  | .call { callee := .builtin .len, args, argTypes }, .len ek y => (match args.toList, argTypes[0]? with | [x], some t => kindT P t ek && xChk x y | _, _ => false)
  | .call { callee := .builtin .append, args, argTypes }, .app _ k bytes s x => (match args.toList, argTypes[0]?, argTypes[1]? with
      | [a, b], some t, some t1 => notInt P t1 && (match P.underlying t with
          | some (.slice e) => (match P.info? e with
              | some i => i.size.beq k && i.bytes.beq bytes && Nat.ble 1 bytes && (match i.zero with | some v => v.cells.size.beq k | none => false)
              | none => false)
          | _ => false) && xChk a s && xChk b x
      | _, _, _ => false)
  | .call { callee := .builtin .max, args, argTypes := _ }, .mx xs => xsChk args.toList xs
  | .call { callee := .builtin .min, args, argTypes := _ }, .mn xs => xsChk args.toList xs
  | .call { callee := .builtin .delete, args, argTypes }, .mapdel ek m k => (match args.toList, argTypes[0]? with
      | [a, b], some t => (match P.underlying t with | some (.map kt _) => keyT P kt ek | _ => false) && xChk a m && xChk b k
      | _, _ => false)
  | .call { callee := .builtin .clear, args, argTypes }, .clr k z x => (match args.toList, argTypes[0]? with
      | [a], some t => (match P.underlying t with | some (.slice e) => (match P.info? e with | some i => i.size.beq k | none => false) && (z.length.beq k && zeroChk P e z) | _ => false) && xChk a x
      | _, _ => false)
  | .range t x, .range y => (match P.underlying t with | some (.map _ _) => true | _ => false) && xChk x y
  | .next it false, .next y => xChk it y
  | .entry it, .entry y => xChk it y
  | _, .bad => true
  | _, _ => false

theorem zeroChk_inv {t : TypeId} {z : List AV} (h : zeroChk P t z = true) : ∃ i v, P.info? t = some i ∧ i.zero = some v ∧ cChkL z v.cells.toList = true := by
  unfold zeroChk at h
  split at h
  · rename_i i hi
    split at h
    · rename_i v hv; exact ⟨i, v, hi, hv, h⟩
    · cases h
  · cases h

end Go.AM

namespace Go.AM
set_option linter.all false
open Go.RowKit
variable {P : Program} {w0 : Base} {w : World} {G : Gh} {σ : St}

theorem wrapV_inv {x : Option AV} {v : AV} {σ' : St} (h : wrapV σ x = some (v, σ')) : x = some v ∧ σ' = σ := by
  cases x <;> simp [wrapV] at h
  exact ⟨by rw [h.1], h.2.symm⟩

theorem wrapS_inv {x : Option St} {u v : AV} {σ' : St} (h : wrapS u x = some (v, σ')) : x = some σ' ∧ v = u := by
  cases x <;> simp [wrapS] at h
  exact ⟨by rw [h.2], h.1.symm⟩

theorem val_step {σ' : St} {v : AV} {s : Sem Value} (h : ValOk w0 G σ' v (s.run P w)) : StepOk w0 G σ' v (((do pure (.value (← s)) : Sem Next)).run P w) := h.step

theorem unit_step {σ' : St} {s : Sem Unit} (h : ∃ w', s.run P w = .ok () w' ∧ W w0 G σ' w') : StepOk w0 G σ' .undef (((do s; pure .skip : Sem Next)).run P w) := by
  obtain ⟨w', h1, h2⟩ := h
  exact ⟨Go.undef, w', G, .inr ⟨by simp [h1], rfl⟩, Gle.refl G, h2, .undef _⟩

theorem builtin_step {σ' : St} {v : AV} {b : Builtin} {args : Array Operand} {tys : Array TypeId} {o : Oper} {a : Act} {s : Sem Value} (ho : o.op = .call { callee := .builtin b, args, argTypes := tys })
    (hb : builtin b tys o.type (args.map fun | .const _ => true | _ => false) (args.map a.eval) = do pure (.value (← s))) (h : ValOk w0 G σ' v (s.run P w)) : StepOk w0 G σ' v ((execOp a.eval o).run P w) := by
  have : execOp a.eval o = builtin b tys o.type (args.map fun | .const _ => true | _ => false) (args.map a.eval) := by
    simp only [execOp, ho, resolve, pure_bind, invoke]
    rfl
  rw [this, hb]
  exact h.step

theorem conv_types {s d : TypeId} {c : AConv} (h1 : convChk P s d c = true) : ∃ sd dd, P.underlying s = some sd ∧ P.underlying d = some dd ∧ convT P sd dd c := by
  cases c with
  | int k =>
    simp only [convChk, Bool.and_eq_true] at h1
    obtain ⟨q1, q2⟩ := h1
    obtain ⟨sd, hsd⟩ := Option.isSome_iff_exists.1 q1
    split at q2
    · rename_i k' hk; obtain rfl := kindEq_eq q2; exact ⟨sd, _, hsd, hk, rfl⟩
    · cases q2
  | same =>
    simp only [convChk, Bool.and_eq_true] at h1
    obtain ⟨q1, q2⟩ := h1
    obtain ⟨sd, hsd⟩ := Option.isSome_iff_exists.1 q1
    split at q2
    · rename_i hk; exact ⟨sd, _, hsd, hk, rfl⟩
    · cases q2
  | toBytes =>
    simp only [convChk, Bool.and_eq_true] at h1
    obtain ⟨q1, q2⟩ := h1
    split at q1
    · rename_i hs
      split at q2
      · rename_i e hk
        split at q2
        · rename_i he; exact ⟨_, _, hs, hk, rfl, e, rfl, he⟩
        · cases q2
      · cases q2
    · cases q1
  | toStr =>
    simp only [convChk, Bool.and_eq_true] at h1
    obtain ⟨q1, q2⟩ := h1
    split at q1
    · rename_i hs
      split at q2
      · rename_i e hk
        split at q2
        · rename_i he; exact ⟨_, _, hk, hs, rfl, e, rfl, he⟩
        · cases q2
      · cases q2
    · cases q1

set_option maxHeartbeats 4000000 in
theorem op_sound {calls : Calls'} {o : Oper} {ao : AO} {n : Nat} {fr : Env} {a : Act} {v : AV} {σ' : St} (hchk : opChk P o.op ao = true) (hW : W w0 G σ w) (hF : RelF G n fr a) (h : aOp calls fr σ ao = some (v, σ')) :
    StepOk w0 G σ' v ((execOp a.eval o).run P w) := by
  obtain ⟨dst, op, type, pos, after, guard⟩ := o
  simp only at hchk
  unfold opChk at hchk
  split at hchk
  · cases h; exact StepOk.pure hW (by simp only [execOp, Sem.run_pure]) (xChk_rel hF hchk)
  · cases h; exact StepOk.pure hW (by simp only [execOp, Sem.run_pure]) (xChk_rel hF hchk)
  · -- pick
    simp only [Bool.and_eq_true] at hchk
    obtain ⟨⟨h1, h2⟩, h3⟩ := hchk
    obtain ⟨h', rfl⟩ := wrapV_inv h
    exact pick_ok hW (xChk_rel hF h1) (xChk_rel hF h2) (xChk_rel hF h3) h'
  · -- alloc
    obtain ⟨i, zv, hi, hz, hc⟩ := zeroChk_inv hchk
    cases h
    exact val_step (alloc_ok hW hi hz (cChkL_rel hc))
  · -- box
    simp only [aOp] at h
    split at h
    · rename_i cs hcs
      cases h
      exact val_step (box_ok hW (xChk_rel hF hchk) hcs)
    · cases h
  · -- build
    simp only [Bool.and_eq_true] at hchk
    obtain ⟨hz0, h2⟩ := hchk
    obtain ⟨i, zv, hi, hz, hc⟩ := zeroChk_inv hz0
    split at h2
    · rename_i fs hu
      simp only [Bool.and_eq_true, List.all_eq_true] at h2
      simp only [aOp] at h
      split at h
      · rename_i cs hcs
        cases h
        exact val_step (build_ok hW hF hi hz hu (fun f hf => Option.isSome_iff_exists.1 (h2.1 f hf)) (cChkL_rel hc) h2.2 hcs)
      · cases h
    · cases h2
  · -- buildSlice
    split at hchk
    · rename_i e hu
      simp only [Bool.and_eq_true] at hchk
      obtain ⟨hz0, h2⟩ := hchk
      obtain ⟨i, zv, hi, hz, hc⟩ := zeroChk_inv hz0
      rw [hi] at h2
      simp only [Bool.and_eq_true, Nat.beq_eq, Nat.ble_eq] at h2
      obtain ⟨⟨⟨⟨rfl, h3⟩, rfl⟩, h5⟩, h6⟩ := h2
      have hR := cChkL_rel (G := G) hc
      have hzl : zv.cells.size = i.size := by rw [← h3, hR.length]; simp
      exact val_step (bsl_ok (cs := []) hW hF hu hi hz hzl h5 hR h6 h)
    · cases hchk
  · -- load1
    simp only [Bool.and_eq_true] at hchk
    obtain ⟨h1, h2⟩ := hchk
    split at h1
    · rename_i d hd
      obtain ⟨h', rfl⟩ := wrapV_inv h
      exact val_step (load1_ok hW hd (by simpa using h1) (xChk_rel hF h2) h')
    · cases h1
  · -- loadn
    simp only [Bool.and_eq_true] at hchk
    obtain ⟨⟨h1, h2⟩, h3⟩ := hchk
    split at h1
    · rename_i d hd
      split at h2
      · rename_i i hi
        simp at h2; subst h2
        obtain ⟨h', rfl⟩ := wrapV_inv h
        exact val_step (loadn_ok hW hd h1 hi (xChk_rel hF h3) h')
      · cases h2
    · cases h1
  · -- store
    simp only [Bool.and_eq_true] at hchk
    obtain ⟨⟨h1, h2⟩, h3⟩ := hchk
    split at h1
    · rename_i i hi
      simp at h1; subst h1
      obtain ⟨h', rfl⟩ := wrapS_inv h
      exact unit_step (store_ok hW hi (xChk_rel hF h2) (xChk_rel hF h3) h')
    · cases h1
  · -- nilCheck
    obtain ⟨h', rfl⟩ := wrapV_inv h
    exact nilck_ok hW rfl (xChk_rel hF hchk) h'
  · -- binOp
    simp only [Bool.and_eq_true, decide_eq_true_eq] at hchk
    obtain ⟨⟨⟨rfl, h2⟩, h3⟩, h4⟩ := hchk
    obtain ⟨h', rfl⟩ := wrapV_inv h
    exact val_step (bin_ok hW h2 (xChk_rel hF h3) (xChk_rel hF h4) h')
  · -- unOp
    simp only [Bool.and_eq_true, decide_eq_true_eq] at hchk
    obtain ⟨rfl, h2⟩ := hchk
    obtain ⟨h', rfl⟩ := wrapV_inv h
    exact val_step (un_ok hW (xChk_rel hF h2) h')
  · -- convert
    simp only [Bool.and_eq_true] at hchk
    obtain ⟨h1, h2⟩ := hchk
    obtain ⟨h', rfl⟩ := wrapV_inv h
    obtain ⟨sd, dd, q1, q2, q3⟩ := conv_types h1
    exact val_step (conv_ok hW q1 q2 q3 (xChk_rel hF h2) h')
  · -- fieldAddr
    simp only [Bool.and_eq_true] at hchk
    obtain ⟨h1, h2⟩ := hchk
    split at h1
    · rename_i fs hu
      split at h1
      · rename_i fd hf
        simp only [Bool.and_eq_true, Nat.beq_eq] at h1
        obtain ⟨rfl, h3⟩ := h1
        split at h3
        · rename_i i hi
          obtain ⟨h', rfl⟩ := wrapV_inv h
          have h0 : i.size ≠ 0 := by intro e; rw [e] at h3; simp at h3
          exact val_step (faddr_ok hW hu hf hi h0 (xChk_rel hF h2) h')
        · cases h3
      · cases h1
    · cases h1
  · -- indexAddr of a slice
    simp only [Bool.and_eq_true] at hchk
    obtain ⟨⟨h1, h2⟩, h3⟩ := hchk
    split at h1
    · rename_i e hu
      split at h1
      · rename_i i hi
        simp at h1; subst h1
        obtain ⟨h', rfl⟩ := wrapV_inv h
        exact val_step (iaddr_ok hW hu hi (xChk_rel hF h2) (xChk_rel hF h3) h')
      · cases h1
    · cases h1
  · -- indexAddr of an array
    simp only [Bool.and_eq_true] at hchk
    obtain ⟨⟨h1, h2⟩, h3⟩ := hchk
    split at h1
    · rename_i len e hu
      simp only [Bool.and_eq_true, Nat.beq_eq] at h1
      obtain ⟨rfl, h1⟩ := h1
      split at h1
      · rename_i i hi
        simp at h1; subst h1
        obtain ⟨h', rfl⟩ := wrapV_inv h
        exact val_step (iarr_ok hW hu hi (xChk_rel hF h2) (xChk_rel hF h3) h')
      · cases h1
    · cases h1
  · -- index of a string
    simp only [Bool.and_eq_true] at hchk
    obtain ⟨⟨h1, h2⟩, h3⟩ := hchk
    split at h1
    · rename_i hu
      obtain ⟨h', rfl⟩ := wrapV_inv h
      exact val_step (sidx_ok hW hu (xChk_rel hF h2) (xChk_rel hF h3) h')
    · cases h1
  · -- field
    rename_i t x f off nn y
    simp only [Bool.and_eq_true] at hchk
    obtain ⟨h1, h2⟩ := hchk
    split at h1
    · rename_i fs hu
      split at h1
      · rename_i fd hf
        simp only [Bool.and_eq_true, Nat.beq_eq] at h1
        obtain ⟨rfl, h3⟩ := h1
        split at h3
        · rename_i d i hd hi
          have hn : aggD d = nn.isSome ∧ ∀ m, nn = some m → m = i.size := by
            cases nn with
            | none => simp at h3; simp [h3]
            | some m => simp at h3; simp [h3]
          obtain ⟨h', rfl⟩ := wrapV_inv h
          exact val_step (field_ok hW hu hf hd hi hn.1 hn.2 (xChk_rel hF h2) h')
        · cases h3
      · cases h1
    · cases h1
  · -- slice
    simp only [Bool.and_eq_true] at hchk
    obtain ⟨⟨⟨⟨⟨h1, h2⟩, h3⟩, h4⟩, h5⟩, h6⟩ := hchk
    split at h1
    · rename_i e hu
      split at h1
      · rename_i i hi
        simp at h1; subst h1
        obtain ⟨h', rfl⟩ := wrapV_inv h
        exact val_step (slc_ok hW hF hu hi h3 h4 h5 (fun z => by simpa [z] using h6) (xChk_rel hF h2) h')
      · cases h1
    · cases h1
  · -- slice beyond the length
    simp only [Bool.and_eq_true] at hchk
    obtain ⟨h1, h2, h3, h4⟩ := hchk
    split at h1
    · rename_i e hu
      split at h1
      · rename_i i hi
        simp at h1; subst h1
        obtain ⟨h', rfl⟩ := wrapV_inv h
        exact val_step (slcx_ok hW hF hu hi h3 h4 (xChk_rel hF h2) h')
      · cases h1
    · cases h1
  · -- slice of a string
    simp only [Bool.and_eq_true] at hchk
    obtain ⟨⟨⟨h1, h2⟩, h3⟩, h4⟩ := hchk
    split at h1
    · rename_i hu
      obtain ⟨h', rfl⟩ := wrapV_inv h
      exact val_step (sslc_ok hW hF hu h3 h4 (xChk_rel hF h2) h')
    · cases h1
  · -- lookup
    simp only [Bool.and_eq_true, beq_iff_eq] at hchk
    obtain ⟨⟨⟨h1, rfl⟩, h2⟩, h3⟩ := hchk
    split at h1
    · rename_i kt vt hu
      simp only [Bool.and_eq_true] at h1
      obtain ⟨h1, h4⟩ := h1
      split at h4
      · rename_i i hi
        split at h4
        · rename_i zv hz
          obtain ⟨h', rfl⟩ := wrapV_inv h
          exact val_step (look_ok hW hu h1 hi hz (cChk_rel h4) (xChk_rel hF h2) (xChk_rel hF h3) h')
        · cases h4
      · cases h4
    · cases h1
  · -- mapUpdate
    simp only [Bool.and_eq_true] at hchk
    obtain ⟨⟨⟨h1, h2⟩, h3⟩, h4⟩ := hchk
    split at h1
    · rename_i kt vt hu
      obtain ⟨h', rfl⟩ := wrapS_inv h
      exact unit_step (mapup_ok hW hu h1 (xChk_rel hF h2) (xChk_rel hF h3) (xChk_rel hF h4) h')
    · cases h1
  · -- makeMap
    cases h
    exact val_step (mkmap_ok hW)
  · -- makeSlice
    simp only [Bool.and_eq_true] at hchk
    obtain ⟨⟨h1, h2⟩, h3⟩ := hchk
    split at h1
    · rename_i e hu
      simp only [Bool.and_eq_true] at h1
      obtain ⟨hz0, h4⟩ := h1
      obtain ⟨i, zv, hi, hz, hc⟩ := zeroChk_inv hz0
      rw [hi] at h4
      simp only [Bool.and_eq_true, Nat.beq_eq, Nat.ble_eq] at h4
      obtain ⟨⟨⟨rfl, h5⟩, rfl⟩, h6⟩ := h4
      have hR := cChkL_rel (G := G) hc
      have hzl : zv.cells.size = i.size := by rw [← h5, hR.length]; simp
      exact val_step (mksl_ok hW hu hi hz hzl h6 hR (xChk_rel hF h2) (xChk_rel hF h3) h)
    · cases h1
  · -- extract
    simp only [Bool.and_eq_true, Nat.beq_eq] at hchk
    obtain ⟨h1, rfl⟩ := hchk
    obtain ⟨h', rfl⟩ := wrapV_inv h
    exact val_step (ext_ok hW (xChk_rel hF h1) h')
  · -- makeFunc
    rename_i f first cap g first' cap'
    simp only [Bool.and_eq_true, Nat.beq_eq] at hchk
    obtain ⟨⟨rfl, h2⟩, h3⟩ := hchk
    cases h
    refine StepOk.pure hW (u := .func (.func f) (first.map a.eval) (cap.map a.eval)) (by simp only [execOp, Instr.makeFunc, Sem.run_bind, Sem.run_pure, Result.andThen_ok]) (.fn _ _ _ _ _ ?_ ?_)
    · simpa using xsChk_rel hF h2
    · simpa using xsChk_rel hF h3
  · -- len
    rename_i args tys ek y
    split at hchk
    · rename_i x t hargs ht0
      simp only [Bool.and_eq_true] at hchk
      obtain ⟨h', rfl⟩ := wrapV_inv h
      have hm : args.map a.eval = #[a.eval x] := by apply Array.ext'; simp [hargs]
      exact builtin_step rfl rfl (by rw [hm]; exact len_ok hW ht0 hchk.1 (xChk_rel hF hchk.2) h')
    · cases hchk
  · -- append
    rename_i args tys mt k bytes s x
    split at hchk
    · rename_i x1 x2 t t1 hargs ht0 ht1
      simp only [Bool.and_eq_true] at hchk
      obtain ⟨⟨⟨h1, h2⟩, h3⟩, h4⟩ := hchk
      split at h2
      · rename_i e hu
        split at h2
        · rename_i i hi
          simp only [Bool.and_eq_true, Nat.beq_eq, Nat.ble_eq] at h2
          obtain ⟨⟨⟨rfl, rfl⟩, h5⟩, h6⟩ := h2
          split at h6
          · rename_i zv hz
            simp at h6
            have hm : args.map a.eval = #[a.eval x1, a.eval x2] := by apply Array.ext'; simp [hargs]
            exact builtin_step rfl rfl (by rw [hm]; exact app_ok hW ht0 ht1 h1 hu hi hz h6 h5 (xChk_rel hF h3) (xChk_rel hF h4) h)
          · cases h6
        · cases h2
      · cases h2
    · cases hchk
  · -- max
    rename_i args tys xs
    obtain ⟨h', rfl⟩ := wrapV_inv h
    exact builtin_step rfl rfl (max_ok hW tys type (by simpa using xsChk_rel hF hchk) h')
  · -- min
    rename_i args tys xs
    obtain ⟨h', rfl⟩ := wrapV_inv h
    exact builtin_step rfl rfl (min_ok hW tys type (by simpa using xsChk_rel hF hchk) h')
  · -- delete
    rename_i args tys ek m k
    split at hchk
    · rename_i x1 x2 t hargs ht0
      simp only [Bool.and_eq_true] at hchk
      obtain ⟨⟨h1, h2⟩, h3⟩ := hchk
      split at h1
      · rename_i kt vt hu
        obtain ⟨h', rfl⟩ := wrapS_inv h
        have hm : args.map a.eval = #[a.eval x1, a.eval x2] := by apply Array.ext'; simp [hargs]
        obtain ⟨w', e1, e2⟩ := mapdel_ok (P := P) (ty := type) hW ht0 hu h1 (xChk_rel hF h2) (xChk_rel hF h3) h'
        refine builtin_step rfl rfl (s := Builtin.delete_ tys type (args.map a.eval)) ⟨.tuple #[], w', G, by rw [hm]; exact e1, Gle.refl G, e2, .tup _ _ (.nil _)⟩
      · cases h1
    · cases hchk
  · -- clear
    rename_i args tys k z x
    split at hchk
    · rename_i x1 t hargs ht0
      simp only [Bool.and_eq_true] at hchk
      obtain ⟨h1, h2⟩ := hchk
      split at h1
      · rename_i e hu
        simp only [Bool.and_eq_true] at h1
        obtain ⟨h3, h4, h5⟩ := h1
        obtain ⟨i, zv, hi, hz, hc⟩ := zeroChk_inv h5
        rw [hi] at h3
        simp only [Nat.beq_eq] at h3 h4
        subst h3
        obtain ⟨h', rfl⟩ := wrapS_inv h
        have hm : args.map a.eval = #[a.eval x1] := by apply Array.ext'; simp [hargs]
        obtain ⟨w', e1, e2⟩ := clr_ok (P := P) (ty := type) hW ht0 hu hi hz h4 (cChkL_rel (G := G) hc) (xChk_rel hF h2) h'
        refine builtin_step rfl rfl (s := Builtin.clear_ tys type (args.map a.eval)) ⟨.tuple #[], w', G, by rw [hm]; exact e1, Gle.refl G, e2, .tup _ _ (.nil _)⟩
      · cases h1
    · cases hchk
  · -- range
    simp only [Bool.and_eq_true] at hchk
    obtain ⟨h1, h2⟩ := hchk
    split at h1
    · rename_i kt vt hu
      exact val_step (range_ok hW hu (xChk_rel hF h2) h)
    · cases h1
  · -- next
    exact val_step (next_ok hW (xChk_rel hF hchk) h)
  · -- entry
    obtain ⟨h', rfl⟩ := wrapV_inv h
    exact val_step (entry_ok hW (xChk_rel hF hchk) h')
  · cases h
  · cases hchk
end Go.AM

namespace Go.AM
set_option linter.all false
open Go.RowKit
variable {P : Program} {w0 : Base} {w : World} {G : Gh} {σ : St}

/-- What a call comes to. -/
def CallOk (P : Program) (f : FuncId) (args : List AV) (σ : St) (r : AV) (σ' : St) : Prop :=
  (∀ vs w, (callFunc f vs).run P w = .ok (.enter f vs) w) ∧
  ∀ w0 G w vs, W w0 G σ w → RelL G false args vs.toList → Calls P f vs w (fun e w' => ∃ v G', e = .returned v ∧ Gle G G' ∧ W w0 G' σ' w' ∧ RelV G' r v)

def SoundC (P : Program) (calls : Calls') : Prop := ∀ f args σ r σ', calls f args σ = some (r, σ') → CallOk P f args σ r σ'

def callChk : Op → AO → Bool
  | .call { callee := .value x, args, argTypes := _ }, .call g xs => (match x with | .func f => f.beq g | _ => false) && xsChk args.toList xs
  | .call { callee := .value x, args, argTypes := _ }, .callv g xs => xChk x g && xsChk args.toList xs
  | _, _ => false

theorem put_def (a : Act) (d : Option Nat) (u : Value) : (a.put d u).defers = a.defers := by cases d <;> rfl

theorem RelF.put {G' : Gh} {n : Nat} {fr : Fr} {a : Act} {v : AV} {u : Value} {d : Option Nat} (hG : Gle G G') (hF : RelF G n fr.at a) (hv : RelV G' v u) (hd : ∀ t, d = some t → t < n) : RelF G' n (putDst fr d v).at (a.put d u) := by
  cases d with
  | none => exact hF.mono hG
  | some t =>
    have ht := hd t rfl
    refine ⟨by simp [Act.put, hF.size], fun k => ?_⟩
    simp only [putDst, Fr.at_put, Act.put]
    by_cases hk : t = k
    · subst hk
      rw [if_pos rfl]
      have : (a.tmps.setIfInBounds t u).getD t Go.undef = u := by
        simp [Array.getD, hF.size, ht]
      rw [this]; exact hv
    · rw [if_neg hk]
      have : (a.tmps.setIfInBounds t u).getD k Go.undef = a.tmps.getD k Go.undef := by
        simp only [Array.getD_eq_getD_getElem?, Array.getElem?_setIfInBounds_ne hk]
      rw [this]; exact (hF.slot k).mono hG

theorem call_wp {calls : Calls'} (hC : SoundC P calls) {o : Oper} {a : Act} {f : FuncId} {args : List AV} {vs : Array Value} {r : AV} {σ' : St} {K : Act → World → Prop} {Q : Exit → Act → World → Prop}
    (hrun : (execOp a.eval o).run P w = (callFunc f vs).run P w) (hargs : RelL G false args vs.toList) (hW : W w0 G σ w) (h : calls f args σ = some (r, σ'))
    (hK : ∀ u w' G', Gle G G' → W w0 G' σ' w' → RelV G' r u → K (a.put o.dst u) w') : o.wp P a w K Q := by
  obtain ⟨h1, h2⟩ := hC f args σ r σ' h
  unfold Oper.wp
  rw [hrun, h1 vs w, Oper.upon_enter]
  refine (h2 w0 G w vs hW hargs).mono ?_
  rintro e w' ⟨v, G', rfl, hG, hW', hr⟩
  exact hK v w' G' hG hW' hr

theorem step_wp {calls : Calls'} (hC : SoundC P calls) {o : Oper} {ao : AO} {n : Nat} {fr : Env} {a : Act} {v : AV} {σ' : St} {K : Act → World → Prop} {Q : Exit → Act → World → Prop}
    (hchk : opChk P o.op ao = true ∨ callChk o.op ao = true) (hW : W w0 G σ w) (hF : RelF G n fr a) (h : aOp calls fr σ ao = some (v, σ'))
    (hK : ∀ u w' G', Gle G G' → W w0 G' σ' w' → RelV G' v u → K (a.put o.dst u) w') : o.wp P a w K Q := by
  rcases hchk with hchk | hchk
  · obtain ⟨u, w', G', hr, hG, hW', hv⟩ := op_sound hchk hW hF h
    unfold Oper.wp
    rcases hr with hr | ⟨hr, rfl⟩
    · rw [hr, Oper.upon_value]; exact hK u w' G' hG hW' hv
    · rw [hr, Oper.upon_skip]; exact hK _ w' G' hG hW' hv
  · obtain ⟨dst, op, type, pos, after, guard⟩ := o
    simp only at hchk
    unfold callChk at hchk
    split at hchk
    · rename_i x args tys g xs
      simp only [Bool.and_eq_true] at hchk
      obtain ⟨h1, h2⟩ := hchk
      split at h1
      · rename_i f
        simp at h1; subst h1
        have hR := xsChk_rel hF h2
        refine call_wp hC (f := f) (vs := args.map a.eval) ?_ (by simpa using hR) hW h hK
        simp [execOp, resolve, Deferred.ofValue, Act.eval, invoke]
      · cases h1
    · rename_i x args tys g xs
      simp only [Bool.and_eq_true] at hchk
      obtain ⟨h1, h2⟩ := hchk
      have hx := xChk_rel hF h1
      have hR := xsChk_rel hF h2
      simp only [aOp] at h
      split at h
      · rename_i f first cap hg
        rw [hg] at hx
        generalize hv : a.eval x = xv at hx
        cases hx with
        | fn _ _ _ fs cs q1 q2 =>
          refine call_wp hC (f := f) (vs := fs ++ args.map a.eval ++ cs) ?_ ?_ hW h hK
          · simp [execOp, resolve, hv, Deferred.ofValue, invoke]
          · simp only [Array.toList_append, Array.toList_map]
            exact (q1.append hR).append q2
      · cases h
    · cases hchk

/-- Guards. -/
def guardChk (ops : Array Oper) (n : Nat) (o : Oper) (ao : AOp) : Bool := match o.guard, ao.guard with
  | none, none => true
  | some (j, b), some (t, b') => (match (ops[j]?).bind (·.dst) with | some t' => t'.beq t | none => false) && (b == b') && Nat.blt t n
  | _, _ => false

def oneChk (P : Program) (ops : Array Oper) (n : Nat) (o : Oper) (ao : AOp) : Bool :=
  (opChk P o.op ao.op || callChk o.op ao.op) && guardChk ops n o ao && (match o.dst, ao.dst with | none, none => true | some t, some t' => t.beq t' && Nat.blt t n | _, _ => false)

theorem oneChk_inv {ops : Array Oper} {n : Nat} {o : Oper} {ao : AOp} (h : oneChk P ops n o ao = true) :
    (opChk P o.op ao.op = true ∨ callChk o.op ao.op = true) ∧ guardChk ops n o ao = true ∧ o.dst = ao.dst ∧ ∀ t, ao.dst = some t → t < n := by
  simp only [oneChk, Bool.and_eq_true, Bool.or_eq_true] at h
  obtain ⟨⟨h1, h2⟩, h3⟩ := h
  refine ⟨h1, h2, ?_⟩
  split at h3
  · rename_i e1 e2; rw [e1, e2]; exact ⟨rfl, by simp⟩
  · rename_i t t' e1 e2
    simp only [Bool.and_eq_true, Nat.beq_eq, Nat.blt_eq] at h3
    rw [e1, e2, h3.1]
    exact ⟨rfl, fun k hk => by cases hk; rw [← h3.1]; exact h3.2⟩
  · cases h3

theorem wanted_rel {ops : Array Oper} {n : Nat} {o : Oper} {ao : AOp} {fr : Env} {a : Act} {b : Bool} (hg : guardChk ops n o ao = true) (hF : RelF G n fr a) (h : wanted fr ao.guard = some b) :
    Region.wanted o (yielded ops a.tmps) = b := by
  unfold guardChk at hg
  split at hg
  · rename_i e1 e2
    rw [e2] at h
    simp [wanted] at h
    subst h
    simp [Region.wanted, e1]
  · rename_i j c t c' e1 e2
    simp only [Bool.and_eq_true, beq_iff_eq, Nat.blt_eq] at hg
    obtain ⟨⟨h1, rfl⟩, h3⟩ := hg
    split at h1
    · rename_i t' ht'
      simp at h1; subst h1
      rw [e2] at h
      have hs := hF.slot t'
      have hlt : t' < a.tmps.size := by rw [hF.size]; exact h3
      have hget : a.tmps.getD t' Go.undef = a.tmps[t'] := by simp [Array.getD, hlt]
      have hq : a.tmps[t']? = some a.tmps[t'] := by simp [hlt]
      simp only [Region.wanted, e1, yielded, ht', Option.bind_some, hq]
      simp only [wanted] at h
      split at h
      · rename_i q hfr
        cases h
        rw [hfr, hget] at hs
        rw [hs.bool_inv]
        cases q <;> cases c <;> rfl
      · rename_i hfr
        cases h
        rw [hfr, hget] at hs
        obtain ⟨us, hu, hR⟩ := hs.tup_inv
        rw [hu]
        rfl
      · cases h
    · cases h1
  · cases hg

def opsChk (P : Program) (ops : Array Oper) (n : Nat) : List Oper → List AOp → Bool
  | [], [] => true
  | o :: l, ao :: as => oneChk P ops n o ao && opsChk P ops n l as
  | _, _ => false

theorem aStep_wp {calls : Calls'} (hC : SoundC P calls) {ops : Array Oper} {i : Nat} {o : Oper} {ao : AOp} {n : Nat} {fr : Env} {a : Act} {v : AV} {σ' : St} {K : Act → World → Prop} {Q : Exit → Act → World → Prop}
    (ho : ops[i]? = some o) (hchk : oneChk P ops n o ao = true) (hW : W w0 G σ w) (hF : RelF G n fr a) (h : aStep calls fr σ ao = some (v, σ'))
    (hK : ∀ u w' G', Gle G G' → W w0 G' σ' w' → RelV G' v u → K (a.put o.dst u) w') : wpOp P ops Q i K a w := by
  obtain ⟨h1, h2, h3, h4⟩ := oneChk_inv hchk
  unfold aStep at h
  split at h
  · rename_i hw
    simp only [wpOp, ho, wanted_rel h2 hF hw, if_true]
    exact .inl (step_wp hC h1 hW hF h hK)
  · rename_i hw
    cases h
    simp only [wpOp, ho, wanted_rel h2 hF hw, Bool.false_eq_true, if_false]
    exact hK _ w G (Gle.refl G) hW (.tup [] #[] (.nil _))
  · cases h

theorem ops_wp {calls : Calls'} (hC : SoundC P calls) {ops : Array Oper} {n : Nat} {Q : Exit → Act → World → Prop} {fr' : Fr} {σ' : St} : ∀ (l : List Oper) (as : List AOp) (k : Nat) (G : Gh) (σ : St) (fr : Fr) (a : Act) (w : World),
    (∀ j, l[j]? = ops[k + j]?) → opsChk P ops n l as = true → aOps calls as fr σ = some (fr', σ') → W w0 G σ w → RelF G n fr.at a →
    (∀ a' w' G', a'.defers = a.defers → Gle G G' → W w0 G' σ' w' → RelF G' n fr'.at a' → Q .normal a' w') → wpOps P ops Q (List.range' k l.length) a w
  | [], [], k, G, σ, fr, a, w, _, _, h, hW, hF, hQ => by
    simp [aOps] at h
    obtain ⟨rfl, rfl⟩ := h
    exact hQ a w G rfl (Gle.refl G) hW hF
  | [], _ :: _, _, _, _, _, _, _, _, hc, _, _, _, _ => by simp [opsChk] at hc
  | _ :: _, [], _, _, _, _, _, _, _, hc, _, _, _, _ => by simp [opsChk] at hc
  | o :: l, ao :: as, k, G, σ, fr, a, w, hl, hc, h, hW, hF, hQ => by
    simp only [opsChk, Bool.and_eq_true] at hc
    obtain ⟨hc1, hc2⟩ := hc
    obtain ⟨_, _, hd, hdn⟩ := oneChk_inv hc1
    have h0 : ops[k]? = some o := by simpa using (hl 0).symm
    simp only [aOps] at h
    split at h
    · rename_i v σ1 hs
      simp only [List.length_cons, List.range'_succ, wpOps_cons]
      refine aStep_wp hC h0 hc1 hW hF hs fun u w' G' hG hW' hv => ?_
      rw [hd]
      exact ops_wp hC l as (k + 1) G' σ1 (putDst fr ao.dst v) _ w' (fun j => by have := hl (j + 1); simpa [Nat.add_assoc, Nat.add_comm 1 j] using this) hc2 h hW' (hF.put hG hv hdn)
        fun a' w'' G'' hd' hG' hW'' hF'' => hQ a' w'' G'' (by rw [hd', put_def]) (hG.trans hG') hW'' hF''
    · cases h

theorem region_wp {calls : Calls'} (hC : SoundC P calls) {id : Nat} {ops : Array Oper} {as : List AOp} {n : Nat} {Q : Exit → Act → World → Prop} {fr fr' : Fr} {σ' : St} {a : Act} (hc : opsChk P ops n ops.toList as = true) (h : aOps calls as fr σ = some (fr', σ'))
    (hW : W w0 G σ w) (hF : RelF G n fr.at a) (hQ : ∀ a' w' G', a'.defers = a.defers → Gle G G' → W w0 G' σ' w' → RelF G' n fr'.at a' → Q .normal a' w') : (Code.region id ops false).wp P Q a w := by
  refine wp_region ?_
  have := ops_wp hC ops.toList as 0 G σ fr a w (fun j => by simp) hc h hW hF hQ
  rw [List.range_eq_range']
  simpa using this
end Go.AM

import Derived.Test.YthbkgikjaiaigaaGreatAmOps8
namespace Go.AM
set_option linter.all false
open Go.RowKit
variable {P : Program} {w0 : Base} {w : World} {G : Gh} {σ : St}

theorem keyOk_fit {ek : EK} {k : AV} (h : keyOk ek k = true) : keyFit ek k := by
  cases ek <;> cases k <;> simp_all [keyOk, keyFit]

theorem str_inj {a b : ByteArray} (h : a.data.toList.map UInt8.toNat = b.data.toList.map UInt8.toNat) : a = b := by
  have := (List.map_inj_right (fun x y => UInt8.toNat_inj.1)).1 h
  cases a; cases b
  congr
  exact Array.ext' this

def Simple : Value → Prop
  | .int .. | .string _ | .bool _ => True
  | _ => False

theorem leaf_same {ek : EK} {a b : AV} {u v : Value} (hu : RelV G a u) (hv : RelV G b v) (h : leafEq ek a b = some true) : u = v ∧ Simple u := by
  unfold leafEq at h
  split at h
  · split at h
    · rename_i hk
      obtain rfl := kindEq_eq hk
      simp at h; subst h
      rw [hu.int_inv, hv.int_inv]; exact ⟨rfl, trivial⟩
    · cases h
  · obtain ⟨b1, rfl, e1⟩ := hu.str_inv
    obtain ⟨b2, rfl, e2⟩ := hv.str_inv
    simp only [Option.some.injEq, listEq_eq] at h
    exact ⟨by rw [str_inj (e1.trans (h.trans e2.symm))], trivial⟩
  · simp at h; subst h
    rw [hu.bool_inv, hv.bool_inv]; exact ⟨rfl, trivial⟩
  · cases h

theorem leaves_same : ∀ {ks : List EK} {as bs : List AV} {us vs : List Value}, RelL G true as us → RelL G true bs vs → leavesEq ks as bs = some true → us = vs ∧ ∀ u ∈ us, Simple u
  | [], [], [], _, _, .nil _, .nil _, _ => ⟨rfl, by simp⟩
  | [], [], _ :: _, _, _, _, _, h => by simp [leavesEq] at h
  | [], _ :: _, _, _, _, _, _, h => by simp [leavesEq] at h
  | _ :: _, [], _, _, _, _, _, h => by simp [leavesEq] at h
  | _ :: _, _ :: _, [], _, _, _, _, h => by simp [leavesEq] at h
  | k :: ks, a :: as, b :: bs, _, _, .cons _ _ _ _ _ h1 _ h3, .cons _ _ _ _ _ g1 _ g3, h => by
    simp only [leavesEq] at h
    split at h
    · rename_i p q e1 e2
      simp at h
      obtain ⟨rfl, rfl⟩ := h
      obtain ⟨rfl, s1⟩ := leaf_same h1 g1 e1
      obtain ⟨rfl, s2⟩ := leaves_same h3 g3 e2
      exact ⟨rfl, by simpa [s1] using s2⟩
    · cases h

theorem same_bits {ek : EK} {a b : AV} {u v : Value} (hu : RelV G a u) (hv : RelV G b v) (h : keyEq ek a b = some true) : u = v ∧ Instr.sameBits 10000 u u = true := by
  have simple : ∀ {x : Value} (n : Nat), Simple x → Instr.sameBits n x x = true := by
    intro x n hx; cases x <;> simp [Simple] at hx <;> simp [Instr.sameBits]
    rw [beq_toListBytes]; simp
  unfold keyEq at h
  split at h
  · obtain ⟨us, rfl, r1⟩ := hu.agg_inv
    obtain ⟨vs, rfl, r2⟩ := hv.agg_inv
    obtain ⟨e, s⟩ := leaves_same r1 r2 h
    have : us = vs := Array.ext' e
    subst this
    refine ⟨rfl, ?_⟩
    show Instr.sameBits (9999 + 1) _ _ = true
    simp only [Instr.sameBits, beq_self_eq_true, Bool.true_and, List.all_eq_true]
    intro x hx
    obtain ⟨y, z⟩ := x
    have : y = z ∧ y ∈ us.toList := by
      have := List.of_mem_zip hx
      have h2 : ∀ (l : List Value) (p : Value × Value), p ∈ l.zip l → p.1 = p.2 := by
        intro l; induction l with
        | nil => simp
        | cons q l ih => intro p hp; simp at hp; rcases hp with rfl | hp; exact rfl; exact ih p hp
      exact ⟨h2 _ _ hx, this.1⟩
    obtain ⟨rfl, hm⟩ := this
    exact simple _ (s _ hm)
  · obtain ⟨rfl, s⟩ := leaf_same hu hv h
    exact ⟨rfl, simple _ s⟩

theorem RelKV.set {kvs : List (AV × AV)} {es : List MapEntry} (h : RelKV G kvs es) : ∀ {j : Nat} {k v : AV} {f : MapEntry → MapEntry}, (∀ e, es[j]? = some e → RelV G k (f e).key ∧ RelV G v (f e).val) → RelKV G (kvs.set j (k, v)) (es.modify j f) := by
  induction h with
  | nil => intro j k v f _; simpa using RelKV.nil
  | cons k v e kvs es h1 h2 h3 ih =>
    intro j k' v' f hf
    cases j with
    | zero => obtain ⟨a, b⟩ := hf e (by simp); simpa using RelKV.cons _ _ _ _ _ a b h3
    | succ j => simpa using RelKV.cons _ _ _ _ _ h1 h2 (ih (fun e he => hf e (by simpa using he)))

theorem RelKV.snoc {kvs : List (AV × AV)} {es : List MapEntry} (h : RelKV G kvs es) {k v : AV} {e : MapEntry} (h1 : RelV G k e.key) (h2 : RelV G v e.val) : RelKV G (kvs ++ [(k, v)]) (es ++ [e]) := by
  induction h with
  | nil => exact .cons _ _ _ _ _ h1 h2 .nil
  | cons k v e kvs es a b _ ih => exact .cons _ _ _ _ _ a b ih

theorem RelKV.erase {kvs : List (AV × AV)} {es : List MapEntry} (h : RelKV G kvs es) : ∀ {j : Nat}, RelKV G (kvs.eraseIdx j) (es.eraseIdx j) := by
  induction h with
  | nil => intro j; simpa using RelKV.nil
  | cons k v e kvs es h1 h2 h3 ih =>
    intro j
    cases j with
    | zero => simpa using h3
    | succ j => simpa using RelKV.cons _ _ _ _ _ h1 h2 ih

theorem getObj_run {r : Nat} {es : Array MapEntry} {c : Nat} (h : w.heap[r]? = some (.map es c)) : (getObj r).run P w = .ok (.map es c) w := by
  simp [getObj, Sem.run, h]
theorem setObj_run {r : Nat} {es : Array MapEntry} {c : Nat} (h : w.heap[r]? = some (.map es c)) (o : Obj) : (setObj r o).run P w = .ok () { w with heap := w.heap.setIfInBounds r o } := by
  simp [setObj, Sem.run, h]

/-- A map turns. -/
theorem W.setMap (hW : W w0 G σ w) {l b base tot : Nat} {kvs kvs' : List (AV × AV)} {bs bs' : List Nat} {es es' : Array MapEntry} {c c' : Nat} (hl : σ.get l = some (.map kvs bs c)) (hρ : G.ρ l = some (b, base, tot)) (hh : w.heap[b]? = some (.map es c)) (hR : RelKV G kvs' es'.toList)
    (hb : es'.toList.map (·.born) = bs') :
    W w0 G (σ.put l (.map kvs' bs' c')) { w with heap := w.heap.setIfInBounds b (.map es' c') } := by
  obtain ⟨b', base', tot', es0, h1, h2, h3, h4, h5⟩ := hW.obj l _ hl
  rw [hρ] at h1; cases h1
  have hlt := (Array.getElem?_eq_some_iff.1 h3).1
  have hother : ∀ k, k ≠ b → (w.heap.setIfInBounds b (.map es' c'))[k]? = w.heap[k]? := fun k hk => by
    rw [Array.getElem?_setIfInBounds_ne (Ne.symm hk)]
  refine hW.setObj hl rfl rfl (b := b) (by simp [blk, hρ]) (hW.below.trans ⟨rfl, rfl, rfl, by simp, fun k hk => hother k (by omega)⟩) (by simp) hother ?_
  exact ⟨b, base, tot, es', hρ, h2, by simp [hlt], hR, hb⟩

theorem map_modify_id {α β : Type} {f : α → β} {g : α → α} (h : ∀ x, f (g x) = f x) : ∀ (l : List α) (j : Nat), (l.modify j g).map f = l.map f
  | [], j => by simp
  | x :: l, 0 => by simp [h]
  | x :: l, j + 1 => by simp [map_modify_id h l j]

theorem map_erase {α β : Type} {f : α → β} : ∀ (l : List α) (j : Nat), (l.eraseIdx j).map f = (l.map f).eraseIdx j
  | [], j => by simp
  | x :: l, 0 => by simp
  | x :: l, j + 1 => by simp [map_erase l j]

theorem mapup_ok (hW : W w0 G σ w) {t kt vt : TypeId} {ek : EK} (ht : P.underlying t = some (.map kt vt)) (hk : keyT P kt ek = true) {m key v : AV} {mv kv vv : Value} (hm : RelV G m mv) (hkey : RelV G key kv) (hv : RelV G v vv) {σ' : St}
    (h : mapupS ek σ m key v = some σ') :
    ∃ w', (Instr.mapUpdate t mv kv vv).run P w = .ok () w' ∧ W w0 G σ' w' := by
  unfold mapupS at h
  cases m <;> simp only [reduceCtorEq] at h
  case mp l =>
    split at h
    · rename_i kvs bs c hl
      split at h
      · rename_i hok
        cases hm with
        | mp _ b base tot hρ =>
          obtain ⟨b', base', tot', es, h1, h2, h3, h4, h5⟩ := hW.obj l _ hl
          rw [hρ] at h1; cases h1
          have hc := check_run (P := P) (w := w) hk hkey (e := false) (keyOk_fit hok)
          split at h
          · rename_i j hj
            cases h
            have hf := find_run (P := P) (w := w) hk hkey h4 hj
            obtain ⟨k', v', e1, e2⟩ := idxK_hit hj
            obtain ⟨e, he, r1, r2⟩ := h4.get e1
            obtain ⟨rfl, hs⟩ := same_bits hkey r1 e2
            have he' : es[j]? = some e := by simpa using he
            simp only [Option.bind_some, he, Option.map_some] at hf
            refine ⟨_, by simp [Instr.mapUpdate, run_underlying ht, getObj_run h3, hc, hf, he', Instr.keyThatStays, hs, setObj_run h3]; rfl, ?_⟩
            refine hW.setMap hl hρ h3 ?_ ?_
            · rw [Array.toList_modify]
              refine h4.set fun e' he'' => ?_
              exact ⟨hkey, hv⟩
            · rw [Array.toList_modify, ← h5]
              exact map_modify_id (f := fun (e : MapEntry) => e.born) (g := fun e_1 => { key := e.key, val := vv, born := e_1.born }) (fun _ => rfl) _ _
          · rename_i hj
            cases h
            have hf := find_run (P := P) (w := w) hk hkey h4 hj
            simp only [Option.bind_none] at hf
            refine ⟨_, by simp [Instr.mapUpdate, run_underlying ht, getObj_run h3, hc, hf, setObj_run h3]; rfl, ?_⟩
            exact hW.setMap hl hρ h3 (by simpa using h4.snoc (e := ⟨kv, vv, c⟩) hkey hv) (by simp [← h5])
          · cases h
      · cases h
    · cases h

theorem mapdel_ok (hW : W w0 G σ w) {ts : Array TypeId} {t ty kt vt : TypeId} {ek : EK} (ht0 : ts[0]? = some t) (ht : P.underlying t = some (.map kt vt)) (hk : keyT P kt ek = true) {m key : AV} {mv kv : Value} (hm : RelV G m mv) (hkey : RelV G key kv) {σ' : St}
    (h : mapdelS ek σ m key = some σ') :
    ∃ w', (Builtin.delete_ ts ty #[mv, kv]).run P w = .ok (.tuple #[]) w' ∧ W w0 G σ' w' := by
  unfold mapdelS at h
  cases m <;> simp only [reduceCtorEq] at h
  case mp l =>
    split at h
    · rename_i kvs bs c hl
      split at h
      · rename_i hok
        cases hm with
        | mp _ b base tot hρ =>
          obtain ⟨b', base', tot', es, h1, h2, h3, h4, h5⟩ := hW.obj l _ hl
          rw [hρ] at h1; cases h1
          have hc := check_run (P := P) (w := w) hk hkey (e := es.isEmpty) (keyOk_fit hok)
          split at h
          · rename_i j hj
            cases h
            have hf := find_run (P := P) (w := w) hk hkey h4 hj
            obtain ⟨k', v', e1, e2⟩ := idxK_hit hj
            obtain ⟨e, he, r1, r2⟩ := h4.get e1
            simp only [Option.bind_some, he, Option.map_some] at hf
            refine ⟨_, by simp [Builtin.delete_, ht0, run_underlying ht, getObj_run h3, hc, hf, setObj_run h3]; rfl, ?_⟩
            exact hW.setMap hl hρ h3 (by simpa using h4.erase) (by simp [← h5, map_erase])
          · rename_i hj
            cases h
            have hf := find_run (P := P) (w := w) hk hkey h4 hj
            simp only [Option.bind_none] at hf
            refine ⟨_, by simp [Builtin.delete_, ht0, run_underlying ht, getObj_run h3, hc, hf, setObj_run h3]; rfl, ?_⟩
            exact hW.setMap hl hρ h3 h4 h5
          · cases h
      · cases h
    · cases h

theorem look_ok (hW : W w0 G σ w) {t kt vt : TypeId} {ek : EK} {i : TypeInfo} {zv : Value} (ht : P.underlying t = some (.map kt vt)) (hk : keyT P kt ek = true) (hi : P.info? vt = some i) (hz : i.zero = some zv) {z : AV} (hzr : RelV G z zv) {ok : Bool}
    {m key r : AV} {mv kv : Value} (hm : RelV G m mv) (hkey : RelV G key kv)
    (h : lookV ek z ok σ m key = some r) : ValOk w0 G σ r ((Instr.lookup t mv kv ok).run P w) := by
  unfold lookV at h
  have fin : ∀ {x : AV} {u : Value} {b : Bool}, RelV G x u → RelV G (if ok then AV.tup [x, .bool b] else x) (if ok then .tuple #[u, .bool b] else u) := by
    intro x u b hx
    cases ok
    · exact hx
    · exact .tup _ _ (.cons _ _ _ _ _ hx (by simp) (.cons _ _ _ _ _ (.bool _) (by simp) (.nil _)))
  split at h
  · rename_i hok
    cases m <;> simp only [reduceCtorEq] at h
    case nilm =>
      cases hm
      cases h
      have hc := check_run (P := P) (w := w) hk hkey (e := true) (keyOk_fit hok)
      have hf := find_run (P := P) (w := w) hk hkey (kvs := []) (es := []) .nil (j := none) (by simp [idxK])
      refine ValOk.pure (u := if ok then .tuple #[zv, .bool false] else zv) hW ?_ (fin hzr)
      simp only [Option.bind_none] at hf
      simp [Instr.lookup, run_underlying ht, hc, hf, zeroValue, typeInfo, hi, hz]
    case mp l =>
      cases hm with
      | mp _ b base tot hρ =>
        split at h
        · rename_i v hv
          cases h
          split at hv
          · rename_i kvs bs c hl
            obtain ⟨b', base', tot', es, h1, h2, h3, h4, h5⟩ := hW.obj l _ hl
            rw [hρ] at h1; cases h1
            obtain ⟨j, hj, hr⟩ := findK_idx hv
            have hc := check_run (P := P) (w := w) hk hkey (e := es.isEmpty) (keyOk_fit hok)
            have hf := find_run (P := P) (w := w) hk hkey h4 hj
            cases j with
            | none => simp at hr
            | some j =>
              obtain ⟨k', v', e1, e2⟩ := idxK_hit hj
              obtain ⟨e, he, r1, r2⟩ := h4.get e1
              simp only [Option.bind_some, he, Option.map_some] at hf
              simp [e1] at hr; subst hr
              refine ValOk.pure (u := if ok then .tuple #[e.val, .bool true] else e.val) hW ?_ (fin r2)
              simp [Instr.lookup, run_underlying ht, getObj_run h3, hc, hf]
          · cases hv
        · rename_i hv
          cases h
          split at hv
          · rename_i kvs bs c hl
            obtain ⟨b', base', tot', es, h1, h2, h3, h4, h5⟩ := hW.obj l _ hl
            rw [hρ] at h1; cases h1
            obtain ⟨j, hj, hr⟩ := findK_idx hv
            have hc := check_run (P := P) (w := w) hk hkey (e := es.isEmpty) (keyOk_fit hok)
            have hf := find_run (P := P) (w := w) hk hkey h4 hj
            cases j with
            | none =>
              simp only [Option.bind_none] at hf
              refine ValOk.pure (u := if ok then .tuple #[zv, .bool false] else zv) hW ?_ (fin hzr)
              simp [Instr.lookup, run_underlying ht, getObj_run h3, hc, hf, zeroValue, typeInfo, hi, hz]
            | some j =>
              obtain ⟨k', v', e1, e2⟩ := idxK_hit hj
              simp [e1] at hr
          · cases hv
        · cases h
  · cases h
end Go.AM

/- The abstract machine: AmOps7, AmOps8, AmOps9, AmOps10, AmOps11, AmOps12, AmOps13, AmOps14. -/
import Derived.Test.YthbkgikjaiaigaaGreatAmGb
import Derived.Laws.MakeOwn
import Derived.Test.YthbkgikjaiaigaaGreatAmGa
namespace Go.AM
set_option linter.all false
open Go.RowKit
variable {P : Program} {w0 : Base} {w : World} {G : Gh} {σ : St}

theorem findK_idx {ek : EK} {k : AV} : ∀ {kvs : List (AV × AV)} {r : Option AV}, findK ek k kvs = some r → ∃ j, idxK ek k kvs = some j ∧ r = j.bind (fun j => (kvs[j]?).map (·.2))
  | [], r, h => by simp [findK] at h; subst h; exact ⟨none, rfl, rfl⟩
  | (k', v') :: t, r, h => by
    simp only [findK] at h
    split at h
    · rename_i he; cases h; exact ⟨some 0, by simp [idxK, he], by simp⟩
    · rename_i he
      obtain ⟨j, h1, rfl⟩ := findK_idx h
      refine ⟨j.map (· + 1), by simp [idxK, he, h1], ?_⟩
      cases j <;> simp
    · cases h

theorem updK_idx {ek : EK} {k v : AV} : ∀ {kvs l : List (AV × AV)}, updK ek k v kvs = some l → ∃ j, idxK ek k kvs = some j ∧ l = (match j with | none => kvs ++ [(k, v)] | some j => kvs.set j (k, v))
  | [], l, h => by simp [updK] at h; subst h; exact ⟨none, rfl, rfl⟩
  | (k', v') :: t, l, h => by
    simp only [updK] at h
    split at h
    · rename_i he; cases h; exact ⟨some 0, by simp [idxK, he], by simp⟩
    · rename_i he
      split at h
      · rename_i l' hl
        cases h
        obtain ⟨j, h1, rfl⟩ := updK_idx hl
        refine ⟨j.map (· + 1), by simp [idxK, he, h1], ?_⟩
        cases j <;> simp
      · cases h
    · cases h

theorem delK_idx {ek : EK} {k : AV} : ∀ {kvs l : List (AV × AV)}, delK ek k kvs = some l → ∃ j, idxK ek k kvs = some j ∧ l = (match j with | none => kvs | some j => kvs.eraseIdx j)
  | [], l, h => by simp [delK] at h; subst h; exact ⟨none, rfl, rfl⟩
  | (k', v') :: t, l, h => by
    simp only [delK] at h
    split at h
    · rename_i he; cases h; exact ⟨some 0, by simp [idxK, he], by simp⟩
    · rename_i he
      split at h
      · rename_i l' hl
        cases h
        obtain ⟨j, h1, rfl⟩ := delK_idx hl
        refine ⟨j.map (· + 1), by simp [idxK, he, h1], ?_⟩
        cases j <;> simp
      · cases h
    · cases h

theorem idxK_hit {ek : EK} {k : AV} : ∀ {kvs : List (AV × AV)} {j : Nat}, idxK ek k kvs = some (some j) → ∃ k' v', kvs[j]? = some (k', v') ∧ keyEq ek k k' = some true
  | [], j, h => by simp [idxK] at h
  | (k', v') :: t, j, h => by
    simp only [idxK] at h
    split at h
    · rename_i he; cases h; exact ⟨k', v', by simp, he⟩
    · rename_i he
      cases h1 : idxK ek k t with
      | none => rw [h1] at h; simp at h
      | some j' =>
        rw [h1] at h
        cases j' with
        | none => simp at h
        | some j' =>
          simp at h; subst h
          obtain ⟨a, b, e1, e2⟩ := idxK_hit h1
          exact ⟨a, b, by simpa using e1, e2⟩
    · cases h

/-- What may be a map's key type, by its kind. -/
def keyT (P : Program) (t : TypeId) : EK → Bool
  | .num => match P.underlying t with | some (.int _) => true | _ => false
  | .str => match P.underlying t with | some .string => true | _ => false
  | .agg ks => (match P.underlying t with | some (.struct _) => true | _ => false) && (match flatT P 20 t with | some ks' => kindT.ekL ks ks' | none => false)
  | _ => false

theorem RelKV.get {kvs : List (AV × AV)} {es : List MapEntry} (h : RelKV G kvs es) : ∀ {j : Nat} {k v : AV}, kvs[j]? = some (k, v) → ∃ e, es[j]? = some e ∧ RelV G k e.key ∧ RelV G v e.val := by
  induction h with
  | nil => intro j k v h; simp at h
  | cons k v e kvs es h1 h2 _ ih =>
    intro j k' v' h
    cases j with
    | zero => simp at h; obtain ⟨rfl, rfl⟩ := h; exact ⟨e, by simp, h1, h2⟩
    | succ j => exact ih (by simpa using h)

theorem RelKV.length {kvs : List (AV × AV)} {es : List MapEntry} (h : RelKV G kvs es) : kvs.length = es.length := by
  induction h with
  | nil => rfl
  | cons => simp [*]

/-- '==' of two keys, as findAsking asks it. -/
theorem keyEq_run {t : TypeId} {ek : EK} (ht : keyT P t ek = true) {x y : AV} {u v : Value} (hx : RelV G x u) (hy : RelV G y v) {p : Bool} (h : keyEq ek x y = some p) : (Op.equal t u v).run P w = .ok p w := by
  cases ek <;> simp only [keyT, Bool.false_eq_true] at ht
  case num =>
    split at ht
    · rename_i k hu
      exact leaf_run (d := 9999) (ek := .num) ⟨k, hu⟩ hx hy (by simpa [keyEq] using h)
    · cases ht
  case str =>
    split at ht
    · rename_i hu
      exact leaf_run (d := 9999) (ek := .str) hu hx hy (by simpa [keyEq] using h)
    · cases ht
  case agg ks =>
    simp only [Bool.and_eq_true] at ht
    obtain ⟨h1, h3⟩ := ht
    unfold keyEq at h
    split at h
    · rename_i ks0 as bs heq
      cases heq
      obtain ⟨us, rfl, r1⟩ := hx.agg_inv
      obtain ⟨vs, rfl, r2⟩ := hy.agg_inv
      split at h3
      · rename_i ks' hf
        obtain rfl := ekL_eq h3
        rcases flat_run (P := P) 20 hf r1 r2 h Op.maxDepth (by simp [Op.maxDepth]) with ⟨fs, hu, hrun⟩ | ⟨dd, a, b, hu, hag, _⟩
        · simpa [Op.equal] using hrun
        · split at h1
          · rename_i hu'; rw [hu'] at hu; cases hu; simp [aggD] at hag
          · cases h1
      · cases h3
    · rename_i hne
      simp [leafEq] at h

theorem asking_run {t : TypeId} {ek : EK} (ht : keyT P t ek = true) {k : AV} {kv : Value} (hk : RelV G k kv) : ∀ {kvs : List (AV × AV)} {es : List MapEntry} {j : Option Nat}, RelKV G kvs es → idxK ek k kvs = some j → ∀ i0,
    (Instr.findAsking t kv es i0).run P w = .ok (j.bind fun j => (es[j]?).map fun e => (i0 + j, e.val)) w
  | _, _, j, .nil, h, i0 => by simp [idxK] at h; subst h; simp [Instr.findAsking]
  | _, _, j, .cons k' v' e kvs es h1 h2 h3, h, i0 => by
    simp only [idxK] at h
    split at h
    · rename_i he
      cases h
      have := keyEq_run (P := P) (w := w) ht hk h1 he
      simp [Instr.findAsking, this]
    · rename_i he
      have hq := keyEq_run (P := P) (w := w) ht hk h1 he
      cases h4 : idxK ek k kvs with
      | none => rw [h4] at h; simp at h
      | some j' =>
        rw [h4] at h
        simp at h; subst h
        have ih := asking_run ht hk h3 h4 (i0 + 1)
        simp only [Instr.findAsking, Sem.run_bind, hq, Result.andThen_ok, Bool.false_eq_true, if_false, ih]
        cases j' with
        | none => rfl
        | some j' =>
          simp only [Option.bind_some, Option.map_some, List.getElem?_cons_succ]
          congr 2
          funext e
          congr 1
          omega
    · cases h

theorem now_run {d : TypeDesc} {ek : EK} (hd : match ek with | .num => ∃ k, d = .int k | .str => d = .string | _ => False) {k : AV} {kv : Value} (hk : RelV G k kv) :
    ∀ {kvs : List (AV × AV)} {es : List MapEntry} {j : Option Nat}, RelKV G kvs es → idxK ek k kvs = some j → ∀ i0, Instr.findNow d kv es i0 = some (j.bind fun j => (es[j]?).map fun e => (i0 + j, e.val))
  | _, _, j, .nil, h, i0 => by simp [idxK] at h; subst h; simp [Instr.findNow]
  | _, _, j, .cons k' v' e kvs es h1 h2 h3, h, i0 => by
    have hs : ∀ {p}, keyEq ek k k' = some p → Instr.sameNow d kv e.key = some p := by
      intro p hp
      cases ek <;> simp only at hd
      case num =>
        obtain ⟨kk, rfl⟩ := hd
        simp only [keyEq] at hp
        unfold leafEq at hp
        split at hp <;> (try cases hp)
        · rename_i heq; cases heq
          rw [hk.int_inv, h1.int_inv]
          split at hp
          · rename_i hkk; obtain rfl := kindEq_eq hkk; cases hp; simp [Instr.sameNow]
          · cases hp
        · rename_i heq; cases heq
        · rename_i heq; cases heq
      case str =>
        subst hd
        simp only [keyEq] at hp
        unfold leafEq at hp
        split at hp <;> (try cases hp)
        · rename_i heq; cases heq
        · obtain ⟨b1, e1, e2⟩ := hk.str_inv
          obtain ⟨b2, e3, e4⟩ := h1.str_inv
          rw [e1, e3]
          simp only [Instr.sameNow, str_beq e2 e4]
        · rename_i heq; cases heq
    simp only [idxK] at h
    split at h
    · rename_i he
      cases h
      simp [Instr.findNow, hs he]
    · rename_i he
      cases h4 : idxK ek k kvs with
      | none => rw [h4] at h; simp at h
      | some j' =>
        rw [h4] at h
        simp at h; subst h
        have ih := now_run hd hk h3 h4 (i0 + 1)
        simp only [Instr.findNow, hs he, ih]
        cases j' with
        | none => rfl
        | some j' =>
          simp only [Option.bind_some, Option.map_some, List.getElem?_cons_succ]
          congr 2
          funext e
          congr 1
          omega
    · cases h

theorem find_run {t : TypeId} {ek : EK} (ht : keyT P t ek = true) {k : AV} {kv : Value} (hk : RelV G k kv) {kvs : List (AV × AV)} {es : List MapEntry} {j : Option Nat} (hR : RelKV G kvs es) (h : idxK ek k kvs = some j) :
    (Instr.findKey t kv es).run P w = .ok (j.bind fun j => (es[j]?).map fun e => (j, e.val)) w := by
  have ask := asking_run (P := P) (w := w) ht hk hR h 0
  simp only [Nat.zero_add] at ask
  cases ek <;> simp only [keyT, Bool.false_eq_true] at ht
  case num =>
    split at ht
    · rename_i kk hu
      have := now_run (ek := .num) (d := .int kk) ⟨kk, rfl⟩ hk hR h 0
      simp only [Nat.zero_add] at this
      simp only [Instr.findKey, Sem.run_bind, run_underlying hu, Result.andThen_ok, this, Sem.run_pure]
    · cases ht
  case str =>
    split at ht
    · rename_i hu
      have := now_run (ek := .str) (d := .string) rfl hk hR h 0
      simp only [Nat.zero_add] at this
      simp only [Instr.findKey, Sem.run_bind, run_underlying hu, Result.andThen_ok, this, Sem.run_pure]
    · cases ht
  case agg ks =>
    simp only [Bool.and_eq_true] at ht
    have h1 := ht.1
    split at h1
    · rename_i fs hu
      simp only [Instr.findKey, Sem.run_bind, run_underlying hu, Result.andThen_ok]
      cases hf : Instr.findNow (TypeDesc.struct fs) kv es 0 with
      | none => simp only [hf]; exact ask
      | some r =>
        simp only [hf, Sem.run_pure]
        cases es with
        | nil =>
          cases hR
          simp [idxK] at h; subst h
          simp [Instr.findNow] at hf; subst hf; rfl
        | cons e es => simp [Instr.findNow, Instr.sameNow] at hf
    · cases h1
end Go.AM

namespace Go.AM
set_option linter.all false
open Go.RowKit
variable {P : Program} {w0 : Base} {w : World} {G : Gh} {σ : St}

/-- A loop over fields whose rounds all leave the world alone. -/
theorem fields_run {fs : List Field} {f : Field → PUnit → Sem (ForInStep PUnit)} (h : ∀ x ∈ fs, (f x ⟨⟩).run P w = .ok (.yield ⟨⟩) w) : (forIn fs (⟨⟩ : PUnit) f).run P w = .ok ⟨⟩ w := by
  induction fs with
  | nil => simp
  | cons x fs ih =>
    simp only [List.forIn_cons, Sem.run_bind, h x (by simp), Result.andThen_ok]
    exact ih fun y hy => h y (by simp [hy])

mutual
theorem checkT_run : ∀ (f : Nat) {t : TypeId} {ks : List EK}, flatT P f t = some ks → ∀ {xs : List Value}, xs.length = ks.length → ∀ (e : Bool) (d : Nat), f ≤ d →
    (∀ fs, P.underlying t = some (.struct fs) → (Instr.checkKey e d t (.agg xs.toArray)).run P w = .ok () w) ∧
    (∀ dd, P.underlying t = some dd → aggD dd = false → ∀ x, (Instr.checkKey e d t x).run P w = .ok () w)
  | 0, t, ks, h => by simp [flatT] at h
  | f + 1, t, ks, h => by
    rename_i xs
    intro hl e d hd
    obtain ⟨d, rfl⟩ : ∃ m, d = m + 1 := ⟨d - 1, by omega⟩
    simp only [flatT] at h
    split at h
    · cases h
    · rename_i i hi
      split at h
      · rename_i k hu
        refine ⟨fun fs h' => (by rw [hu] at h'; cases h'), fun dd h' _ x => ?_⟩
        rw [hu] at h'; cases h'
        cases x <;> simp [Instr.checkKey, run_underlying hu]
      · rename_i hu
        refine ⟨fun fs h' => (by rw [hu] at h'; cases h'), fun dd h' _ x => ?_⟩
        rw [hu] at h'; cases h'
        cases x <;> simp [Instr.checkKey, run_underlying hu]
      · rename_i hu
        refine ⟨fun fs h' => (by rw [hu] at h'; cases h'), fun dd h' _ x => ?_⟩
        rw [hu] at h'; cases h'
        cases x <;> simp [Instr.checkKey, run_underlying hu]
      · rename_i fs hu
        refine ⟨fun fs' h' => ?_, fun dd h' hag => (by rw [hu] at h'; cases h'; simp [aggD] at hag)⟩
        split at h
        · have hfs := checkFs_run f h (xs := xs) (by omega) e d (by omega)
          simp only [Instr.checkKey, Sem.run_bind, run_underlying hu, Result.andThen_ok]
          rw [← Array.forIn_toList]
          rw [fields_run (P := P) (w := w)]
          · rfl
          · intro fd hfd
            obtain ⟨v, hp, hc⟩ := hfs fd hfd
            simp only [Sem.run_ite, Sem.run_bind, Sem.run_pure, hp, hc, Result.andThen_ok]
            split <;> rfl
        · cases h
      · cases h
theorem checkFs_run : ∀ (f : Nat) {off : Nat} {fs : List Field} {ks : List EK}, flatFs P f off fs = some ks → ∀ {xs : List Value}, off + ks.length ≤ xs.length → ∀ (e : Bool) (d : Nat), f ≤ d →
    ∀ fd ∈ fs, ∃ v, (part fd.type xs.toArray fd.offset).run P w = .ok v w ∧ (Instr.checkKey e d fd.type v).run P w = .ok () w
  | f, off, [], ks, h => by
    intro _ e d _ fd hfd; simp at hfd
  | 0, off, _ :: _, ks, h => by simp [flatFs] at h
  | f + 1, off, fd :: r, ks, h => by
    rename_i xs
    intro hl e d hd g hg
    simp only [flatFs] at h
    split at h
    · rename_i hn
      obtain ⟨hname, hoff⟩ := hn
      split at h
      · rename_i i k1 hi hT
        split at h
        · rename_i hlen
          split at h
          · rename_i k2 hr
            cases h
            simp only [List.length_append] at hl
            rcases List.mem_cons.1 hg with rfl | hg
            · obtain ⟨c1, c2⟩ := checkT_run f hT (xs := (xs.drop off).take i.size) (by simp only [List.length_take, List.length_drop]; omega) e d (by omega)
              have hT' := hT
              obtain ⟨f', rfl⟩ : ∃ m, f = m + 1 := by cases f with | zero => simp [flatT] at hT | succ m => exact ⟨m, rfl⟩
              simp only [flatT, hi] at hT'
              have leaf : ∀ dd, P.underlying g.type = some dd → aggD dd = false → i.size = 1 → ∃ v, (part g.type xs.toArray g.offset).run P w = .ok v w ∧ (Instr.checkKey e d g.type v).run P w = .ok () w := by
                intro dd hu hag h1
                obtain ⟨v, hv⟩ : ∃ v, xs[off]? = some v := ⟨_, List.getElem?_eq_getElem (by omega)⟩
                exact ⟨v, by rw [hoff]; exact part_leaf hu hag xs off v hv, c2 dd hu hag v⟩
              split at hT'
              · rename_i k hu; split at hT' <;> cases hT'; exact leaf _ hu rfl ‹_›
              · rename_i hu; split at hT' <;> cases hT'; exact leaf _ hu rfl ‹_›
              · rename_i hu; split at hT' <;> cases hT'; exact leaf _ hu rfl ‹_›
              · rename_i fs' hu
                exact ⟨_, by rw [hoff]; exact part_agg hu rfl hi xs off, c1 fs' hu⟩
              · cases hT'
            · exact checkFs_run f hr (xs := xs) (by omega) e d (by omega) g hg
          · cases h
        · cases h
      · cases h
    · cases h
end

def keyFit : EK → AV → Prop
  | .agg ks, .agg cs => cs.length = ks.length
  | .agg _, _ => False
  | _, _ => True

theorem check_run {t : TypeId} {ek : EK} (ht : keyT P t ek = true) {k : AV} {kv : Value} (hk : RelV G k kv) {e : Bool} (hfit : keyFit ek k) :
    (Instr.checkKey e 10000 t kv).run P w = .ok () w := by
  cases ek <;> simp only [keyT, Bool.false_eq_true] at ht
  case num =>
    split at ht
    · rename_i kk hu
      have : ∀ d, (Instr.checkKey e (d + 1) t kv).run P w = .ok () w := fun d => by cases kv <;> simp [Instr.checkKey, run_underlying hu]
      exact this 9999
    · cases ht
  case str =>
    split at ht
    · rename_i hu
      have : ∀ d, (Instr.checkKey e (d + 1) t kv).run P w = .ok () w := fun d => by cases kv <;> simp [Instr.checkKey, run_underlying hu]
      exact this 9999
    · cases ht
  case agg ks =>
    simp only [Bool.and_eq_true] at ht
    obtain ⟨h1, h3⟩ := ht
    cases k <;> simp only [keyFit] at hfit
    case agg cs =>
      obtain ⟨us, rfl, r1⟩ := hk.agg_inv
      split at h3
      · rename_i ks' hf
        obtain rfl := ekL_eq h3
        split at h1
        · rename_i fs hu
          have := (checkT_run (P := P) (w := w) 20 hf (xs := us.toList) (by rw [← r1.length]; exact hfit) e 10000 (by omega)).1 fs hu
          simpa using this
        · cases h1
      · cases h3
end Go.AM

namespace Go.AM
set_option linter.all false
open Go.RowKit
variable {P : Program} {w0 : Base} {w : World} {G : Gh} {σ : St}

theorem keyOk_fit {ek : EK} {k : AV} (h : keyOk ek k = true) : keyFit ek k := by
  cases ek <;> cases k <;> simp_all [keyOk, keyFit]

theorem str_inj {a b : ByteArray} (h : a.data.toList.map UInt8.toNat = b.data.toList.map UInt8.toNat) : a = b := by
  have := (List.map_inj_right (fun x y => UInt8.toNat_inj.1)).1 h
  cases a; cases b
  congr
  exact Array.ext' this

def Simple : Value → Prop
  | .int .. | .string _ | .bool _ => True
  | _ => False

theorem leaf_same {ek : EK} {a b : AV} {u v : Value} (hu : RelV G a u) (hv : RelV G b v) (h : leafEq ek a b = some true) : u = v ∧ Simple u := by
  unfold leafEq at h
  split at h
  · split at h
    · rename_i hk
      obtain rfl := kindEq_eq hk
      simp at h; subst h
      rw [hu.int_inv, hv.int_inv]; exact ⟨rfl, trivial⟩
    · cases h
  · obtain ⟨b1, rfl, e1⟩ := hu.str_inv
    obtain ⟨b2, rfl, e2⟩ := hv.str_inv
    simp only [Option.some.injEq, listEq_eq] at h
    exact ⟨by rw [str_inj (e1.trans (h.trans e2.symm))], trivial⟩
  · simp at h; subst h
    rw [hu.bool_inv, hv.bool_inv]; exact ⟨rfl, trivial⟩
  · cases h

theorem leaves_same : ∀ {ks : List EK} {as bs : List AV} {us vs : List Value}, RelL G true as us → RelL G true bs vs → leavesEq ks as bs = some true → us = vs ∧ ∀ u ∈ us, Simple u
  | [], [], [], _, _, .nil _, .nil _, _ => ⟨rfl, by simp⟩
  | [], [], _ :: _, _, _, _, _, h => by simp [leavesEq] at h
  | [], _ :: _, _, _, _, _, _, h => by simp [leavesEq] at h
  | _ :: _, [], _, _, _, _, _, h => by simp [leavesEq] at h
  | _ :: _, _ :: _, [], _, _, _, _, h => by simp [leavesEq] at h
  | k :: ks, a :: as, b :: bs, _, _, .cons _ _ _ _ _ h1 _ h3, .cons _ _ _ _ _ g1 _ g3, h => by
    simp only [leavesEq] at h
    split at h
    · rename_i p q e1 e2
      simp at h
      obtain ⟨rfl, rfl⟩ := h
      obtain ⟨rfl, s1⟩ := leaf_same h1 g1 e1
      obtain ⟨rfl, s2⟩ := leaves_same h3 g3 e2
      exact ⟨rfl, by simpa [s1] using s2⟩
    · cases h

theorem same_bits {ek : EK} {a b : AV} {u v : Value} (hu : RelV G a u) (hv : RelV G b v) (h : keyEq ek a b = some true) : u = v ∧ Instr.sameBits 10000 u u = true := by
  have simple : ∀ {x : Value} (n : Nat), Simple x → Instr.sameBits n x x = true := by
    intro x n hx; cases x <;> simp [Simple] at hx <;> simp [Instr.sameBits]
    rw [beq_toListBytes]; simp
  unfold keyEq at h
  split at h
  · obtain ⟨us, rfl, r1⟩ := hu.agg_inv
    obtain ⟨vs, rfl, r2⟩ := hv.agg_inv
    obtain ⟨e, s⟩ := leaves_same r1 r2 h
    have : us = vs := Array.ext' e
    subst this
    refine ⟨rfl, ?_⟩
    show Instr.sameBits (9999 + 1) _ _ = true
    simp only [Instr.sameBits, beq_self_eq_true, Bool.true_and, List.all_eq_true]
    intro x hx
    obtain ⟨y, z⟩ := x
    have : y = z ∧ y ∈ us.toList := by
      have := List.of_mem_zip hx
      have h2 : ∀ (l : List Value) (p : Value × Value), p ∈ l.zip l → p.1 = p.2 := by
        intro l; induction l with
        | nil => simp
        | cons q l ih => intro p hp; simp at hp; rcases hp with rfl | hp; exact rfl; exact ih p hp
      exact ⟨h2 _ _ hx, this.1⟩
    obtain ⟨rfl, hm⟩ := this
    exact simple _ (s _ hm)
  · obtain ⟨rfl, s⟩ := leaf_same hu hv h
    exact ⟨rfl, simple _ s⟩

theorem RelKV.set {kvs : List (AV × AV)} {es : List MapEntry} (h : RelKV G kvs es) : ∀ {j : Nat} {k v : AV} {f : MapEntry → MapEntry}, (∀ e, es[j]? = some e → RelV G k (f e).key ∧ RelV G v (f e).val) → RelKV G (kvs.set j (k, v)) (es.modify j f) := by
  induction h with
  | nil => intro j k v f _; simpa using RelKV.nil
  | cons k v e kvs es h1 h2 h3 ih =>
    intro j k' v' f hf
    cases j with
    | zero => obtain ⟨a, b⟩ := hf e (by simp); simpa using RelKV.cons _ _ _ _ _ a b h3
    | succ j => simpa using RelKV.cons _ _ _ _ _ h1 h2 (ih (fun e he => hf e (by simpa using he)))

theorem RelKV.snoc {kvs : List (AV × AV)} {es : List MapEntry} (h : RelKV G kvs es) {k v : AV} {e : MapEntry} (h1 : RelV G k e.key) (h2 : RelV G v e.val) : RelKV G (kvs ++ [(k, v)]) (es ++ [e]) := by
  induction h with
  | nil => exact .cons _ _ _ _ _ h1 h2 .nil
  | cons k v e kvs es a b _ ih => exact .cons _ _ _ _ _ a b ih

theorem RelKV.erase {kvs : List (AV × AV)} {es : List MapEntry} (h : RelKV G kvs es) : ∀ {j : Nat}, RelKV G (kvs.eraseIdx j) (es.eraseIdx j) := by
  induction h with
  | nil => intro j; simpa using RelKV.nil
  | cons k v e kvs es h1 h2 h3 ih =>
    intro j
    cases j with
    | zero => simpa using h3
    | succ j => simpa using RelKV.cons _ _ _ _ _ h1 h2 ih

theorem getObj_run {r : Nat} {es : Array MapEntry} {c : Nat} (h : w.heap[r]? = some (.map es c)) : (getObj r).run P w = .ok (.map es c) w := by
  simp [getObj, Sem.run, h]
theorem setObj_run {r : Nat} {es : Array MapEntry} {c : Nat} (h : w.heap[r]? = some (.map es c)) (o : Obj) : (setObj r o).run P w = .ok () { w with heap := w.heap.setIfInBounds r o } := by
  simp [setObj, Sem.run, h]

/-- A map turns. -/
theorem W.setMap (hW : W w0 G σ w) {l b base tot : Nat} {kvs kvs' : List (AV × AV)} {bs bs' : List Nat} {es es' : Array MapEntry} {c c' : Nat} (hl : σ.get l = some (.map kvs bs c)) (hρ : G.ρ l = some (b, base, tot)) (hh : w.heap[b]? = some (.map es c)) (hR : RelKV G kvs' es'.toList)
    (hb : es'.toList.map (·.born) = bs') :
    W w0 G (σ.put l (.map kvs' bs' c')) { w with heap := w.heap.setIfInBounds b (.map es' c') } := by
  obtain ⟨b', base', tot', es0, h1, h2, h3, h4, h5⟩ := hW.obj l _ hl
  rw [hρ] at h1; cases h1
  have hlt := (Array.getElem?_eq_some_iff.1 h3).1
  have hother : ∀ k, k ≠ b → (w.heap.setIfInBounds b (.map es' c'))[k]? = w.heap[k]? := fun k hk => by
    rw [Array.getElem?_setIfInBounds_ne (Ne.symm hk)]
  refine hW.setObj hl rfl rfl (b := b) (by simp [blk, hρ]) (hW.below.trans ⟨rfl, rfl, rfl, by simp, fun k hk => hother k (by omega)⟩) (by simp) hother ?_
  exact ⟨b, base, tot, es', hρ, h2, by simp [hlt], hR, hb⟩

theorem map_modify_id {α β : Type} {f : α → β} {g : α → α} (h : ∀ x, f (g x) = f x) : ∀ (l : List α) (j : Nat), (l.modify j g).map f = l.map f
  | [], j => by simp
  | x :: l, 0 => by simp [h]
  | x :: l, j + 1 => by simp [map_modify_id h l j]

theorem map_erase {α β : Type} {f : α → β} : ∀ (l : List α) (j : Nat), (l.eraseIdx j).map f = (l.map f).eraseIdx j
  | [], j => by simp
  | x :: l, 0 => by simp
  | x :: l, j + 1 => by simp [map_erase l j]

theorem mapup_ok (hW : W w0 G σ w) {t kt vt : TypeId} {ek : EK} (ht : P.underlying t = some (.map kt vt)) (hk : keyT P kt ek = true) {m key v : AV} {mv kv vv : Value} (hm : RelV G m mv) (hkey : RelV G key kv) (hv : RelV G v vv) {σ' : St}
    (h : mapupS ek σ m key v = some σ') :
    ∃ w', (Instr.mapUpdate t mv kv vv).run P w = .ok () w' ∧ W w0 G σ' w' := by
  unfold mapupS at h
  cases m <;> simp only [reduceCtorEq] at h
  case mp l =>
    split at h
    · rename_i kvs bs c hl
      split at h
      · rename_i hok
        cases hm with
        | mp _ b base tot hρ =>
          obtain ⟨b', base', tot', es, h1, h2, h3, h4, h5⟩ := hW.obj l _ hl
          rw [hρ] at h1; cases h1
          have hc := check_run (P := P) (w := w) hk hkey (e := false) (keyOk_fit hok)
          split at h
          · rename_i j hj
            cases h
            have hf := find_run (P := P) (w := w) hk hkey h4 hj
            obtain ⟨k', v', e1, e2⟩ := idxK_hit hj
            obtain ⟨e, he, r1, r2⟩ := h4.get e1
            obtain ⟨rfl, hs⟩ := same_bits hkey r1 e2
            have he' : es[j]? = some e := by simpa using he
            simp only [Option.bind_some, he, Option.map_some] at hf
            refine ⟨_, by simp [Instr.mapUpdate, run_underlying ht, getObj_run h3, hc, hf, he', Instr.keyThatStays, hs, setObj_run h3]; rfl, ?_⟩
            refine hW.setMap hl hρ h3 ?_ ?_
            · rw [Array.toList_modify]
              refine h4.set fun e' he'' => ?_
              exact ⟨hkey, hv⟩
            · rw [Array.toList_modify, ← h5]
              exact map_modify_id (f := fun (e : MapEntry) => e.born) (g := fun e_1 => { key := e.key, val := vv, born := e_1.born }) (fun _ => rfl) _ _
          · rename_i hj
            cases h
            have hf := find_run (P := P) (w := w) hk hkey h4 hj
            simp only [Option.bind_none] at hf
            refine ⟨_, by simp [Instr.mapUpdate, run_underlying ht, getObj_run h3, hc, hf, setObj_run h3]; rfl, ?_⟩
            exact hW.setMap hl hρ h3 (by simpa using h4.snoc (e := ⟨kv, vv, c⟩) hkey hv) (by simp [← h5])
          · cases h
      · cases h
    · cases h

theorem mapdel_ok (hW : W w0 G σ w) {ts : Array TypeId} {t ty kt vt : TypeId} {ek : EK} (ht0 : ts[0]? = some t) (ht : P.underlying t = some (.map kt vt)) (hk : keyT P kt ek = true) {m key : AV} {mv kv : Value} (hm : RelV G m mv) (hkey : RelV G key kv) {σ' : St}
    (h : mapdelS ek σ m key = some σ') :
    ∃ w', (Builtin.delete_ ts ty #[mv, kv]).run P w = .ok (.tuple #[]) w' ∧ W w0 G σ' w' := by
  unfold mapdelS at h
  cases m <;> simp only [reduceCtorEq] at h
  case mp l =>
    split at h
    · rename_i kvs bs c hl
      split at h
      · rename_i hok
        cases hm with
        | mp _ b base tot hρ =>
          obtain ⟨b', base', tot', es, h1, h2, h3, h4, h5⟩ := hW.obj l _ hl
          rw [hρ] at h1; cases h1
          have hc := check_run (P := P) (w := w) hk hkey (e := es.isEmpty) (keyOk_fit hok)
          split at h
          · rename_i j hj
            cases h
            have hf := find_run (P := P) (w := w) hk hkey h4 hj
            obtain ⟨k', v', e1, e2⟩ := idxK_hit hj
            obtain ⟨e, he, r1, r2⟩ := h4.get e1
            simp only [Option.bind_some, he, Option.map_some] at hf
            refine ⟨_, by simp [Builtin.delete_, ht0, run_underlying ht, getObj_run h3, hc, hf, setObj_run h3]; rfl, ?_⟩
            exact hW.setMap hl hρ h3 (by simpa using h4.erase) (by simp [← h5, map_erase])
          · rename_i hj
            cases h
            have hf := find_run (P := P) (w := w) hk hkey h4 hj
            simp only [Option.bind_none] at hf
            refine ⟨_, by simp [Builtin.delete_, ht0, run_underlying ht, getObj_run h3, hc, hf, setObj_run h3]; rfl, ?_⟩
            exact hW.setMap hl hρ h3 h4 h5
          · cases h
      · cases h
    · cases h

theorem look_ok (hW : W w0 G σ w) {t kt vt : TypeId} {ek : EK} {i : TypeInfo} {zv : Value} (ht : P.underlying t = some (.map kt vt)) (hk : keyT P kt ek = true) (hi : P.info? vt = some i) (hz : i.zero = some zv) {z : AV} (hzr : RelV G z zv) {ok : Bool}
    {m key r : AV} {mv kv : Value} (hm : RelV G m mv) (hkey : RelV G key kv)
    (h : lookV ek z ok σ m key = some r) : ValOk w0 G σ r ((Instr.lookup t mv kv ok).run P w) := by
  unfold lookV at h
  have fin : ∀ {x : AV} {u : Value} {b : Bool}, RelV G x u → RelV G (if ok then AV.tup [x, .bool b] else x) (if ok then .tuple #[u, .bool b] else u) := by
    intro x u b hx
    cases ok
    · exact hx
    · exact .tup _ _ (.cons _ _ _ _ _ hx (by simp) (.cons _ _ _ _ _ (.bool _) (by simp) (.nil _)))
  split at h
  · rename_i hok
    cases m <;> simp only [reduceCtorEq] at h
    case nilm =>
      cases hm
      cases h
      have hc := check_run (P := P) (w := w) hk hkey (e := true) (keyOk_fit hok)
      have hf := find_run (P := P) (w := w) hk hkey (kvs := []) (es := []) .nil (j := none) (by simp [idxK])
      refine ValOk.pure (u := if ok then .tuple #[zv, .bool false] else zv) hW ?_ (fin hzr)
      simp only [Option.bind_none] at hf
      simp [Instr.lookup, run_underlying ht, hc, hf, zeroValue, typeInfo, hi, hz]
    case mp l =>
      cases hm with
      | mp _ b base tot hρ =>
        split at h
        · rename_i v hv
          cases h
          split at hv
          · rename_i kvs bs c hl
            obtain ⟨b', base', tot', es, h1, h2, h3, h4, h5⟩ := hW.obj l _ hl
            rw [hρ] at h1; cases h1
            obtain ⟨j, hj, hr⟩ := findK_idx hv
            have hc := check_run (P := P) (w := w) hk hkey (e := es.isEmpty) (keyOk_fit hok)
            have hf := find_run (P := P) (w := w) hk hkey h4 hj
            cases j with
            | none => simp at hr
            | some j =>
              obtain ⟨k', v', e1, e2⟩ := idxK_hit hj
              obtain ⟨e, he, r1, r2⟩ := h4.get e1
              simp only [Option.bind_some, he, Option.map_some] at hf
              simp [e1] at hr; subst hr
              refine ValOk.pure (u := if ok then .tuple #[e.val, .bool true] else e.val) hW ?_ (fin r2)
              simp [Instr.lookup, run_underlying ht, getObj_run h3, hc, hf]
          · cases hv
        · rename_i hv
          cases h
          split at hv
          · rename_i kvs bs c hl
            obtain ⟨b', base', tot', es, h1, h2, h3, h4, h5⟩ := hW.obj l _ hl
            rw [hρ] at h1; cases h1
            obtain ⟨j, hj, hr⟩ := findK_idx hv
            have hc := check_run (P := P) (w := w) hk hkey (e := es.isEmpty) (keyOk_fit hok)
            have hf := find_run (P := P) (w := w) hk hkey h4 hj
            cases j with
            | none =>
              simp only [Option.bind_none] at hf
              refine ValOk.pure (u := if ok then .tuple #[zv, .bool false] else zv) hW ?_ (fin hzr)
              simp [Instr.lookup, run_underlying ht, getObj_run h3, hc, hf, zeroValue, typeInfo, hi, hz]
            | some j =>
              obtain ⟨k', v', e1, e2⟩ := idxK_hit hj
              simp [e1] at hr
          · cases hv
        · cases h
  · cases h
end Go.AM

namespace Go.AM
set_option linter.all false
open Go.RowKit
variable {P : Program} {w0 : Base} {w : World} {G : Gh} {σ : St}

theorem list_write {α : Type} (C us : List α) (base off len : Nat) (h1 : base + len ≤ C.length) (h2 : off + us.length ≤ len) :
    ((C.take (base + off) ++ us ++ C.drop (base + off + us.length)).drop base).take len = ((C.drop base).take len).take off ++ us ++ ((C.drop base).take len).drop (off + us.length) := by
  have e1 : (C.take (base + off) ++ us ++ C.drop (base + off + us.length)).drop base = (C.drop base).take off ++ (us ++ (C.drop base).drop (off + us.length)) := by
    rw [List.append_assoc, List.drop_append_of_le_length (by simp; omega), List.drop_take, List.drop_drop, show base + off - base = off from by omega, show base + off + us.length = base + (off + us.length) from by omega]
  have l1 : ((C.drop base).take off).length = off := by simp only [List.length_take, List.length_drop]; omega
  have e2 : ((C.drop base).take off ++ (us ++ (C.drop base).drop (off + us.length))).take len = (C.drop base).take off ++ (us ++ ((C.drop base).drop (off + us.length)).take (len - off - us.length)) := by
    rw [List.take_append, l1, List.take_of_length_le (l := (C.drop base).take off) (by omega), List.take_append, List.take_of_length_le (l := us) (by omega)]
  rw [e1, e2, List.take_take, Nat.min_eq_left (by omega), List.append_assoc, List.drop_take, Nat.sub_sub]

theorem RelL.fill {b : Bool} {cs vs : List AV} {ds us : List Value} {off : Nat} (h : RelL G b cs ds) (hv : RelL G b vs us) : RelL G b (fillAt cs off vs) (ds.take off ++ us ++ ds.drop (off + us.length)) := by
  unfold fillAt
  rw [hv.length]
  exact ((h.take off).append hv).append (h.drop _)

theorem fillAt_length {cs vs : List AV} {off : Nat} (h : off + vs.length ≤ cs.length) : (fillAt cs off vs).length = cs.length := by
  simp [fillAt]; omega

theorem store_ok (hW : W w0 G σ w) {t : TypeId} {i : TypeInfo} (hi : P.info? t = some i) {x y : AV} {xv yv : Value} (hx : RelV G x xv) (hy : RelV G y yv) {σ' : St}
    (h : storeS i.size σ x y = some σ') : ∃ w', (Instr.storeAt t xv yv).run P w = .ok () w' ∧ W w0 G σ' w' := by
  unfold storeS at h
  cases x <;> simp only [reduceCtorEq] at h
  case ptr l off =>
    obtain ⟨b, base, tot, rfl, hρ⟩ := hx.ptr_inv
    split at h
    · rename_i cs hl
      split at h
      · rename_i vs hvs
        split at h
        · rename_i hc
          cases h
          have hR := hy.cellsO hvs
          obtain ⟨b', base', tot', c, el, h1, h2, h3, h4, h5, h6⟩ := hW.obj l _ hl
          rw [hρ] at h1; cases h1
          have hlv : yv.cells.toList.length = i.size := by rw [← hR.length]; exact hc.1
          have hlv' : yv.cells.size = i.size := by simpa using hlv
          have hcl : c.toList.length = tot := by simpa using h4
          have hst := run_storeCells_at P b (base + off) el yv.cells.toList 0 c w h3 (by rw [hlv]; omega) hR.ones
          simp only [Nat.add_zero] at hst
          refine ⟨_, by simp only [Instr.storeAt, Instr.sureAddr, Sem.run_bind, Sem.run_pure, Result.andThen_ok, storeVar, size_run hi, hlv', ne_eq, not_true, if_false]; exact hst, ?_⟩
          have hlt := (Array.getElem?_eq_some_iff.1 h3).1
          have hrow := setRow_heap w b c (c.toList.take (base + off) ++ yv.cells.toList ++ c.toList.drop (base + off + yv.cells.toList.length)).toArray el _ h3
          refine hW.setObj hl rfl rfl (b := b) (by simp [blk, hρ]) (Below.setRow hW.below h2 _) (by simp) (fun k hk => setRow_other w b k _ hk) ?_
          refine ⟨b, base, tot, _, el, hρ, h2, hrow, ?_, ?_, ?_⟩
          · simp only [List.size_toArray, List.length_append, List.length_take, List.length_drop]; omega
          · rw [fillAt_length (by omega)]; exact h5
          · rw [fillAt_length (by omega), List.toList_toArray, list_write _ _ _ _ _ (by omega) (by omega)]
            exact h6.fill hR
        · cases h
      · cases h
    · cases h

theorem newVar_ok (hW : W w0 G σ w) {t : TypeId} {cs : List AV} {v : Value} (hR : RelL G true cs v.cells.toList) :
    ValOk w0 G (σ.new (.cells cs)) (.ptr σ.next 0) ((do pure (.pointer (some (← newVar t v))) : Sem Value).run P w) := by
  have hfr := hW.fresh σ.next (Nat.le_refl _)
  obtain ⟨hW', hG⟩ := hW.newObj (.cells cs) (.cells v.cells t) v.cells.size rfl (by
    refine ⟨w.heap.size, 0, v.cells.size, v.cells, t, by simp [Gh.addρ], hW.below.size, (heap_new w _ _).trans (if_pos rfl), rfl, ?_, ?_⟩
    · rw [Nat.zero_add, hR.length]; simp
    · have := hR.mono (Gle.addρ (x := (w.heap.size, 0, v.cells.size)) hfr.2.1)
      rw [List.drop_zero, List.take_of_length_le (by rw [hR.length]; exact Nat.le_refl _)]
      exact this)
  refine ⟨.pointer (some ⟨w.heap.size, 0, none⟩), _, _, ?_, hG, hW', ?_⟩
  · simp [newVar, newRow]
  · exact .ptr σ.next 0 w.heap.size 0 v.cells.size (by simp [Gh.addρ])

theorem alloc_ok (hW : W w0 G σ w) {t : TypeId} {i : TypeInfo} {zv : Value} (hi : P.info? t = some i) (hz : i.zero = some zv) {z : List AV} (hzr : RelL G true z zv.cells.toList) :
    ValOk w0 G (σ.new (.cells z)) (.ptr σ.next 0) ((Instr.alloc t true (.tuple #[])).run P w) := by
  have := newVar_ok (P := P) hW (t := t) hzr
  simp only [Instr.alloc, Sem.run_bind, zeroValue, typeInfo, run_program, hi, hz, Sem.run_pure, Result.andThen_ok]
  simpa using this

theorem box_ok (hW : W w0 G σ w) {t : TypeId} {x : AV} {v : Value} {cs : List AV} (hx : RelV G x v) (hc : x.cellsO = some cs) :
    ValOk w0 G (σ.new (.cells cs)) (.ptr σ.next 0) ((Instr.box t v).run P w) := newVar_ok (P := P) hW (hx.cellsO hc)

theorem mkmap_ok (hW : W w0 G σ w) {t : TypeId} : ValOk w0 G (σ.new (.map [] [] 0)) (.mp σ.next) ((Instr.makeMap t none).run P w) := by
  obtain ⟨hW', hG⟩ := hW.newObj (.map [] [] 0) (.map #[] 0) 0 rfl ⟨w.heap.size, 0, 0, #[], by simp [Gh.addρ], hW.below.size, (heap_new w _ _).trans (if_pos rfl), .nil, rfl⟩
  refine ⟨.map (some w.heap.size), _, _, ?_, hG, hW', .mp σ.next w.heap.size 0 0 (by simp [Gh.addρ])⟩
  simp [Instr.makeMap]

theorem len_ok (hW : W w0 G σ w) {ts : Array TypeId} {t ty : TypeId} {ek : EK} (ht0 : ts[0]? = some t) (hk : kindT P t ek = true) {x : AV} {v : Value} (hx : RelV G x v) {r : AV} (h : lenV ek σ x = some r) :
    ValOk w0 G σ r ((Builtin.len_ ts ty #[v]).run P w) := by
  obtain ⟨n, h', rfl⟩ : ∃ n, aLen ek σ x = some n ∧ r = .int .i64 n := by unfold lenV at h; split at h <;> simp_all
  replace h := h'
  clear h'
  unfold aLen at h
  split at h
  · simp only [kindT] at hk
    split at hk
    · rename_i hu
      obtain ⟨b, rfl, hb⟩ := hx.str_inv
      cases h
      refine ValOk.pure (u := .int .i64 b.size) hW ?_ ?_
      · simp [Builtin.len_, ht0, run_underlying hu, goInt]
      · rw [← hb, List.length_map, Array.length_toList]; exact .int _ _
    · cases hk
  · simp only [kindT] at hk
    split at hk
    · rename_i e hu
      cases hx; cases h
      exact ValOk.pure hW (by simp [Builtin.len_, ht0, run_underlying hu, goInt]) (.int _ _)
    · cases hk
  · simp only [kindT] at hk
    split at hk
    · rename_i e hu
      cases h
      have : ∃ a cap, v = .slice a n cap := by cases hx <;> exact ⟨_, _, rfl⟩
      obtain ⟨a, cap, rfl⟩ := this
      exact ValOk.pure hW (by simp [Builtin.len_, ht0, run_underlying hu, goInt]) (.int _ _)
    · cases hk
  · simp only [kindT] at hk
    split at hk
    · rename_i e hu
      cases h
      have : ∃ a cap, v = .slice a n cap := by cases hx <;> exact ⟨_, _, rfl⟩
      obtain ⟨a, cap, rfl⟩ := this
      exact ValOk.pure hW (by simp [Builtin.len_, ht0, run_underlying hu, goInt]) (.int _ _)
    · cases hk
  · simp only [kindT] at hk
    split at hk
    · rename_i a b hu
      cases hx; cases h
      exact ValOk.pure hW (by simp [Builtin.len_, ht0, run_underlying hu, goInt]) (.int _ _)
    · cases hk
  · simp only [kindT] at hk
    split at hk
    · rename_i a b hu
      cases hx with
      | mp _ b base tot hρ =>
        split at h
        · rename_i kvs bs c hl
          cases h
          obtain ⟨b', base', tot', es, h1, h2, h3, h4, h5⟩ := hW.obj _ _ hl
          rw [hρ] at h1; cases h1
          have hlen : kvs.length = es.size := by rw [h4.length]; simp
          refine ValOk.pure (u := .int .i64 es.size) hW ?_ (by rw [hlen]; exact .int _ _)
          simp [Builtin.len_, ht0, run_underlying hu, goInt, getObj_run h3]
        · cases h
    · cases hk
  · cases h

theorem foldl_set (cells : Array Value) : ∀ (vs : List Value) (off : Nat) (j : Nat) (acc : Array Value), off + j + vs.length ≤ acc.size →
    ((vs.zipIdx j).foldl (fun cs (c, j) => cs.setIfInBounds (off + j) c) acc).toList = acc.toList.take (off + j) ++ vs ++ acc.toList.drop (off + j + vs.length)
  | [], off, j, acc, h => by simp
  | v :: vs, off, j, acc, h => by
    simp only [List.zipIdx_cons, List.foldl_cons]
    simp only [List.length_cons] at h
    rw [foldl_set cells vs off (j + 1) (acc.setIfInBounds (off + j) v) (by simp; omega)]
    simp only [Array.toList_setIfInBounds, List.length_cons]
    have hl : off + j < acc.toList.length := by simp; omega
    have e1 : (acc.toList.set (off + j) v).take (off + (j + 1)) = acc.toList.take (off + j) ++ [v] := by
      rw [show off + (j + 1) = off + j + 1 from by omega, List.take_succ_eq_append_getElem (by simpa using hl), List.getElem_set_self, List.take_set_of_le (Nat.le_refl _)]
    have e2 : (acc.toList.set (off + j) v).drop (off + (j + 1) + vs.length) = acc.toList.drop (off + j + (vs.length + 1)) := by
      rw [List.drop_set_of_lt (by omega)]
      congr 1
      omega
    rw [e1, e2]
    simp

/-- The parts of a composite: what is asked of a text. -/
def partsChk : List (Nat × Operand) → (Nat → Option (Nat × Nat)) → List (Nat × Nat × AX) → Bool
  | [], _, [] => true
  | (i, o) :: ps, place, (off, size, x) :: qs => (match place i with | some (a, b) => a.beq off && b.beq size | none => false) && xChk o x && partsChk ps place qs
  | _, _, _ => false

theorem fill_run {n : Nat} {fr : Env} {a : Act} (hF : RelF G n fr a) (place : Nat → Option (Nat × Nat)) : ∀ {ps : List (Nat × Operand)} {qs : List (Nat × Nat × AX)} {z cs : List AV} {cells : Array Value}, partsChk ps place qs = true → RelL G true z cells.toList →
    fillAll fr z qs = some cs → ∃ cells', Instr.fill place cells (ps.map fun (i, x) => (i, a.eval x)) = some cells' ∧ RelL G true cs cells'.toList
  | [], [], z, cs, cells, _, hz, h => by simp [fillAll] at h; subst h; exact ⟨cells, by simp [Instr.fill], hz⟩
  | [], _ :: _, _, _, _, hc, _, _ => by simp [partsChk] at hc
  | _ :: _, [], _, _, _, hc, _, _ => by simp [partsChk] at hc
  | (i, o) :: ps, (off, size, x) :: qs, z, cs, cells, hc, hz, h => by
    simp only [partsChk, Bool.and_eq_true] at hc
    obtain ⟨⟨hp, hx⟩, hrest⟩ := hc
    split at hp
    · rename_i a' b' hpl
      simp at hp
      obtain ⟨rfl, rfl⟩ := hp
      simp only [fillAll] at h
      split at h
      · rename_i vs hvs
        split at h
        · rename_i hcond
          have hR := (xChk_rel hF hx).cellsO hvs
          have hl : (a.eval o).cells.size = b' := by rw [← hcond.1, hR.length]; simp
          have hzl : z.length = cells.size := by rw [hz.length]; simp
          obtain ⟨cells', h1, h2⟩ := fill_run hF place (cells := (a.eval o).cells.zipIdx.foldl (fun cs (c, j) => cs.setIfInBounds (a' + j) c) cells) hrest (by
            rw [← Array.foldl_toList, Array.toList_zipIdx, foldl_set cells _ a' 0 cells (by simp; omega)]
            exact hz.fill hR) h
          refine ⟨cells', ?_, h2⟩
          simp only [List.map_cons, Instr.fill, hpl]
          rw [if_neg (by simp; omega)]
          exact h1
        · cases h
      · cases h
    · cases hp
end Go.AM

namespace Go.AM
set_option linter.all false
open Go.RowKit
variable {P : Program} {w0 : Base} {w : World} {G : Gh} {σ : St}

theorem places_run {fs : List Field} (h : ∀ f ∈ fs, ∃ i, P.info? f.type = some i) :
    (fs.mapM (m := Sem) fun f => do pure (f.offset, ← sizeOf f.type)).run P w = .ok (fs.map fun f => (f.offset, P.cellsOf f.type)) w := by
  induction fs with
  | nil => simp
  | cons f fs ih =>
    obtain ⟨i, hi⟩ := h f (by simp)
    have := ih fun g hg => h g (by simp [hg])
    simp only [List.mapM_cons, Sem.run_bind, size_run hi, Result.andThen_ok, Sem.run_pure, this, List.map_cons]
    simp [Program.cellsOf, hi]

theorem build_ok (hW : W w0 G σ w) {n : Nat} {fr : Env} {a : Act} (hF : RelF G n fr a) {t : TypeId} {i : TypeInfo} {fs : Array Field} {zv : Value} (hi : P.info? t = some i) (hz : i.zero = some zv) (hu : P.underlying t = some (.struct fs))
    (hfs : ∀ f ∈ fs.toList, ∃ i, P.info? f.type = some i) {z cs : List AV} (hzr : RelL G true z zv.cells.toList) {ps : Array (Nat × Operand)} {qs : List (Nat × Nat × AX)}
    (hc : partsChk ps.toList (fun j => (fs.toList[j]?).map fun (f : Field) => (f.offset, P.cellsOf f.type)) qs = true) (h : fillAll fr z qs = some cs) :
    ValOk w0 G σ (.agg cs) ((Instr.build t (ps.map fun (i, x) => (i, a.eval x))).run P w) := by
  obtain ⟨cells', h1, h2⟩ := fill_run hF _ (cells := zv.cells) hc hzr h
  refine ValOk.pure (u := .agg cells') hW ?_ (.agg _ _ h2)
  have hpl := places_run (P := P) (w := w) hfs
  simp only [Instr.build, Sem.run_bind, zeroValue, typeInfo, run_program, hi, hz, Sem.run_pure, Result.andThen_ok, run_underlying hu]
  rw [Array.mapM_eq_mapM_toList]
  simp only [Sem.run_map, hpl, Result.andThen_ok]
  have e : (fun (x : Nat) => (fs.toList.map fun (f : Field) => (f.offset, P.cellsOf f.type)).toArray[x]?) = fun (j : Nat) => (fs.toList[j]?).map fun (f : Field) => (f.offset, P.cellsOf f.type) := by
    funext j; simp
  have e2 : ((ps.map fun (i, x) => (i, a.eval x)).toList) = ps.toList.map fun (i, x) => (i, a.eval x) := by simp
  rw [e, e2, h1]
  rfl

theorem rep_list (z : List Value) : ∀ n, (List.range (n * z.length)).map (fun j => z[j % z.length]!) = (List.replicate n z).flatten
  | 0 => by simp
  | n + 1 => by
    rw [Nat.succ_mul, List.range_add, List.map_append, rep_list z n, List.replicate_succ', List.flatten_append, List.map_map]
    congr 1
    simp only [List.flatten_cons, List.flatten_nil, List.append_nil]
    apply List.ext_getElem?
    intro i
    by_cases h : i < z.length
    · simp [h, Nat.mod_eq_of_lt h]
    · simp [h]

theorem rep_rel {z : List AV} {zs : List Value} (h : RelL G true z zs) : ∀ n, RelL G true (rep z n) (List.replicate n zs).flatten
  | 0 => .nil _
  | n + 1 => by simpa [rep, List.replicate_succ] using h.append (rep_rel h n)

theorem rep_length (z : List AV) : ∀ n, (rep z n).length = n * z.length
  | 0 => by simp [rep]
  | n + 1 => by simp [rep, rep_length z n, Nat.succ_mul, Nat.add_comm]

theorem fillAll_length {fr : Env} : ∀ {qs : List (Nat × Nat × AX)} {z cs : List AV}, fillAll fr z qs = some cs → cs.length = z.length
  | [], z, cs, h => by simp [fillAll] at h; rw [h]
  | (off, size, x) :: qs, z, cs, h => by
    simp only [fillAll] at h
    split at h
    · split at h
      · rename_i hc
        rw [fillAll_length h, fillAt_length (by omega)]
      · cases h
    · cases h

/-- A literal slice: fixed. -/
theorem bsl_ok (hW : W w0 G σ w) {n : Nat} {fr : Env} {a : Act} (hF : RelF G n fr a) {t e : TypeId} {i : TypeInfo} {zv : Value} (ht : P.underlying t = some (.slice e)) (hi : P.info? e = some i) (hz : i.zero = some zv) (hzl : zv.cells.size = i.size)
    {len : Nat} (hb : len * i.size ≤ 16777216) {z cs : List AV} (hzr : RelL G true z zv.cells.toList) {ps : Array (Nat × Operand)} {qs : List (Nat × Nat × AX)} {mt : Bool}
    (hc : partsChk ps.toList (fun j => some (j * i.size, i.size)) qs = true) {r : AV} {σ' : St} (h : bslS mt i.size len z fr σ qs = some (r, σ')) :
    ValOk w0 G σ' r ((Instr.buildSlice t len (ps.map fun (i, x) => (i, a.eval x))).run P w) := by
  unfold bslS at h
  split at h
  · rename_i cs hfa
    have hzlist : zv.cells.toList.length = i.size := by simpa using hzl
    have hzz : z.length = i.size := by rw [hzr.length]; exact hzlist
    obtain ⟨cells', h1, h2⟩ := fill_run hF _ (cells := (List.replicate len zv.cells.toList).flatten.toArray) hc (by simpa using rep_rel hzr len) hfa
    have hcl : cs.length = len * i.size := by rw [fillAll_length hfa, rep_length, hzz]
    have hcs : cells'.size = len * i.size := by rw [← hcl, h2.length]; simp
    have hmade : madeCells zv.cells (len * i.size) = (List.replicate len zv.cells.toList).flatten.toArray := by
      apply Array.ext'
      have := rep_list zv.cells.toList len
      rw [hzlist] at this
      simp only [madeCells, Array.toList_map, Array.toList_range, ← this, hzl]
      apply List.map_congr_left
      intro x _
      rw [getElem!_def, List.getElem!_eq_getElem?_getD, Array.getElem?_toList]
      cases zv.cells[x % i.size]? <;> rfl
    rw [← hmade] at h1
    have hrun0 : (Instr.buildSlice t len (ps.map fun (i, x) => (i, a.eval x))).run P w = .ok (.slice (some ⟨w.heap.size, 0, none⟩) len len) (w.alloc (.cells cells' e)) := by
      have hif : ¬ (len * i.size > 2 ^ 24) := by omega
      have e2 : ((ps.map fun (i, x) => (i, a.eval x)).toList) = ps.toList.map fun (i, x) => (i, a.eval x) := by simp
      have hfin : ∀ zero : Array Value, ((Array.range (len * i.size)).map fun x => zero[x % zero.size]!) = madeCells zv.cells (len * i.size) →
          (match Instr.fill (fun j => some (j * i.size, i.size)) ((Array.range (len * i.size)).map fun x => zero[x % zero.size]!) (ps.map fun (i, x) => (i, a.eval x)).toList with
          | some cells => do pure (.slice (some (← newRow e cells)) len len)
          | _ => stuck "buildSlice: a part of the wrong size" : Sem Value).run P w = .ok (.slice (some ⟨w.heap.size, 0, none⟩) len len) (w.alloc (.cells cells' e)) := by
        intro zero hz'
        rw [hz', e2, h1]
        simp [newRow]
      simp only [Instr.buildSlice, Sem.run_bind, run_underlying ht, Result.andThen_ok, size_run hi, if_neg hif, Sem.run_pure]
      by_cases h0 : len * i.size = 0
      · simp only [if_pos h0, Sem.run_bind, Sem.run_pure, Result.andThen_ok]
        exact hfin #[] (by simp [h0, madeCells, Array.range_zero'])
      · simp only [if_neg h0, Sem.run_bind, Sem.run_pure, Result.andThen_ok, zeroValue, typeInfo, run_program, hi, hz]
        exact hfin zv.cells rfl
    cases mt with
    | true =>
      simp only [if_true, Option.some.injEq, Prod.mk.injEq] at h
      obtain ⟨rfl, rfl⟩ := h
      have hfr := hW.fresh σ.next (Nat.le_refl _)
      obtain ⟨hW', hG⟩ := hW.newObj (.cells cs) (.cells cells' e) cells'.size rfl (by
        refine ⟨w.heap.size, 0, cells'.size, cells', e, by simp [Gh.addρ], hW.below.size, (heap_new w _ _).trans (if_pos rfl), rfl, ?_, ?_⟩
        · rw [Nat.zero_add, h2.length]; simp
        · rw [List.drop_zero, List.take_of_length_le (by rw [h2.length]; exact Nat.le_refl _)]
          exact h2.mono (Gle.addρ (x := (w.heap.size, 0, cells'.size)) hfr.2.1))
      refine ⟨_, _, _, hrun0, hG, hW', .ms i.size σ.next 0 len w.heap.size 0 cells'.size len (by simp [Gh.addρ]) (Nat.le_refl _) (by omega)⟩
    | false =>
      simp only [Bool.false_eq_true, if_false, Option.some.injEq, Prod.mk.injEq] at h
      obtain ⟨rfl, rfl⟩ := h
      obtain ⟨hW', hG⟩ := hW.newFix cells' e (0, 0) cells'.toList (List.prefix_refl _)
      refine ⟨_, _, _, hrun0, hG, hW', .sl i.size .exact len cs w.heap.size 0 cells'.toList cells'.size len (Nat.le_refl _) hcl (by omega) (by simp [Gh.addΓ]) ?_ rfl⟩
      rw [List.drop_zero, List.take_of_length_le (by rw [h2.length]; exact Nat.le_refl _)]
      exact h2.mono hG
  · cases h
end Go.AM

namespace Go.AM
set_option linter.all false
open Go.RowKit
variable {P : Program} {w0 : Base} {w : World} {G : Gh} {σ : St}

def notInt (P : Program) (t : TypeId) : Bool := match P.underlying t with | some (.slice _) | some .string => true | _ => false

theorem notInt_cases {t1 : TypeId} (hn : notInt P t1 = true) : (∃ e', P.underlying t1 = some (.slice e')) ∨ P.underlying t1 = some .string := by
  unfold notInt at hn
  split at hn
  · rename_i e hu; exact .inl ⟨e, hu⟩
  · rename_i hu; exact .inr hu
  · cases hn

theorem cell_heap {w w' : World} (h : w'.heap = w.heap) (a : Addr) : w'.cell? a = w.cell? a := by simp [World.cell?, h]

/-- The new cells of an append. -/
theorem first_run (hW : W w0 G σ w) {k n : Nat} {x : AV} {v : Value} {xs : List AV} (hx : RelV G x v) (h : view k σ x = some (n, xs)) :
    ∃ us, RelL G true xs us ∧ xs.length = n * k ∧ ∀ w', w'.heap = w.heap → (Builtin.firstCells k n v).run P w' = .ok us.toArray w' ∧ (Builtin.lenOf v).run P w' = .ok n w' := by
  obtain ⟨hl, us, hR, hc⟩ := view_rel hW hx h
  refine ⟨us, hR, hl, fun w' hw' => ⟨?_, ?_⟩⟩
  · rcases hc with ⟨b, rfl, hb, rfl⟩ | ⟨rfl, rfl, a, cap, rfl⟩ | ⟨a, cap, rfl, hcell⟩
    · subst hb
      simp only [Builtin.firstCells, Sem.run_pure]
      congr 1
      apply Array.ext'
      simp
    · cases a with
      | none => simp [Builtin.firstCells]
      | some a => simp [Builtin.firstCells, loadCells, loadCellsFrom]
    · have hr := run_loadCells_list (P := P) w' a us (fun j u hj => by rw [cell_heap hw']; exact hcell j u hj)
      rw [← hR.length, hl] at hr
      simpa [Builtin.firstCells] using hr
  · rcases hc with ⟨b, rfl, hb, rfl⟩ | ⟨rfl, rfl, a, cap, rfl⟩ | ⟨a, cap, rfl, hcell⟩
    · simp [Builtin.lenOf, hb]
    · simp [Builtin.lenOf]
    · simp [Builtin.lenOf]

section
variable {ts : Array TypeId} {t ty t1 e : TypeId} {i : TypeInfo} {zv : Value}

theorem append_zero (ht0 : ts[0]? = some t) (ht1 : ts[1]? = some t1) (hn : notInt P t1 = true) (ht : P.underlying t = some (.slice e)) (hi : P.info? e = some i) {base : Option Addr} {len cap : Nat} {v : Value} {us : List Value}
    (hle : len ≤ cap) (hf : (Builtin.firstCells i.size 0 v).run P w = .ok us.toArray w) (hl : (Builtin.lenOf v).run P w = .ok 0 w) (hu : us = []) :
    (Builtin.append_ ts ty #[.slice base len cap, v]).run P w = .ok (.slice base len cap) w := by
  subst hu
  rcases notInt_cases hn with ⟨e', hu⟩ | hu <;> cases base <;> simp [Builtin.append_, ht0, ht1, run_underlying ht, run_underlying hu, size_run hi, hl, hle, hf, storeCells]

theorem append_room (ht0 : ts[0]? = some t) (ht1 : ts[1]? = some t1) (hn : notInt P t1 = true) (ht : P.underlying t = some (.slice e)) (hi : P.info? e = some i) {b off len cap n : Nat} {v : Value} {us : List Value} {c : Array Value} {el : TypeId}
    (hroom : len + n ≤ cap) (hf : (Builtin.firstCells i.size n v).run P w = .ok us.toArray w) (hl : (Builtin.lenOf v).run P w = .ok n w) (hc : w.heap[b]? = some (.cells c el (0, 0)))
    (hfit : off + len * i.size + us.length ≤ c.size) (h1 : ∀ u ∈ us, u.oneCell' = true) :
    (Builtin.append_ ts ty #[.slice (some ⟨b, off, none⟩) len cap, v]).run P w = .ok (.slice (some ⟨b, off, none⟩) (len + n) cap)
      (w.setRow b (c.toList.take (off + len * i.size) ++ us ++ c.toList.drop (off + len * i.size + us.length)).toArray) := by
  have hst := run_storeCells_at P b (off + len * i.size) el us 0 c w hc (by omega) h1
  simp only [Nat.add_zero] at hst
  rcases notInt_cases hn with ⟨e', hu⟩ | hu <;> simp [Builtin.append_, ht0, ht1, run_underlying ht, run_underlying hu, size_run hi, hl, hroom, hf, add_lit, hst]

theorem append_grow (ht0 : ts[0]? = some t) (ht1 : ts[1]? = some t1) (hn : notInt P t1 = true) (ht : P.underlying t = some (.slice e)) (hi : P.info? e = some i) (hzv : i.zero = some zv) {base : Option Addr} {len cap n : Nat} {v : Value} {us os : List Value}
    (hgrow : cap < len + n) (hl : (Builtin.lenOf v).run P w = .ok n w) (ho : (Builtin.firstCells i.size len (.slice base len cap)).run P w.drew = .ok os.toArray w.drew)
    (hf' : (Builtin.firstCells i.size n v).run P w.drew = .ok us.toArray w.drew) (hb1 : len + n ≤ 1099511627776) (hb2 : (len + n) * i.bytes ≤ 1099511627776) :
    (Builtin.append_ ts ty #[.slice base len cap, v]).run P w = .ok (.slice (some ⟨w.heap.size, 0, none⟩) (len + n) (grownCap w (len + n) cap e))
      (w.drew.alloc (.cells ((os ++ us).toArray ++ Builtin.zeroCells zv.cells (grownCap w (len + n) cap e - (len + n))) e)) := by
  have n1 : ¬ len + n ≤ cap := by omega
  have n2 : ¬ (9223372036854775807 < (len : Int) + (n : Int)) := by omega
  have n3 : ¬ (Builtin.nextslicecap (len + n) cap * i.bytes > 2 ^ 48) := by
    have := growslice_fits (need := len + n) (old := cap) (bytes := i.bytes) hgrow (by omega)
    omega
  have n3' : ¬ (281474976710656 < Builtin.nextslicecap (len + n) cap * i.bytes) := by omega
  have hask : ∀ (m : Nat) (w : World), (askRoom m).run P w = .ok () w := by
    intro m w
    unfold askRoom
    split <;> simp [mark, Sem.run]
  rcases notInt_cases hn with ⟨e', hu⟩ | hu <;>
    simp [Builtin.append_, ht0, ht1, run_underlying ht, run_underlying hu, size_run hi, hl, n1, n2, n3', typeInfo, hi, Question.forced, grownCap, ho, hf', zeroValue, hzv, newRow, hask, ← List.append_toArray]
end

theorem zeroCells_size (z : Array Value) (m : Nat) : (Builtin.zeroCells z m).size = m * z.size := by simp [Builtin.zeroCells]

theorem list_ms {α : Type} (C us : List α) (A M : Nat) (hA : A + M + us.length ≤ C.length) :
    ((C.take (A + M) ++ us ++ C.drop (A + M + us.length)).drop A).take (M + us.length) = (C.drop A).take M ++ us := by
  have l1 : (C.take (A + M)).length = A + M := by simp only [List.length_take]; omega
  have l2 : ((C.drop A).take M).length = M := by simp only [List.length_take, List.length_drop]; omega
  rw [List.append_assoc, List.drop_append_of_le_length (by omega), List.drop_take, show A + M - A = M from by omega, List.take_append, l2, List.take_of_length_le (l := (C.drop A).take M) (by omega),
    show M + us.length - M = us.length from by omega, List.take_append_of_le_length (Nat.le_refl _), List.take_of_length_le (Nat.le_refl _)]

theorem app_ok (hW : W w0 G σ w) {ts : Array TypeId} {t ty t1 e : TypeId} {i : TypeInfo} {zv : Value} (ht0 : ts[0]? = some t) (ht1 : ts[1]? = some t1) (hn : notInt P t1 = true) (ht : P.underlying t = some (.slice e)) (hi : P.info? e = some i) (hzv : i.zero = some zv) (hzl : zv.cells.size = i.size) (hby : 1 ≤ i.bytes)
    {s x r : AV} {sv xv : Value} {mt : Bool} {σ' : St} (hs : RelV G s sv) (hx : RelV G x xv) (h : aApp mt i.size i.bytes σ s x = some (r, σ')) :
    ValOk w0 G σ' r ((Builtin.append_ ts ty #[sv, xv]).run P w) := by
  unfold aApp at h
  split at h
  · cases h
  · rename_i n xs hv
    obtain ⟨us, hR, hxl, hfl⟩ := first_run (P := P) hW hx hv
    have hf := (hfl w rfl).1
    have hl := (hfl w rfl).2
    have hf' := (hfl w.drew rfl).1
    split at h
    · -- nothing is appended
      rename_i hn0
      subst hn0
      have hxs : xs = [] := List.eq_nil_of_length_eq_zero (by simpa using hxl)
      have hus : us = [] := List.eq_nil_of_length_eq_zero (by rw [← hR.length, hxs]; rfl)
      have fin : ∀ {base len cap}, sv = .slice base len cap → len ≤ cap → r = s → σ' = σ → ValOk w0 G σ' r ((Builtin.append_ ts ty #[sv, xv]).run P w) := by
        rintro base len cap rfl hle rfl rfl
        exact ValOk.pure hW (append_zero ht0 ht1 hn ht hi hle hf hl hus) hs
      split at h
      · cases h; cases hs; exact fin rfl (Nat.le_refl _) rfl rfl
      · split at h
        · cases h
          cases hs with
          | sl0 => exact fin rfl (Nat.zero_le _) rfl rfl
          | slx => exact fin rfl (Nat.le_refl _) rfl rfl
          | sl _ _ _ _ _ _ _ _ _ q => exact fin rfl q rfl rfl
        · cases h
      · cases h
        cases hs with
        | ms _ _ _ _ _ _ _ _ _ q => exact fin rfl q rfl rfl
      · cases h
    · rename_i hn0
      have hnpos : 0 < n := by omega
      -- the array grows: a new block
      have grow : ∀ {base : Option Addr} {len cap : Nat} {os : List Value} {cs : List AV}, sv = .slice base len cap → cap < len + n → (len + n) * i.bytes ≤ room → len + n ≤ room →
          RelL G true cs os → cs.length = len * i.size → (∀ w', w'.heap = w.heap → (Builtin.firstCells i.size len (.slice base len cap)).run P w' = .ok os.toArray w') →
          ∃ cap' c, len + n ≤ cap' ∧ (Builtin.append_ ts ty #[sv, xv]).run P w = .ok (.slice (some ⟨w.heap.size, 0, none⟩) (len + n) cap') (w.drew.alloc (.cells c e)) ∧ c.size = cap' * i.size ∧
            (os ++ us) <+: c.toList ∧ (cs ++ xs).length = (len + n) * i.size ∧ (os ++ us).length = (len + n) * i.size := by
        rintro base len cap os cs rfl hg hb hb' hRo hol ho
        have hrun := append_grow (ty := ty) ht0 ht1 hn ht hi hzv hg hl (ho w.drew rfl) hf' (by unfold room at hb'; omega) (by unfold room at hb; omega)
        have hge := grownCap_ge w (len + n) cap e
        have l1 : (os ++ us).length = (len + n) * i.size := by
          rw [List.length_append, ← hRo.length, ← hR.length, hol, hxl, Nat.add_mul]
        refine ⟨_, _, hge, hrun, ?_, ⟨(Builtin.zeroCells zv.cells (grownCap w (len + n) cap e - (len + n))).toList, by simp⟩, ?_, l1⟩
        · rw [Array.size_append, List.size_toArray, l1, zeroCells_size, hzl, ← Nat.add_mul]
          congr 1; omega
        · rw [List.length_append, hol, hxl, Nat.add_mul]
      -- what the new block is good for
      have fixed : ∀ {c : Array Value} {cs : List AV} {os : List Value} {len cap' : Nat}, c.size = cap' * i.size → (os ++ us) <+: c.toList → RelL G true cs os → len + n ≤ cap' → (cs ++ xs).length = (len + n) * i.size → (os ++ us).length = (len + n) * i.size →
          W w0 ((G.addΓ w.heap.size (os ++ us, c.size))) σ (w.drew.alloc (.cells c e)) ∧ Gle G (G.addΓ w.heap.size (os ++ us, c.size)) ∧ RelL (G.addΓ w.heap.size (os ++ us, c.size)) true (cs ++ xs) (((os ++ us).drop 0).take (cs ++ xs).length) := by
        intro c cs os len cap' h1 h2 h3 h4 h5 h6
        obtain ⟨hW', hG⟩ := hW.drew.newFix c e (0, 0) (os ++ us) h2
        refine ⟨hW', hG, ?_⟩
        rw [List.drop_zero, List.take_of_length_le (by omega)]
        exact (h3.append hR).mono hG
      have fresh : ∀ {c : Array Value} {cs : List AV} {os : List Value} {len cap' e' : Nat}, c.size = cap' * i.size → (os ++ us) <+: c.toList → RelL G true cs os → len + n ≤ cap' → (cs ++ xs).length = (len + n) * i.size → (os ++ us).length = (len + n) * i.size →
          (Builtin.append_ ts ty #[sv, xv]).run P w = .ok (.slice (some ⟨w.heap.size, 0, none⟩) (len + n) cap') (w.drew.alloc (.cells c e)) → r = .sl i.size (.fam σ.next (len + n)) (len + n) (cs ++ xs) → σ' = σ.new (.fam (len + n)) →
          ValOk w0 G σ' r ((Builtin.append_ ts ty #[sv, xv]).run P w) := by
        intro c cs os len cap' e' h1 h2 h3 h4 h5 h6 hrun hr hσ
        subst hr hσ
        obtain ⟨hW1, hG1, hR1⟩ := fixed h1 h2 h3 h4 h5 h6
        obtain ⟨hW2, hG2⟩ := hW1.newFam w.heap.size (len + n) (os ++ us) c.size c e (by simp [Gh.addΓ]) hW.below.size ((heap_new w.drew _ _).trans (if_pos rfl)) (fun l o hl hb => by
          obtain ⟨b', hb', hlt, _⟩ := hW.blk_lt hl
          have : blk G l o = some w.heap.size := by rw [← hb]; cases o <;> rfl
          rw [this] at hb'; cases hb'; omega)
        refine ⟨_, _, _, hrun, hG1.trans hG2, hW2, ?_⟩
        refine .sl _ _ _ _ w.heap.size 0 (os ++ us) c.size cap' h4 h5 (by rw [h1]; omega) (by simp [Gh.addΓ, Gh.addΦ]) (hR1.mono hG2) ?_
        exact ⟨len + n, w.heap.size, by simp [Gh.addΦ], Nat.le_refl _, fun _ => ⟨rfl, by rw [h6]; omega⟩⟩
      have object : ∀ {c : Array Value} {cs : List AV} {os : List Value} {len cap' : Nat}, c.size = cap' * i.size → (os ++ us) <+: c.toList → RelL G true cs os → len + n ≤ cap' → (cs ++ xs).length = (len + n) * i.size → (os ++ us).length = (len + n) * i.size →
          (Builtin.append_ ts ty #[sv, xv]).run P w = .ok (.slice (some ⟨w.heap.size, 0, none⟩) (len + n) cap') (w.drew.alloc (.cells c e)) → ∀ σ1, σ1.next = σ.next → W w0 G σ1 w → r = .ms i.size σ.next 0 (len + n) → σ' = σ1.new (.cells (cs ++ xs)) →
          ValOk w0 G σ' r ((Builtin.append_ ts ty #[sv, xv]).run P w) := by
        intro c cs os len cap' h1 h2 h3 h4 h5 h6 hrun σ1 hnx hW1 hr hσ
        subst hr hσ
        have hfr := hW1.fresh σ1.next (Nat.le_refl _)
        have hpre : (os ++ us) = c.toList.take (cs ++ xs).length := by
          obtain ⟨tl, htl⟩ := h2
          rw [← htl, List.take_append_of_le_length (by omega), List.take_of_length_le (by omega)]
        obtain ⟨hW2, hG2⟩ := hW1.drew.newObj (.cells (cs ++ xs)) (.cells c e) c.size rfl (by
          refine ⟨w.heap.size, 0, c.size, c, e, by simp [Gh.addρ], hW.below.size, (heap_new w.drew _ _).trans (if_pos rfl), rfl, ?_, ?_⟩
          · rw [h1, h5, Nat.zero_add]; exact Nat.mul_le_mul_right _ h4
          · rw [List.drop_zero, ← hpre]
            exact (h3.append hR).mono (Gle.addρ (x := (w.heap.size, 0, c.size)) hfr.2.1))
        refine ⟨_, _, _, hrun, hG2, hW2, ?_⟩
        rw [← hnx]
        exact .ms _ _ _ _ w.heap.size 0 c.size cap' (by simp [Gh.addρ]) h4 (by rw [h1]; omega)
      split at h
      · -- nil
        split at h
        · rename_i hb
          obtain ⟨cap', c, g1, g2, g3, g4, g5, g6⟩ := grow (base := none) (len := 0) (cap := 0) (os := []) (cs := []) (by cases hs; rfl) (by omega) (by simpa using hb) (by have := Nat.mul_le_mul_left n hby; omega) (.nil _) (by simp) (fun w' _ => by simp [Builtin.firstCells])
          split at h
          · cases h
            exact object (cs := []) (os := []) (len := 0) g3 g4 (.nil _) g1 g5 g6 g2 σ rfl hW (by simp) (by simp)
          · cases h
            exact fresh (cs := []) (os := []) (len := 0) (e' := 0) g3 g4 (.nil _) g1 g5 g6 g2 (by simp) (by simp)
        · cases h
      · -- a fixed slice
        rename_i k' own len cs
        split at h
        · rename_i hcond
          obtain ⟨rfl, hb⟩ := hcond
          -- its own cells
          have own_cells : ∃ base cap os, sv = .slice base len cap ∧ RelL G true cs os ∧ cs.length = len * i.size ∧ (∀ w', w'.heap = w.heap → (Builtin.firstCells i.size len (.slice base len cap)).run P w' = .ok os.toArray w') ∧ (own = .exact → cap = len) ∧
              ∀ l e0, own = .fam l e0 → ∃ b off pre tot e' b', base = some ⟨b, off, none⟩ ∧ len ≤ cap ∧ off + cap * i.size ≤ tot ∧ G.Γ b = some (pre, tot) ∧ os = (pre.drop off).take cs.length ∧ G.Φ l = some (e', b') ∧ (e0 = e' → b' = b ∧ pre.length = off + len * i.size) := by
            have hv' : view i.size σ (.sl i.size own len cs) = some (len, cs) := by simp [view]
            obtain ⟨os, hRo, hol, hfo⟩ := first_run (P := P) hW hs hv'
            cases hs with
            | sl0 => exact ⟨_, _, os, rfl, hRo, hol, fun w' hw' => (hfo w' hw').1, by simp, by simp⟩
            | slx => exact ⟨_, _, os, rfl, hRo, hol, fun w' hw' => (hfo w' hw').1, by simp, by simp⟩
            | sl _ _ _ _ b off pre tot cap q1 q2 q3 q4 q5 q6 =>
              have hfo' : ∀ w', w'.heap = w.heap → (Builtin.firstCells i.size len (.slice (some ⟨b, off, none⟩) len cap)).run P w' = .ok ((pre.drop off).take cs.length).toArray w' := by
                intro w' hw'
                by_cases h0 : cs.length = 0
                · have h00 : len * i.size = 0 := by omega
                  simp [Builtin.firstCells, h00, h0, loadCells, loadCellsFrom]
                · have hr := run_loadCells_list (P := P) w' ⟨b, off, none⟩ _ (fun j u hj => by rw [cell_heap hw']; exact cells_of_arr hW q4 (take_drop_len q5.length (by omega)) j u hj)
                  rw [← q5.length, q2] at hr
                  rw [q2]
                  simpa [Builtin.firstCells] using hr
              refine ⟨_, _, _, rfl, q5, q2, hfo', fun he => (by subst he; exact q6), fun l e0 he => ?_⟩
              subst he
              obtain ⟨e', b', z1, z2, z3⟩ := q6
              exact ⟨b, off, pre, tot, e', b', rfl, q1, q3, q4, rfl, z1, z3⟩
          obtain ⟨base, cap, os, hsv, hRo, hol, hfo, hexact, hfam⟩ := own_cells
          have hbl : len + n ≤ room := by have := Nat.mul_le_mul_left (len + n) hby; omega
          split at h
          · -- exact
            have hcl := hexact rfl
            obtain ⟨cap', c, g1, g2, g3, g4, g5, g6⟩ := grow hsv (by omega) hb hbl hRo hol hfo
            split at h
            · cases h
              exact object g3 g4 hRo g1 g5 g6 g2 σ rfl hW rfl rfl
            · cases h
              exact fresh (e' := 0) g3 g4 hRo g1 g5 g6 g2 rfl rfl
          · -- a family
            rename_i l e0
            split at h
            · cases h
            · split at h
              · rename_i e1 hl'
                split at h
                · rename_i he
                  simp at he; subst he
                  cases h
                  obtain ⟨b, off, pre, tot, e', b', hbase, q1, q3, q4, hos, z1, z3⟩ := hfam l e0 rfl
                  obtain ⟨b0, pre0, tot0, c0, el0, y1, y2, y3, y4⟩ := hW.obj l _ hl'
                  rw [z1] at y1; cases y1
                  obtain ⟨rfl, hpl⟩ := z3 rfl
                  rw [q4] at y3; cases y3
                  have hfull : os ++ us = pre.drop off ++ us := by
                    rw [hos, List.take_of_length_le (by simp; omega)]
                  by_cases hroom : len + n ≤ cap
                  · -- in place
                    obtain ⟨c', el', fz', a1, a2, a3⟩ := hW.arr _ _ _ q4
                    rw [y4] at a1; cases a1
                    have hfit : off + len * i.size + us.length ≤ c0.size := by
                      rw [a2, ← hR.length, hxl]
                      have : len * i.size + n * i.size ≤ cap * i.size := by rw [← Nat.add_mul]; exact Nat.mul_le_mul_right _ hroom
                      omega
                    have hrun := append_room (P := P) (w := w) (ty := ty) ht0 ht1 hn ht hi hroom hf hl y4 hfit hR.ones
                    rw [← hbase, ← hsv] at hrun
                    have htake : c0.toList.take (off + len * i.size) = pre := by
                      obtain ⟨tl, htl⟩ := a3
                      rw [← htl, ← hpl, List.take_append_of_le_length (Nat.le_refl _), List.take_of_length_le (Nat.le_refl _)]
                    rw [htake] at hrun
                    obtain ⟨hW', hG'⟩ := hW.famOn (e' := e0 + n) (ext := us) (c' := (pre ++ us ++ c0.toList.drop (off + len * i.size + us.length)).toArray) hl' z1 q4 (by omega) y4 (by
                      simp only [List.size_toArray, List.length_append, List.length_drop, Array.length_toList]; omega) ⟨c0.toList.drop (off + len * i.size + us.length), by simp⟩
                    refine ⟨_, _, _, hrun, hG', hW', ?_⟩
                    rw [hbase]
                    refine .sl _ _ _ _ b' off (pre ++ us) tot cap hroom (by rw [List.length_append, hol, hxl, Nat.add_mul]) q3 (by simp [Gh.addΓ, Gh.addΦ]) ?_ ?_
                    · have : (List.drop off (pre ++ us)).take (cs ++ xs).length = os ++ us := by
                        rw [hfull, List.drop_append_of_le_length (by omega), List.take_of_length_le]
                        simp only [List.length_append, List.length_drop]
                        rw [hol, hR.length]; omega
                      rw [this]
                      exact (hRo.append hR).mono hG'
                    · refine ⟨e0 + n, b', by simp [Gh.addΦ], Nat.le_refl _, fun _ => ⟨rfl, ?_⟩⟩
                      rw [List.length_append, hpl, ← hR.length, hxl, Nat.add_mul]; omega
                  · -- it grows
                    obtain ⟨cap', c, g1, g2, g3, g4, g5, g6⟩ := grow hsv (by omega) hb hbl hRo hol hfo
                    obtain ⟨hW1, hG1, hR1⟩ := fixed g3 g4 hRo g1 g5 g6
                    obtain ⟨hW2, hG2⟩ := hW1.famMove (e' := e0 + n) hl' (by omega) (b := w.heap.size) (pre := os ++ us) (tot := c.size) (by simp [Gh.addΓ]) hW.below.size ((heap_new w.drew _ _).trans (if_pos rfl)) (fun l o hl hb => by
                      obtain ⟨b', hb', hlt, _⟩ := hW.blk_lt hl
                      have : blk G l o = some w.heap.size := by rw [← hb]; cases o <;> rfl
                      rw [this] at hb'; cases hb'; omega)
                    refine ⟨_, _, _, g2, hG1.trans hG2, hW2, ?_⟩
                    refine .sl _ _ _ _ w.heap.size 0 (os ++ us) c.size cap' g1 g5 (by rw [g3]; omega) (by simp [Gh.addΓ, Gh.addΦ]) (hR1.mono hG2) ?_
                    exact ⟨e0 + n, w.heap.size, by simp [Gh.addΦ], Nat.le_refl _, fun _ => ⟨rfl, by rw [g6]; omega⟩⟩
                · cases h
              · cases h
          · cases h
        · cases h
      · -- an object's slice
        rename_i k' l off len
        split at h
        · rename_i hcond
          simp only [Bool.and_eq_true, decide_eq_true_eq, Nat.beq_eq] at hcond
          obtain ⟨rfl, hb⟩ := hcond
          split at h
          · rename_i cs hl'
            split at h
            · rename_i hin
              simp only [Bool.and_eq_true, Nat.blt_eq, Nat.ble_eq] at hin
              obtain ⟨hk0, hin⟩ := hin
              cases h
              cases hs with
              | ms _ _ _ _ b base tot cap q1 q2 q3 =>
                obtain ⟨b', base', tot', c0, el, h1, h2, h3, h4, h5, h6⟩ := hW.obj l _ hl'
                rw [q1] at h1; cases h1
                have hroom : len + n ≤ cap := by
                  have h7 : (len + n) * i.size ≤ cap * i.size := by omega
                  exact Nat.le_of_mul_le_mul_right h7 hk0
                have hxl' : xs.length = us.length := hR.length
                have hadd : (len + n) * i.size = len * i.size + n * i.size := Nat.add_mul _ _ _
                have hfit : base + off + len * i.size + us.length ≤ c0.size := by omega
                have hrun := append_room (P := P) (w := w) (ty := ty) ht0 ht1 hn ht hi hroom hf hl h3 hfit hR.ones
                have hrow := setRow_heap w b c0 (c0.toList.take (base + off + len * i.size) ++ us ++ c0.toList.drop (base + off + len * i.size + us.length)).toArray el _ h3
                have hcl : c0.toList.length = tot := by simpa using h4
                have hW' := hW.setObj hl' rfl rfl (o' := .cells (fillAt cs (off + len * i.size) xs)) (b := b) (by simp [blk, q1]) (Below.setRow hW.below h2 _) (by simp) (fun k hk => setRow_other w b k _ hk) (by
                  refine ⟨b, base, tot, _, el, q1, h2, hrow, ?_, ?_, ?_⟩
                  · simp only [List.size_toArray, List.length_append, List.length_take, List.length_drop]; omega
                  · rw [fillAt_length (by omega)]; exact h5
                  · rw [fillAt_length (by omega), List.toList_toArray, Nat.add_assoc base, list_write _ _ _ _ _ (by omega) (by omega)]
                    exact h6.fill hR)
                exact ⟨_, _, _, hrun, Gle.refl G, hW', .ms _ _ _ _ b base tot cap q1 hroom q3⟩
            split at h
            · rename_i hend
              simp at hend
              cases h
              have hbl : len + n ≤ room := by have := Nat.mul_le_mul_left (len + n) hby; omega
              have hv' : view i.size σ (.ms i.size l off len) = some (len, cs.drop off) := by
                have hle : off + len * i.size ≤ cs.length := by omega
                simp only [view, hl', Nat.beq_refl, if_true, if_pos hle]
                rw [List.take_of_length_le (by simp; omega)]
              obtain ⟨os, hRo, hol, hfo⟩ := first_run (P := P) hW hs hv'
              cases hs with
              | ms _ _ _ _ b base tot cap q1 q2 q3 =>
                obtain ⟨b', base', tot', c0, el, h1, h2, h3, h4, h5, h6⟩ := hW.obj l _ hl'
                rw [q1] at h1; cases h1
                by_cases hroom : len + n ≤ cap
                · have hfit : base + off + len * i.size + us.length ≤ c0.size := by
                    rw [h4, ← hR.length, hxl]
                    have : len * i.size + n * i.size ≤ cap * i.size := by rw [← Nat.add_mul]; exact Nat.mul_le_mul_right _ hroom
                    omega
                  have hrun := append_room (P := P) (w := w) (ty := ty) ht0 ht1 hn ht hi hroom hf hl h3 hfit hR.ones
                  generalize hc' : (c0.toList.take (base + off + len * i.size) ++ us ++ c0.toList.drop (base + off + len * i.size + us.length)).toArray = c' at hrun
                  have hrow := setRow_heap w b c0 c' el _ h3
                  have hcs : c'.size = tot := by
                    rw [← hc']; simp only [List.size_toArray, List.length_append, List.length_take, List.length_drop, Array.length_toList]; omega
                  have hfr := hW.fresh σ.next (Nat.le_refl _)
                  have hxl' : xs.length = us.length := hR.length
                  obtain ⟨hW', hG'⟩ := hW.moveObj (cs' := cs.drop off ++ xs) (base' := base + off) (tot' := tot) (w' := w.setRow b c') hl' q1 (Below.setRow hW.below h2 _) (by simp) (fun k hk => setRow_other w b k _ hk) (by
                    refine ⟨b, base + off, tot, c', el, by simp [Gh.addρ], h2, hrow, hcs, ?_, ?_⟩
                    · simp only [List.length_append, List.length_drop]; omega
                    · have hm := Gle.addρ (G := G) (l := σ.next) (x := (b, base + off, tot)) hfr.2.1
                      have e1 : (c'.toList.drop (base + off)).take (cs.drop off ++ xs).length = ((c0.toList.drop base).take cs.length).drop off ++ us := by
                        have hcl : c0.toList.length = tot := by simpa using h4
                        have hlen : (cs.drop off ++ xs).length = len * i.size + us.length := by
                          simp only [List.length_append, List.length_drop]; omega
                        rw [← hc', List.toList_toArray, hlen, list_ms _ _ _ _ (by rw [hcl, ← h4]; exact hfit), List.drop_take, List.drop_drop]
                        congr 2
                        omega
                      rw [e1]
                      exact ((h6.drop off).append hR).mono hm)
                  refine ⟨_, _, _, hrun, hG', hW', ?_⟩
                  have := RelV.ms (G := G.addρ σ.next (b, base + off, tot)) i.size σ.next 0 (len + n) b (base + off) tot cap (by simp [Gh.addρ]) hroom (by omega)
                  simpa using this
                · obtain ⟨cap', c, g1, g2, g3, g4, g5, g6⟩ := grow rfl (by omega) hb hbl hRo hol (fun w' hw' => (hfo w' hw').1)
                  exact object g3 g4 hRo g1 g5 g6 g2 (σ.kill l) rfl (hW.kill hl' rfl) rfl rfl
            · cases h
          · cases h
        · cases h
      · cases h
end Go.AM

namespace Go.AM
set_option linter.all false
open Go.RowKit
variable {P : Program} {w0 : Base} {w : World} {G : Gh} {σ : St}

theorem addΓ_same (G : Gh) (b : Nat) (x : List Value × Nat) : (G.addΓ b x).Γ b = some x := if_pos rfl
theorem addΦ_same (G : Gh) (b : Nat) (x : Nat × Nat) : (G.addΦ b x).Φ b = some x := if_pos rfl
theorem addρ_same (G : Gh) (b : Nat) (x : Nat × Nat × Nat) : (G.addρ b x).ρ b = some x := if_pos rfl

theorem made_prefix {z : Array Value} {k n c : Nat} (hk : z.size = k) (h : n ≤ c) : (List.replicate n z.toList).flatten = (madeCells z (c * k)).toList.take (n * k) := by
  have h1 := rep_list z.toList c
  have hl : z.toList.length = k := by simpa using hk
  rw [hl] at h1
  have h2 : (madeCells z (c * k)).toList = (List.replicate c z.toList).flatten := by
    rw [← h1]
    simp only [madeCells, Array.toList_map, Array.toList_range, hk]
    apply List.map_congr_left
    intro x _
    rw [getElem!_def, List.getElem!_eq_getElem?_getD, Array.getElem?_toList]
    cases z[x % k]? <;> rfl
  rw [h2]
  obtain ⟨d, rfl⟩ : ∃ d, c = n + d := ⟨c - n, by omega⟩
  rw [← List.replicate_append_replicate, List.flatten_append, List.take_append_of_le_length (by simp [hl]), List.take_of_length_le (by simp [hl])]

theorem mksl_ok (hW : W w0 G σ w) {t e : TypeId} {i : TypeInfo} {zv : Value} (ht : P.underlying t = some (.slice e)) (hi : P.info? e = some i) (hz : i.zero = some zv) (hzl : zv.cells.size = i.size) (hby : 1 ≤ i.bytes)
    {z : List AV} (hzr : RelL G true z zv.cells.toList) {x y r : AV} {xv yv : Value} {σ' : St} (hx : RelV G x xv) (hy : RelV G y yv)
    (h : mkslS i.size i.bytes z σ x y = some (r, σ')) : ValOk w0 G σ' r ((Instr.makeSlice t xv yv).run P w) := by
  unfold mkslS at h
  split at h
  · rename_i n c hn hc
    split at h
    · rename_i hcond
      obtain ⟨hle, hb⟩ := hcond
      obtain ⟨k1, rfl⟩ := asNat_inv hx hn
      obtain ⟨k2, rfl⟩ := asNat_inv hy hc
      have hbc : c ≤ room := by have := Nat.mul_le_mul_left c hby; omega
      have hb' : (i.bytes : Int) * (c : Int) ≤ 281474976710656 := by
        have h1 : i.bytes * c ≤ 1099511627776 := by rw [Nat.mul_comm]; exact hb
        have h2 : ((i.bytes * c : Nat) : Int) ≤ ((1099511627776 : Nat) : Int) := Int.ofNat_le.2 h1
        rw [Int.natCast_mul] at h2
        omega
      have hrun := run_make (P := P) w t e i zv ht hi hz k1 k2 (n : Int) (c : Int) (by omega) (by omega) hb' (by unfold room at hbc; omega)
      simp only [Int.toNat_natCast] at hrun
      have hsz : (madeCells zv.cells (c * i.size)).size = c * i.size := size_madeCells _ _
      split at h
      · rename_i h0
        subst h0
        cases h
        obtain ⟨hW1, hG1⟩ := hW.newFix (madeCells zv.cells (c * i.size)) e (0, 0) [] (List.nil_prefix)
        obtain ⟨hW2, hG2⟩ := hW1.newFam w.heap.size 0 [] (madeCells zv.cells (c * i.size)).size (madeCells zv.cells (c * i.size)) e (addΓ_same _ _ _) hW.below.size ((heap_new w _ _).trans (if_pos rfl)) (fun l o hl hb => by
          obtain ⟨b', hb', hlt, _⟩ := hW.blk_lt hl
          have : blk G l o = some w.heap.size := by rw [← hb]; cases o <;> rfl
          rw [this] at hb'; cases hb'; omega)
        refine ⟨_, _, _, hrun, hG1.trans hG2, hW2, ?_⟩
        refine .sl _ _ _ _ w.heap.size 0 [] (madeCells zv.cells (c * i.size)).size c (Nat.zero_le _) (by simp) (by rw [hsz]; omega) (addΓ_same _ _ _) (by simpa using RelL.nil true) ?_
        exact ⟨0, w.heap.size, addΦ_same _ _ _, Nat.le_refl _, fun _ => ⟨rfl, by show 0 = 0 + 0 * i.size; omega⟩⟩
      · rename_i h0
        cases h
        have hfr := hW.fresh σ.next (Nat.le_refl _)
        have hzz : z.length = i.size := by rw [hzr.length]; simpa using hzl
        have hrl : (rep z n).length = n * i.size := by rw [rep_length, hzz]
        have hle' : n * i.size ≤ c * i.size := Nat.mul_le_mul_right _ hle
        obtain ⟨hW', hG⟩ := hW.newObj (.cells (rep z n)) (.cells (madeCells zv.cells (c * i.size)) e) (madeCells zv.cells (c * i.size)).size rfl (by
          refine ⟨w.heap.size, 0, _, _, e, addρ_same _ _ _, hW.below.size, (heap_new w _ _).trans (if_pos rfl), rfl, by rw [hsz, hrl]; omega, ?_⟩
          rw [List.drop_zero, hrl, ← made_prefix hzl hle]
          exact (rep_rel hzr n).mono (Gle.addρ (x := (w.heap.size, 0, (madeCells zv.cells (c * i.size)).size)) hfr.2.1))
        exact ⟨_, _, _, hrun, hG, hW', .ms _ _ _ _ w.heap.size 0 _ c (addρ_same _ _ _) hle (by rw [hsz]; omega)⟩
    · cases h
  · cases h
end Go.AM

namespace Go.AM
set_option linter.all false
open Go.RowKit
variable {P : Program} {w0 : Base} {w : World} {G : Gh} {σ : St}

theorem zeroCells_list (z : Array Value) (n : Nat) : (Builtin.zeroCells z n).toList = (List.replicate n z.toList).flatten := by
  unfold Builtin.zeroCells
  rw [Array.toList_map, Array.toList_range]
  rw [← rep_list z.toList n, Array.length_toList]
  refine List.map_congr_left fun j _ => ?_
  rw [getElem!_def, getElem!_def, Array.getElem?_toList]

theorem zeroValue_run {t : TypeId} {i : TypeInfo} {zv : Value} (hi : P.info? t = some i) (hz : i.zero = some zv) : (zeroValue t).run P w = .ok zv w := by
  simp [zeroValue, typeInfo, hi, hz]

theorem clr_ok (hW : W w0 G σ w) {ts : Array TypeId} {t ty e : TypeId} {i : TypeInfo} {zv : Value} (ht0 : ts[0]? = some t) (ht : P.underlying t = some (.slice e)) (hi : P.info? e = some i) (hz : i.zero = some zv) {z : List AV} (hzk : z.length = i.size) (hzr : RelL G true z zv.cells.toList)
    {x : AV} {xv : Value} (hx : RelV G x xv) {σ' : St} (h : clrS i.size z σ x = some σ') : ∃ w', (Builtin.clear_ ts ty #[xv]).run P w = .ok (.tuple #[]) w' ∧ W w0 G σ' w' := by
  unfold clrS at h
  split at h
  · cases h; cases hx
    exact ⟨w, by simp [Builtin.clear_, ht0, run_underlying ht], hW⟩
  · cases h
    have : ∃ ad cap, xv = .slice ad 0 cap := by cases hx <;> exact ⟨_, _, rfl⟩
    obtain ⟨ad, cap, rfl⟩ := this
    refine ⟨w, ?_, hW⟩
    cases ad <;> simp [Builtin.clear_, ht0, run_underlying ht]
  · rename_i k' l off len
    split at h
    · rename_i hk
      simp at hk; subst hk
      split at h
      · rename_i cs hl
        cases hx with
        | ms _ _ _ _ b base tot cap q1 q2 q3 =>
          split at h
          · rename_i h0
            cases h; subst h0
            exact ⟨w, by simp [Builtin.clear_, ht0, run_underlying ht], hW⟩
          · rename_i h0
            split at h
            · rename_i hc
              cases h
              obtain ⟨b', base', tot', c, el, h1, h2, h3, h4, h5, h6⟩ := hW.obj l _ hl
              rw [q1] at h1; cases h1
              have hR := rep_rel hzr len
              have hlen : (rep z len).length = len * i.size := by rw [rep_length, hzk]
              have hlen' := hR.length
              have hcl : c.toList.length = tot := by simpa using h4
              have hst := run_storeCells_at P b (base + off) el (List.replicate len zv.cells.toList).flatten 0 c w h3 (by omega) hR.ones
              simp only [Nat.add_zero] at hst
              have hrow := setRow_heap w b c (c.toList.take (base + off) ++ (List.replicate len zv.cells.toList).flatten ++ c.toList.drop (base + off + (List.replicate len zv.cells.toList).flatten.length)).toArray el _ h3
              refine ⟨w.setRow b (c.toList.take (base + off) ++ (List.replicate len zv.cells.toList).flatten ++ c.toList.drop (base + off + (List.replicate len zv.cells.toList).flatten.length)).toArray, ?_, hW.setObj hl rfl rfl (b := b) (by simp [blk, q1]) (Below.setRow hW.below h2 _) (by simp) (fun k hk => setRow_other w b k _ hk) ?_⟩
              · obtain ⟨m, rfl⟩ : ∃ m, len = m + 1 := ⟨len - 1, by omega⟩
                simp only [Builtin.clear_, ht0]
                simp [run_underlying ht, zeroValue_run hi hz, zeroCells_list, hst]
              · refine ⟨b, base, tot, _, el, q1, h2, hrow, ?_, ?_, ?_⟩
                · simp only [List.size_toArray, List.length_append, List.length_take, List.length_drop]; omega
                · rw [fillAt_length (by omega)]; exact h5
                · rw [fillAt_length (by omega), List.toList_toArray, list_write _ _ _ _ _ (by omega) (by omega)]
                  exact h6.fill hR
            · cases h
      · cases h
    · cases h
  · cases h

theorem slcx_ok (hW : W w0 G σ w) {n : Nat} {fr : Env} {a : Act} (hF : RelF G n fr a) {t e : TypeId} {i : TypeInfo} (ht : P.underlying t = some (.slice e)) (hi : P.info? e = some i)
    {x r : AV} {v : Value} {lo hi' : Operand} {lo' hi'' : AX} (c1 : xChk lo lo' = true) (c2 : xChk hi' hi'' = true) (hx : RelV G x v) (h : slcxV i.size σ x (lo'.ev fr) (hi''.ev fr) = some r) :
    ValOk w0 G σ r ((Instr.sliceAt t v (some (a.eval lo)) (some (a.eval hi')) none).run P w) := by
  unfold slcxV at h
  split at h
  · rename_i k' l off ln
    split at h
    · rename_i hk
      simp only [Bool.and_eq_true, Nat.beq_eq, Nat.blt_eq] at hk
      obtain ⟨rfl, hk0⟩ := hk
      split at h
      · rename_i cs lo0 hi0 hl e1 e2
        have b1 := asNat_inv (xChk_rel hF c1) e1
        have b2 := asNat_inv (xChk_rel hF c2) e2
        split at h
        · rename_i hc
          obtain ⟨hlh, hin⟩ := hc
          cases hx with
          | ms _ _ _ _ bb base tot cap q1 q2 q3 =>
            obtain ⟨b', base', tot', c, el, h1, h2, h3, h4, h5, h6⟩ := hW.obj l _ hl
            rw [q1] at h1; cases h1
            have hcap : hi0 ≤ cap := by
              have h7 : hi0 * i.size ≤ cap * i.size := by omega
              exact Nat.le_of_mul_le_mul_right h7 hk0
            have hb := sliceBounds_run (P := P) (w := w) (isSlice := true) (len := ln) (cap := cap) (lo := some (a.eval lo)) (hi := some (a.eval hi')) (mx := none) (l := lo0) (h := hi0) (m := cap) hlh hcap (Nat.le_refl _) b1 b2 rfl
            have hrun : (Instr.sliceAt t (.slice (some ⟨bb, base + off, none⟩) ln cap) (some (a.eval lo)) (some (a.eval hi')) none).run P w = .ok (.slice (some (if cap = lo0 then ⟨bb, base + off, none⟩ else (⟨bb, base + off, none⟩ : Addr).add (lo0 * i.size))) (hi0 - lo0) (cap - lo0)) w := by
              simp only [Instr.sliceAt, Sem.run_bind, run_underlying ht, Result.andThen_ok, Instr.slice, hb, size_run hi, Sem.run_pure]
              split <;> rfl
            split at h
            · rename_i hlt
              cases h
              refine ValOk.pure hW hrun ?_
              rw [if_neg (by omega), add_lit, Nat.add_assoc]
              refine .ms _ _ _ _ _ _ _ _ q1 (by omega) ?_
              have : lo0 * i.size + (cap - lo0) * i.size = cap * i.size := by rw [← Nat.add_mul]; congr 1; omega
              omega
            · cases h
              refine ValOk.pure hW hrun ?_
              rw [show hi0 - lo0 = 0 by omega]
              exact .sl0 _ _ _
        · cases h
      · cases h
    · cases h
  · cases h
end Go.AM

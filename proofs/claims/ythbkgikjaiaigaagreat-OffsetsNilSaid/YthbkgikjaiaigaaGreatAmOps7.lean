import Derived.Test.YthbkgikjaiaigaaGreatAmOps6
namespace Go.AM
set_option linter.all false
open Go.RowKit
variable {P : Program} {w0 : Base} {w : World} {G : Gh} {σ : St}

theorem findK_idx {ek : EK} {k : AV} : ∀ {kvs : List (AV × AV)} {r : Option AV}, findK ek k kvs = some r → ∃ j, idxK ek k kvs = some j ∧ r = j.bind (fun j => (kvs[j]?).map (·.2))
  | [], r, h => by simp [findK] at h; subst h; exact ⟨none, rfl, rfl⟩
  | (k', v') :: t, r, h => by
    simp only [findK] at h
    split at h
    · rename_i he; cases h; exact ⟨some 0, by simp [idxK, he], by simp⟩
    · rename_i he
      obtain ⟨j, h1, rfl⟩ := findK_idx h
      refine ⟨j.map (· + 1), by simp [idxK, he, h1], ?_⟩
      cases j <;> simp
    · cases h

theorem updK_idx {ek : EK} {k v : AV} : ∀ {kvs l : List (AV × AV)}, updK ek k v kvs = some l → ∃ j, idxK ek k kvs = some j ∧ l = (match j with | none => kvs ++ [(k, v)] | some j => kvs.set j (k, v))
  | [], l, h => by simp [updK] at h; subst h; exact ⟨none, rfl, rfl⟩
  | (k', v') :: t, l, h => by
    simp only [updK] at h
    split at h
    · rename_i he; cases h; exact ⟨some 0, by simp [idxK, he], by simp⟩
    · rename_i he
      split at h
      · rename_i l' hl
        cases h
        obtain ⟨j, h1, rfl⟩ := updK_idx hl
        refine ⟨j.map (· + 1), by simp [idxK, he, h1], ?_⟩
        cases j <;> simp
      · cases h
    · cases h

theorem delK_idx {ek : EK} {k : AV} : ∀ {kvs l : List (AV × AV)}, delK ek k kvs = some l → ∃ j, idxK ek k kvs = some j ∧ l = (match j with | none => kvs | some j => kvs.eraseIdx j)
  | [], l, h => by simp [delK] at h; subst h; exact ⟨none, rfl, rfl⟩
  | (k', v') :: t, l, h => by
    simp only [delK] at h
    split at h
    · rename_i he; cases h; exact ⟨some 0, by simp [idxK, he], by simp⟩
    · rename_i he
      split at h
      · rename_i l' hl
        cases h
        obtain ⟨j, h1, rfl⟩ := delK_idx hl
        refine ⟨j.map (· + 1), by simp [idxK, he, h1], ?_⟩
        cases j <;> simp
      · cases h
    · cases h

theorem idxK_hit {ek : EK} {k : AV} : ∀ {kvs : List (AV × AV)} {j : Nat}, idxK ek k kvs = some (some j) → ∃ k' v', kvs[j]? = some (k', v') ∧ keyEq ek k k' = some true
  | [], j, h => by simp [idxK] at h
  | (k', v') :: t, j, h => by
    simp only [idxK] at h
    split at h
    · rename_i he; cases h; exact ⟨k', v', by simp, he⟩
    · rename_i he
      cases h1 : idxK ek k t with
      | none => rw [h1] at h; simp at h
      | some j' =>
        rw [h1] at h
        cases j' with
        | none => simp at h
        | some j' =>
          simp at h; subst h
          obtain ⟨a, b, e1, e2⟩ := idxK_hit h1
          exact ⟨a, b, by simpa using e1, e2⟩
    · cases h

/-- What may be a map's key type, by its kind. -/
def keyT (P : Program) (t : TypeId) : EK → Bool
  | .num => match P.underlying t with | some (.int _) => true | _ => false
  | .str => match P.underlying t with | some .string => true | _ => false
  | .agg ks => (match P.underlying t with | some (.struct _) => true | _ => false) && (match flatT P 20 t with | some ks' => kindT.ekL ks ks' | none => false)
  | _ => false

theorem RelKV.get {kvs : List (AV × AV)} {es : List MapEntry} (h : RelKV G kvs es) : ∀ {j : Nat} {k v : AV}, kvs[j]? = some (k, v) → ∃ e, es[j]? = some e ∧ RelV G k e.key ∧ RelV G v e.val := by
  induction h with
  | nil => intro j k v h; simp at h
  | cons k v e kvs es h1 h2 _ ih =>
    intro j k' v' h
    cases j with
    | zero => simp at h; obtain ⟨rfl, rfl⟩ := h; exact ⟨e, by simp, h1, h2⟩
    | succ j => exact ih (by simpa using h)

theorem RelKV.length {kvs : List (AV × AV)} {es : List MapEntry} (h : RelKV G kvs es) : kvs.length = es.length := by
  induction h with
  | nil => rfl
  | cons => simp [*]

/-- '==' of two keys, as findAsking asks it. -/
theorem keyEq_run {t : TypeId} {ek : EK} (ht : keyT P t ek = true) {x y : AV} {u v : Value} (hx : RelV G x u) (hy : RelV G y v) {p : Bool} (h : keyEq ek x y = some p) : (Op.equal t u v).run P w = .ok p w := by
  cases ek <;> simp only [keyT, Bool.false_eq_true] at ht
  case num =>
    split at ht
    · rename_i k hu
      exact leaf_run (d := 9999) (ek := .num) ⟨k, hu⟩ hx hy (by simpa [keyEq] using h)
    · cases ht
  case str =>
    split at ht
    · rename_i hu
      exact leaf_run (d := 9999) (ek := .str) hu hx hy (by simpa [keyEq] using h)
    · cases ht
  case agg ks =>
    simp only [Bool.and_eq_true] at ht
    obtain ⟨h1, h3⟩ := ht
    unfold keyEq at h
    split at h
    · rename_i ks0 as bs heq
      cases heq
      obtain ⟨us, rfl, r1⟩ := hx.agg_inv
      obtain ⟨vs, rfl, r2⟩ := hy.agg_inv
      split at h3
      · rename_i ks' hf
        obtain rfl := ekL_eq h3
        rcases flat_run (P := P) 20 hf r1 r2 h Op.maxDepth (by simp [Op.maxDepth]) with ⟨fs, hu, hrun⟩ | ⟨dd, a, b, hu, hag, _⟩
        · simpa [Op.equal] using hrun
        · split at h1
          · rename_i hu'; rw [hu'] at hu; cases hu; simp [aggD] at hag
          · cases h1
      · cases h3
    · rename_i hne
      simp [leafEq] at h

theorem asking_run {t : TypeId} {ek : EK} (ht : keyT P t ek = true) {k : AV} {kv : Value} (hk : RelV G k kv) : ∀ {kvs : List (AV × AV)} {es : List MapEntry} {j : Option Nat}, RelKV G kvs es → idxK ek k kvs = some j → ∀ i0,
    (Instr.findAsking t kv es i0).run P w = .ok (j.bind fun j => (es[j]?).map fun e => (i0 + j, e.val)) w
  | _, _, j, .nil, h, i0 => by simp [idxK] at h; subst h; simp [Instr.findAsking]
  | _, _, j, .cons k' v' e kvs es h1 h2 h3, h, i0 => by
    simp only [idxK] at h
    split at h
    · rename_i he
      cases h
      have := keyEq_run (P := P) (w := w) ht hk h1 he
      simp [Instr.findAsking, this]
    · rename_i he
      have hq := keyEq_run (P := P) (w := w) ht hk h1 he
      cases h4 : idxK ek k kvs with
      | none => rw [h4] at h; simp at h
      | some j' =>
        rw [h4] at h
        simp at h; subst h
        have ih := asking_run ht hk h3 h4 (i0 + 1)
        simp only [Instr.findAsking, Sem.run_bind, hq, Result.andThen_ok, Bool.false_eq_true, if_false, ih]
        cases j' with
        | none => rfl
        | some j' =>
          simp only [Option.bind_some, Option.map_some, List.getElem?_cons_succ]
          congr 2
          funext e
          congr 1
          omega
    · cases h

theorem now_run {d : TypeDesc} {ek : EK} (hd : match ek with | .num => ∃ k, d = .int k | .str => d = .string | _ => False) {k : AV} {kv : Value} (hk : RelV G k kv) :
    ∀ {kvs : List (AV × AV)} {es : List MapEntry} {j : Option Nat}, RelKV G kvs es → idxK ek k kvs = some j → ∀ i0, Instr.findNow d kv es i0 = some (j.bind fun j => (es[j]?).map fun e => (i0 + j, e.val))
  | _, _, j, .nil, h, i0 => by simp [idxK] at h; subst h; simp [Instr.findNow]
  | _, _, j, .cons k' v' e kvs es h1 h2 h3, h, i0 => by
    have hs : ∀ {p}, keyEq ek k k' = some p → Instr.sameNow d kv e.key = some p := by
      intro p hp
      cases ek <;> simp only at hd
      case num =>
        obtain ⟨kk, rfl⟩ := hd
        simp only [keyEq] at hp
        unfold leafEq at hp
        split at hp <;> (try cases hp)
        · rename_i heq; cases heq
          rw [hk.int_inv, h1.int_inv]
          split at hp
          · rename_i hkk; obtain rfl := kindEq_eq hkk; cases hp; simp [Instr.sameNow]
          · cases hp
        · rename_i heq; cases heq
        · rename_i heq; cases heq
      case str =>
        subst hd
        simp only [keyEq] at hp
        unfold leafEq at hp
        split at hp <;> (try cases hp)
        · rename_i heq; cases heq
        · obtain ⟨b1, e1, e2⟩ := hk.str_inv
          obtain ⟨b2, e3, e4⟩ := h1.str_inv
          rw [e1, e3]
          simp only [Instr.sameNow, str_beq e2 e4]
        · rename_i heq; cases heq
    simp only [idxK] at h
    split at h
    · rename_i he
      cases h
      simp [Instr.findNow, hs he]
    · rename_i he
      cases h4 : idxK ek k kvs with
      | none => rw [h4] at h; simp at h
      | some j' =>
        rw [h4] at h
        simp at h; subst h
        have ih := now_run hd hk h3 h4 (i0 + 1)
        simp only [Instr.findNow, hs he, ih]
        cases j' with
        | none => rfl
        | some j' =>
          simp only [Option.bind_some, Option.map_some, List.getElem?_cons_succ]
          congr 2
          funext e
          congr 1
          omega
    · cases h

theorem find_run {t : TypeId} {ek : EK} (ht : keyT P t ek = true) {k : AV} {kv : Value} (hk : RelV G k kv) {kvs : List (AV × AV)} {es : List MapEntry} {j : Option Nat} (hR : RelKV G kvs es) (h : idxK ek k kvs = some j) :
    (Instr.findKey t kv es).run P w = .ok (j.bind fun j => (es[j]?).map fun e => (j, e.val)) w := by
  have ask := asking_run (P := P) (w := w) ht hk hR h 0
  simp only [Nat.zero_add] at ask
  cases ek <;> simp only [keyT, Bool.false_eq_true] at ht
  case num =>
    split at ht
    · rename_i kk hu
      have := now_run (ek := .num) (d := .int kk) ⟨kk, rfl⟩ hk hR h 0
      simp only [Nat.zero_add] at this
      simp only [Instr.findKey, Sem.run_bind, run_underlying hu, Result.andThen_ok, this, Sem.run_pure]
    · cases ht
  case str =>
    split at ht
    · rename_i hu
      have := now_run (ek := .str) (d := .string) rfl hk hR h 0
      simp only [Nat.zero_add] at this
      simp only [Instr.findKey, Sem.run_bind, run_underlying hu, Result.andThen_ok, this, Sem.run_pure]
    · cases ht
  case agg ks =>
    simp only [Bool.and_eq_true] at ht
    have h1 := ht.1
    split at h1
    · rename_i fs hu
      simp only [Instr.findKey, Sem.run_bind, run_underlying hu, Result.andThen_ok]
      cases hf : Instr.findNow (TypeDesc.struct fs) kv es 0 with
      | none => simp only [hf]; exact ask
      | some r =>
        simp only [hf, Sem.run_pure]
        cases es with
        | nil =>
          cases hR
          simp [idxK] at h; subst h
          simp [Instr.findNow] at hf; subst hf; rfl
        | cons e es => simp [Instr.findNow, Instr.sameNow] at hf
    · cases h1
end Go.AM

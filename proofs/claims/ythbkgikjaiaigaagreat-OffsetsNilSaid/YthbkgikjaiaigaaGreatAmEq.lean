import Derived.Test.YthbkgikjaiaigaaGreatAmOps3
import Derived.Laws.StructEq
namespace Go.AM
set_option linter.all false
open Go.RowKit
variable {P : Program} {w : World} {G : Gh}

mutual
/-- The kinds of a type's leaves, if '==' on it goes by them. -/
def flatT (P : Program) : Nat → TypeId → Option (List EK)
  | 0, _ => none
  | f + 1, t => match P.info? t with
    | none => none
    | some i => match P.underlying t with
      | some (.int _) => if i.size = 1 then some [.num] else none
      | some .string => if i.size = 1 then some [.str] else none
      | some .bool => if i.size = 1 then some [.bool] else none
      | some (.struct fs) => if P.stoodInHeld t = false then flatFs P f 0 fs.toList else none
      | _ => none
def flatFs (P : Program) : Nat → Nat → List Field → Option (List EK)
  | _, _, [] => some []
  | 0, _, _ :: _ => none
  | f + 1, off, fd :: r => if fd.name ≠ "_" ∧ fd.offset = off then match P.info? fd.type, flatT P f fd.type with
      | some i, some ks => if ks.length = i.size then match flatFs P f (off + i.size) r with
          | some ks' => some (ks ++ ks')
          | none => none
        else none
      | _, _ => none
    else none
end

theorem leavesEq_length : ∀ {ks : List EK} {a b : List AV} {p : Bool}, leavesEq ks a b = some p → a.length = ks.length ∧ b.length = ks.length
  | [], [], [], _, _ => ⟨rfl, rfl⟩
  | [], [], _ :: _, _, h => by simp [leavesEq] at h
  | [], _ :: _, _, _, h => by simp [leavesEq] at h
  | _ :: _, [], _, _, h => by simp [leavesEq] at h
  | _ :: _, _ :: _, [], _, h => by simp [leavesEq] at h
  | k :: ks, x :: a, y :: b, p, h => by
    simp only [leavesEq] at h
    split at h
    · rename_i h2
      have := leavesEq_length h2
      simp [this.1, this.2]
    · cases h

theorem leavesEq_split : ∀ (k1 : List EK) {k2 : List EK} {a b : List AV} {p : Bool}, leavesEq (k1 ++ k2) a b = some p →
    ∃ q r, leavesEq k1 (a.take k1.length) (b.take k1.length) = some q ∧ leavesEq k2 (a.drop k1.length) (b.drop k1.length) = some r ∧ p = (q && r)
  | [], k2, a, b, p, h => ⟨true, p, by simp [leavesEq], by simpa using h, by simp⟩
  | k :: k1, k2, [], b, p, h => by simp [leavesEq] at h
  | k :: k1, k2, _ :: _, [], p, h => by simp [leavesEq] at h
  | k :: k1, k2, x :: a, y :: b, p, h => by
    simp only [leavesEq, List.cons_append] at h
    split at h
    · rename_i p1 q1 h1 h2
      cases h
      obtain ⟨q, r, e1, e2, rfl⟩ := leavesEq_split k1 h2
      exact ⟨p1 && q, r, by simp [leavesEq, h1, e1], by simpa using e2, by simp [Bool.and_assoc]⟩
    · cases h

theorem str_beq {s s' : List Nat} {b b' : ByteArray} (h : b.data.toList.map UInt8.toNat = s) (h' : b'.data.toList.map UInt8.toNat = s') : (b == b') = listEq s s' := by
  rw [beq_toListBytes, ba_toList, ba_toList, listEq_bytes, h, h']

theorem leaf_run {d : Nat} {t : TypeId} {ek : EK} {a b : AV} {x y : Value} {p : Bool} (hk : (match ek with | .num => ∃ k, P.underlying t = some (.int k) | .str => P.underlying t = some .string | .bool => P.underlying t = some .bool | _ => False))
    (ha : RelV G a x) (hb : RelV G b y) (h : leafEq ek a b = some p) : (Op.equalIn (d + 1) t x y).run P w = .ok p w := by
  unfold leafEq at h
  split at h
  · obtain ⟨kk, hk⟩ := hk
    obtain rfl := ha.int_inv; obtain rfl := hb.int_inv
    split at h
    · rename_i hkk
      obtain rfl := kindEq_eq hkk
      cases h
      exact run_equalIn_int w d t _ kk _ _ hk
    · cases h
  · obtain ⟨bx, rfl, h1⟩ := ha.str_inv; obtain ⟨by_, rfl, h2⟩ := hb.str_inv
    cases h
    rw [← str_beq h1 h2]
    simp [Op.equalIn, run_underlying hk]
  · obtain rfl := ha.bool_inv; obtain rfl := hb.bool_inv
    cases h
    simp [Op.equalIn, run_underlying hk]
  · cases h

theorem part_leaf {t : TypeId} {d : TypeDesc} (hd : P.underlying t = some d) (hn : aggD d = false) (xs : List Value) (off : Nat) (v : Value) (h : xs[off]? = some v) : (part t xs.toArray off).run P w = .ok v w := by
  have : xs.toArray[off]? = some v := by simpa using h
  simp only [part, Sem.run_bind, isAgg_run hd hn, Result.andThen_ok, Bool.false_eq_true, if_false, this, Sem.run_pure]

theorem part_agg {t : TypeId} {d : TypeDesc} {i : TypeInfo} (hd : P.underlying t = some d) (hn : aggD d = true) (hi : P.info? t = some i) (xs : List Value) (off : Nat) :
    (part t xs.toArray off).run P w = .ok (.agg ((xs.drop off).take i.size).toArray) w := by
  simp only [part, Sem.run_bind, isAgg_run hd hn, Result.andThen_ok, if_true, size_run hi, Sem.run_pure]
  congr 2
  apply Array.ext'
  simp [List.extract_eq_take_drop]

mutual
theorem flat_run : ∀ (f : Nat) {t : TypeId} {ks : List EK}, flatT P f t = some ks → ∀ {as bs : List AV} {xs ys : List Value} {p : Bool}, RelL G true as xs → RelL G true bs ys → leavesEq ks as bs = some p → ∀ d, f ≤ d →
    (∃ fs, P.underlying t = some (.struct fs) ∧ (Op.equalIn d t (.agg xs.toArray) (.agg ys.toArray)).run P w = .ok p w) ∨
    (∃ dd x y, P.underlying t = some dd ∧ aggD dd = false ∧ xs = [x] ∧ ys = [y] ∧ (Op.equalIn d t x y).run P w = .ok p w)
  | 0, t, ks, h => by simp [flatT] at h
  | f + 1, t, ks, h => by
    rename_i as bs xs ys p
    intro ha hb hp d hd
    obtain ⟨d, rfl⟩ : ∃ m, d = m + 1 := ⟨d - 1, by omega⟩
    simp only [flatT] at h
    have leaf : ∀ (ek : EK) (dd : TypeDesc), ks = [ek] → P.underlying t = some dd → aggD dd = false → (match ek with | .num => ∃ k, P.underlying t = some (.int k) | .str => P.underlying t = some .string | .bool => P.underlying t = some .bool | _ => False) →
        (∃ dd x y, P.underlying t = some dd ∧ aggD dd = false ∧ xs = [x] ∧ ys = [y] ∧ (Op.equalIn (d + 1) t x y).run P w = .ok p w) := by
      intro ek dd hks hdd hagg hek
      subst hks
      have hl := leavesEq_length hp
      match as, bs, ha, hb, hl with
      | [a], [b], .cons _ _ x _ _ r1 _ (.nil _), .cons _ _ y _ _ r2 _ (.nil _), _ =>
        refine ⟨dd, x, y, hdd, hagg, rfl, rfl, ?_⟩
        simp only [leavesEq] at hp
        split at hp
        · rename_i q1 q2 e1 e2
          cases hp; cases e2
          simpa using leaf_run (G := G) hek r1 r2 e1
        · cases hp
    split at h
    · cases h
    · rename_i i hi
      split at h
      · rename_i k hu
        split at h <;> cases h
        exact .inr (leaf .num _ rfl hu rfl ⟨k, hu⟩)
      · rename_i hu
        split at h <;> cases h
        exact .inr (leaf .str _ rfl hu rfl hu)
      · rename_i hu
        split at h <;> cases h
        exact .inr (leaf .bool _ rfl hu rfl hu)
      · rename_i fs hu
        split at h
        · rename_i hst
          refine .inl ⟨fs, hu, ?_⟩
          have hfo : P.fieldsOf t = fs := by simp [Program.fieldsOf, hu]
          rw [run_equalIn_agg w d t _ _ (by rw [hfo]; exact hu) hst, hfo]
          exact flatFs_run f h ha hb (off := 0) (by simpa using hp) d (by omega)
        · cases h
      · cases h
theorem flatFs_run : ∀ (f : Nat) {off : Nat} {fs : List Field} {ks : List EK}, flatFs P f off fs = some ks → ∀ {as bs : List AV} {xs ys : List Value} {p : Bool}, RelL G true as xs → RelL G true bs ys →
    leavesEq ks (as.drop off) (bs.drop off) = some p → ∀ d, f ≤ d → (Op.eqFields d xs.toArray ys.toArray fs).run P w = .ok p w
  | f, off, [], ks, h => by
    rename_i as bs xs ys p
    intro ha hb hp d hd
    simp [flatFs] at h; subst h
    cases hA : as.drop off <;> cases hB : bs.drop off <;> rw [hA, hB] at hp <;> simp [leavesEq] at hp
    subst hp
    simp [Op.eqFields]
  | 0, off, _ :: _, ks, h => by simp [flatFs] at h
  | f + 1, off, fd :: r, ks, h => by
    rename_i as bs xs ys p
    intro ha hb hp d hd
    simp only [flatFs] at h
    split at h
    · rename_i hn
      obtain ⟨hname, hoff⟩ := hn
      split at h
      · rename_i i k1 hi hT
        split at h
        · rename_i hlen
          split at h
          · rename_i k2 hr
            cases h
            obtain ⟨q, s, e1, e2, rfl⟩ := leavesEq_split k1 hp
            rw [List.drop_drop, List.drop_drop, hlen] at e2
            rw [hlen] at e1
            have hrest := flatFs_run f hr ha hb (p := s) e2 d (by omega)
            have hA := (ha.drop off).take i.size
            have hB := (hb.drop off).take i.size
            have hfd : ∃ u v, (part fd.type xs.toArray fd.offset).run P w = .ok u w ∧ (part fd.type ys.toArray fd.offset).run P w = .ok v w ∧ (Op.equalIn d fd.type u v).run P w = .ok q w := by
              rcases flat_run f hT hA hB e1 d (by omega) with ⟨fs', hu, hrun⟩ | ⟨dd, x, y, hu, hag, hx, hy, hrun⟩
              · exact ⟨_, _, by rw [hoff]; exact part_agg hu rfl hi xs off, by rw [hoff]; exact part_agg hu rfl hi ys off, hrun⟩
              · have h1 : ∀ {zs : List Value} {z : Value}, (zs.drop off).take i.size = [z] → zs[off]? = some z := by
                  intro zs z hz
                  have := congrArg (fun l => l[0]?) hz
                  simp only [List.getElem?_take, List.getElem?_drop, Nat.add_zero, List.getElem?_cons_zero] at this
                  split at this
                  · exact this
                  · cases this
                exact ⟨x, y, by rw [hoff]; exact part_leaf hu hag xs off x (h1 hx), by rw [hoff]; exact part_leaf hu hag ys off y (h1 hy), hrun⟩
            obtain ⟨u, v, e3, e4, e5⟩ := hfd
            simp only [Op.eqFields, if_pos hname, Sem.run_bind, e3, e4, e5, Result.andThen_ok]
            cases q
            · simp
            · simp [hrest]
          · cases h
        · cases h
      · cases h
    · cases h
end

def kindT (P : Program) (t : TypeId) : EK → Bool
  | .num => match P.underlying t with | some (.int _) => true | some (.interface _) => true | _ => false
  | .str => match P.underlying t with | some .string => true | _ => false
  | .bool => match P.underlying t with | some .bool => true | _ => false
  | .ptr => match P.underlying t with | some (.pointer _) => true | _ => false
  | .slice => match P.underlying t with | some (.slice _) => true | _ => false
  | .map => match P.underlying t with | some (.map _ _) => true | _ => false
  | .func => match P.underlying t with | some (.func ..) => true | _ => false
  | .agg ks => (match P.underlying t with | some (.struct _) => true | _ => false) && !(P.eqGuardType P.depth t) && (match flatT P 20 t with | some ks' => ekL ks ks' | none => false)
where
  ek1 : EK → EK → Bool
    | .num, .num | .str, .str | .bool, .bool => true
    | _, _ => false
  ekL : List EK → List EK → Bool
    | [], [] => true
    | a :: x, b :: y => ek1 a b && ekL x y
    | _, _ => false

theorem ekL_eq : ∀ {a b : List EK}, kindT.ekL a b = true → a = b
  | [], [], _ => rfl
  | [], _ :: _, h => by simp [kindT.ekL] at h
  | _ :: _, [], h => by simp [kindT.ekL] at h
  | x :: a, y :: b, h => by
    simp only [kindT.ekL, Bool.and_eq_true] at h
    have := ekL_eq h.2
    subst this
    congr 1
    have h1 := h.1
    cases x <;> cases y <;> simp [kindT.ek1] at h1 ⊢

end Go.AM

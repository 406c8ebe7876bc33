import Derived.Test.YthbkgikjaiaigaaGreatAmOps4
import Derived.Laws.IdiomStrings
import Derived.Laws.BytesArg
namespace Go.AM
set_option linter.all false
open Go.RowKit
variable {P : Program} {w0 : Base} {w : World} {G : Gh} {σ : St}

/-- What a view tells: where its cells lie. -/
theorem view_rel (hW : W w0 G σ w) {k n : Nat} {x : AV} {v : Value} {xs : List AV} (hx : RelV G x v) (h : view k σ x = some (n, xs)) :
    xs.length = n * k ∧ ∃ us, RelL G true xs us ∧
      ((∃ b, v = .string b ∧ b.size = n ∧ us = b.data.toList.map fun c => Value.int .u8 c.toNat) ∨
       (n = 0 ∧ us = [] ∧ ∃ a cap, v = .slice a 0 cap) ∨
       (∃ a cap, v = .slice (some a) n cap ∧ ∀ j u, us[j]? = some u → w.cell? (a.add j) = some u)) := by
  cases x <;> simp only [view, reduceCtorEq] at h
  case nils =>
    cases h
    cases hx
    exact ⟨by simp, [], .nil _, .inr (.inl ⟨rfl, rfl, _, _, rfl⟩)⟩
  case str s =>
    split at h
    case isFalse => cases h
    rename_i hk
    simp at hk; subst hk
    cases h
    obtain ⟨b, rfl, hb⟩ := hx.str_inv
    refine ⟨by simp [byteCells], _, ?_, .inl ⟨b, rfl, by rw [← hb, List.length_map, Array.length_toList]; rfl, rfl⟩⟩
    subst hb
    generalize b.data.toList = l
    induction l with
    | nil => exact .nil _
    | cons c l ih => exact .cons _ _ _ _ _ (.int _ _) (fun _ => rfl) ih
  case sl k' own len cs =>
    split at h
    · rename_i hk
      simp at hk; subst hk
      cases h
      cases hx with
      | sl0 => exact ⟨by simp, [], .nil _, .inr (.inl ⟨rfl, rfl, _, _, rfl⟩)⟩
      | slx => exact ⟨by simp, [], .nil _, .inr (.inl ⟨rfl, rfl, _, _, rfl⟩)⟩
      | sl _ _ _ _ b off pre tot cap q1 q2 q3 q4 q5 q6 =>
        refine ⟨q2, _, q5, .inr ?_⟩
        by_cases h0 : xs.length = 0
        · by_cases hn : n = 0
          · subst hn
            left
            have : xs = [] := List.eq_nil_of_length_eq_zero h0
            subst this
            exact ⟨rfl, by simp, _, _, rfl⟩
          · right
            refine ⟨_, cap, rfl, ?_⟩
            have : xs = [] := List.eq_nil_of_length_eq_zero h0
            subst this
            intro j u hj; simp at hj
        · right
          exact ⟨_, cap, rfl, cells_of_arr hW q4 (take_drop_len q5.length (by omega))⟩
    · cases h
  case ms k' l off len =>
    split at h
    · rename_i hk
      simp at hk; subst hk
      split at h
      · rename_i cs hl
        split at h
        · rename_i hle
          cases h
          cases hx with
          | ms _ _ _ _ b base tot cap q1 q2 q3 =>
            obtain ⟨b', base', tot', c, el, h1, h2, h3, h4, h5, h6⟩ := hW.obj l _ hl
            rw [q1] at h1; cases h1
            have hlen := h6.length
            have hR := (h6.drop off).take (n * k)
            have e : (List.drop off (List.take cs.length (List.drop base c.toList))).take (n * k) = (c.toList.drop (base + off)).take (n * k) := by
              rw [List.drop_take, List.drop_drop, List.take_take, Nat.min_eq_left (by omega)]
            rw [e] at hR
            refine ⟨?_, _, hR, .inr (.inr ⟨_, cap, rfl, cells_of_obj h3⟩)⟩
            simp only [List.length_take, List.length_drop]; omega
        · cases h
      · cases h
    · cases h

theorem bytesOf_rel : ∀ {cs : List AV} {us : List Value} {s : List Nat}, RelL G true cs us → bytesOf cs = some s → ∃ bs : List UInt8, us = bs.map (fun c => Value.int .u8 c.toNat) ∧ bs.map UInt8.toNat = s
  | [], _, s, .nil _, h => by simp [bytesOf] at h; subst h; exact ⟨[], rfl, rfl⟩
  | c :: cs, _, s, .cons _ _ u _ us h1 _ h3, h => by
    unfold bytesOf at h
    split at h
    · rename_i heq; cases heq
    · rename_i n r heq
      cases heq
      split at h
      · rename_i hb
        split at h
        · rename_i l hl
          cases h
          obtain ⟨bs, rfl, hbs⟩ := bytesOf_rel h3 hl
          obtain rfl := h1.int_inv
          refine ⟨UInt8.ofNat n.toNat :: bs, ?_, ?_⟩
          · simp only [List.map_cons, List.cons.injEq, and_true, Value.int.injEq, true_and]
            have : (UInt8.ofNat n.toNat).toNat = n.toNat := by simp [UInt8.toNat_ofNat']; omega
            rw [this]; omega
          · simp only [List.map_cons, hbs, List.cons.injEq, and_true]
            simp [UInt8.toNat_ofNat']; omega
        · cases h
      · cases h
    · cases h

theorem bytes_rel (G : Gh) : ∀ l : List UInt8, RelL G true (byteCells (l.map UInt8.toNat)) (l.map fun c => Value.int .u8 c.toNat)
  | [] => .nil _
  | _ :: l => .cons _ _ _ _ _ (.int _ _) (fun _ => rfl) (bytes_rel G l)

def convT (P : Program) (sd dd : TypeDesc) : AConv → Prop
  | .int k => dd = .int k
  | .same => dd = .string
  | .toBytes => sd = .string ∧ ∃ e, dd = .slice e ∧ P.underlying e = some (.int .u8)
  | .toStr => dd = .string ∧ ∃ e, sd = .slice e ∧ P.underlying e = some (.int .u8)

theorem conv_ok (hW : W w0 G σ w) {c : AConv} {src dst : TypeId} {sd dd : TypeDesc} (hs : P.underlying src = some sd) (hd : P.underlying dst = some dd)
    (hk : convT P sd dd c)
    {x r : AV} {v : Value} (hx : RelV G x v) (h : aConv c σ x = some r) : ValOk w0 G σ r ((convert src dst v).run P w) := by
  cases c <;> simp only [convT] at hk
  case int k =>
    subst hk
    cases x <;> simp only [aConv, reduceCtorEq, Option.some.injEq] at h
    subst h
    obtain rfl := hx.int_inv
    exact ValOk.pure hW (by simp [convert, run_underlying hs, run_underlying hd, Conv.intToInt]) (.int _ _)
  case same =>
    subst hk
    cases x <;> simp only [aConv, reduceCtorEq, Option.some.injEq] at h
    subst h
    obtain ⟨b, rfl, hb⟩ := hx.str_inv
    exact ValOk.pure hW (by simp [convert, run_underlying hs, run_underlying hd]) (.str _ _ hb)
  case toBytes =>
    obtain ⟨rfl, e, rfl, he⟩ := hk
    cases x <;> simp only [aConv, reduceCtorEq, Option.some.injEq] at h
    subst h
    obtain ⟨b, rfl, hb⟩ := hx.str_inv
    have hrun := run_bytes_of_string (P := P) w src dst e b hs hd he
    generalize hcap : grownCap w b.size 0 e = cap at hrun
    have hge : b.size ≤ cap := by rw [← hcap]; exact grownCap_ge w b.size 0 e
    have hpre : (b.data.toList.map fun c => Value.int .u8 c.toNat) <+: (bytesRow b cap).toList := ⟨List.replicate (cap - b.size) (.int .u8 0), by simp [bytesRow]⟩
    obtain ⟨hW', hG⟩ := hW.drew.newFix (bytesRow b cap) e ((bytesRow b cap).size, (bytesRow b cap).size + 1) _ hpre
    have hW0 : w.drew.heap.size = w.heap.size := rfl
    refine ⟨_, _, _, hrun, hG, hW', ?_⟩
    subst hb
    have hlen : (b.data.toList.map UInt8.toNat).length = b.size := by rw [List.length_map, Array.length_toList]; rfl
    have hlen2 : b.data.toList.length = b.size := by rw [Array.length_toList]; rfl
    have hcs : (byteCells (b.data.toList.map UInt8.toNat)).length = b.size := by rw [byteCells, List.length_map, hlen]
    have hrow : (bytesRow b cap).size = cap := by
      simp only [bytesRow, Array.size_append, Array.size_map, Array.size_replicate]
      have : b.data.size = b.size := rfl
      omega
    rw [hlen]
    refine RelV.sl 1 .none b.size _ w.heap.size 0 (b.data.toList.map fun c => Value.int .u8 c.toNat) (bytesRow b cap).size cap hge (by rw [hcs]; omega) (by omega) ?_ ?_ trivial
    · simp [Gh.addΓ]
    · rw [hcs, List.drop_zero, List.take_of_length_le (by rw [List.length_map, hlen2]; exact Nat.le_refl _)]
      exact bytes_rel _ _
  case toStr =>
    obtain ⟨rfl, e, rfl, he⟩ := hk
    have h' : (match view 1 σ x with
      | some (_, cs) => match bytesOf cs with | some l => some (AV.str l) | .none => .none
      | .none => .none) = some r ∧ ∀ s, x ≠ .str s := by
      cases x <;> simp only [aConv, reduceCtorEq] at h <;> exact ⟨h, by simp⟩
    obtain ⟨h1, h2⟩ := h'
    split at h1
    · rename_i n cs hv
      split at h1
      · rename_i l hl
        cases h1
        obtain ⟨hlen, us, hR, hcase⟩ := view_rel hW hx hv
        obtain ⟨bs, rfl, hbs⟩ := bytesOf_rel hR hl
        have hn : ∀ a cap, v = .slice a n cap → bs.length = n := by
          rintro a cap rfl
          rw [hR.length] at hlen; simpa using hlen
        rcases hcase with ⟨b, rfl, _, _⟩ | ⟨rfl, hnil, a, cap, rfl⟩ | ⟨a, cap, rfl, hc⟩
        · cases hx with
          | undef => simp [view] at hv
          | str s _ hb => exact absurd rfl (h2 s)
        · have : bs = [] := by cases bs <;> simp_all
          subst this
          simp at hbs; subst hbs
          cases a with
          | none => exact ValOk.pure hW (run_convert_bytes_nil w src e hs he 0 cap dst hd) (.str _ _ rfl)
          | some a => exact ValOk.pure hW (run_convert_bytes_back w src dst e a cap [] hs he hd (by simp)) (.str _ _ rfl)
        · have hl' := hn _ _ rfl
          have hrun := run_convert_bytes_back (P := P) w src dst e a cap bs hs he hd (fun j hj => hc j _ (by simp [hj]))
          rw [hl'] at hrun
          exact ValOk.pure hW hrun (.str _ _ (by simpa using hbs))
      · cases h1
    · cases h1
end Go.AM

/- The abstract machine's relation to the model's worlds. -/
import Derived.Test.YthbkgikjaiaigaaGreatAmCore
import Derived.Below
import Derived.Laws.Append
import Derived.Laws.AppendOwn
import Derived.Laws.CopyRow
import Derived.Laws.Rows
namespace Go.AM
set_option linter.all false
open Go.RowKit

structure Gh where
  ρ : Nat → Option (Nat × Nat × Nat)
  Γ : Nat → Option (List Value × Nat)
  Φ : Nat → Option (Nat × Nat)

def Gh.ownOk (G : Gh) (b off k len cap plen : Nat) : Own → Prop
  | .none => True
  | .exact => cap = len
  | .fam l e => ∃ e' b', G.Φ l = some (e', b') ∧ e ≤ e' ∧ (e = e' → b' = b ∧ plen = off + len * k)

mutual
inductive RelV (G : Gh) : AV → Value → Prop where
  | undef (v) : RelV G .undef v
  | int (k n) : RelV G (.int k n) (.int k n)
  | bool (b) : RelV G (.bool b) (.bool b)
  | str (s b) : b.data.toList.map UInt8.toNat = s → RelV G (.str s) (.string b)
  | nilp : RelV G .nilp (.pointer none)
  | ptr (l off b base tot) : G.ρ l = some (b, base, tot) → RelV G (.ptr l off) (.pointer (some ⟨b, base + off, none⟩))
  | eptr (cs b off pre tot) : G.Γ b = some (pre, tot) → RelL G true cs ((pre.drop off).take cs.length) → RelV G (.eptr cs) (.pointer (some ⟨b, off, none⟩))
  | nils : RelV G .nils (.slice none 0 0)
  | sl0 (k a cap) : RelV G (.sl k .none 0 []) (.slice (some a) 0 cap)
  | slx (k a) : RelV G (.sl k .exact 0 []) (.slice (some a) 0 0)
  | sl (k own len cs b off pre tot cap) : len ≤ cap → cs.length = len * k → off + cap * k ≤ tot → G.Γ b = some (pre, tot) →
      RelL G true cs ((pre.drop off).take cs.length) → G.ownOk b off k len cap pre.length own → RelV G (.sl k own len cs) (.slice (some ⟨b, off, none⟩) len cap)
  | ms (k l off len b base tot cap) : G.ρ l = some (b, base, tot) → len ≤ cap → base + off + cap * k ≤ tot →
      RelV G (.ms k l off len) (.slice (some ⟨b, base + off, none⟩) len cap)
  | nilm : RelV G .nilm (.map none)
  | mp (l b base tot) : G.ρ l = some (b, base, tot) → RelV G (.mp l) (.map (some b))
  | nilf : RelV G .nilf .nilFunc
  | fn (f first cap vs ws) : RelL G false first vs.toList → RelL G false cap ws.toList → RelV G (.fn f first cap) (.func (.func f) vs ws)
  | agg (cs vs) : RelL G true cs vs.toList → RelV G (.agg cs) (.agg vs)
  | tup (cs vs) : RelL G false cs vs.toList → RelV G (.tup cs) (.tuple vs)
inductive RelL (G : Gh) : Bool → List AV → List Value → Prop where
  | nil (b) : RelL G b [] []
  | cons (b c v cs vs) : RelV G c v → (b = true → v.oneCell' = true) → RelL G b cs vs → RelL G b (c :: cs) (v :: vs)
end

structure Gle (G G' : Gh) : Prop where
  ρ : ∀ l x, G.ρ l = some x → G'.ρ l = some x
  Γ : ∀ b pre tot, G.Γ b = some (pre, tot) → ∃ ext, G'.Γ b = some (pre ++ ext, tot)
  Φ : ∀ l e b, G.Φ l = some (e, b) → ∃ e' b', G'.Φ l = some (e', b') ∧ e ≤ e' ∧ (e = e' → b' = b ∧ G'.Γ b = G.Γ b)

theorem Gle.refl (G : Gh) : Gle G G := ⟨fun _ _ h => h, fun _ _ _ h => ⟨[], by simpa using h⟩, fun _ _ _ h => ⟨_, _, h, Nat.le_refl _, fun _ => ⟨rfl, rfl⟩⟩⟩

theorem Gle.trans {A B C : Gh} (h : Gle A B) (k : Gle B C) : Gle A C where
  ρ l x hx := k.ρ l x (h.ρ l x hx)
  Γ b pre tot hx := by
    obtain ⟨e1, h1⟩ := h.Γ b pre tot hx
    obtain ⟨e2, h2⟩ := k.Γ _ _ _ h1
    exact ⟨e1 ++ e2, by rw [h2, List.append_assoc]⟩
  Φ l e b hx := by
    obtain ⟨e1, b1, h1, l1, r1⟩ := h.Φ l e b hx
    obtain ⟨e2, b2, h2, l2, r2⟩ := k.Φ l e1 b1 h1
    refine ⟨e2, b2, h2, Nat.le_trans l1 l2, fun heq => ?_⟩
    have q1 : e = e1 := by omega
    have q2 : e1 = e2 := by omega
    obtain ⟨rfl, a1⟩ := r1 q1
    obtain ⟨rfl, a2⟩ := r2 q2
    exact ⟨rfl, a2.trans a1⟩

theorem RelL.length {G : Gh} {b : Bool} : ∀ {cs : List AV} {vs : List Value}, RelL G b cs vs → cs.length = vs.length
  | _, _, .nil _ => rfl
  | _, _, .cons _ _ _ _ _ _ _ h => by simp [h.length]

theorem Gh.ownOk.mono {G G' : Gh} (hG : Gle G G') {b off k len cap : Nat} {pre pre' : List Value} {tot : Nat} (h0 : G.Γ b = some (pre, tot)) (h1 : G'.Γ b = some (pre', tot)) :
    ∀ {own : Own}, G.ownOk b off k len cap pre.length own → G'.ownOk b off k len cap pre'.length own
  | .none, _ => trivial
  | .exact, h => h
  | .fam l e, h => by
    obtain ⟨e1, b1, hΦ, hle, heq⟩ := h
    obtain ⟨e2, b2, hΦ', hle', heq'⟩ := hG.Φ l e1 b1 hΦ
    refine ⟨e2, b2, hΦ', Nat.le_trans hle hle', fun q => ?_⟩
    have q1 : e = e1 := by omega
    have q2 : e1 = e2 := by omega
    obtain ⟨rfl, hl⟩ := heq q1
    obtain ⟨rfl, hΓ⟩ := heq' q2
    rw [h0, h1] at hΓ
    simp only [Option.some.injEq, Prod.mk.injEq, and_true] at hΓ
    exact ⟨rfl, by rw [hΓ]; exact hl⟩

theorem take_drop_app {α : Type} (pre ext : List α) (off n : Nat) (h : off + n ≤ pre.length) : ((pre ++ ext).drop off).take n = (pre.drop off).take n := by
  rw [List.drop_append_of_le_length (by omega), List.take_append_of_le_length (by simp; omega)]

theorem take_drop_len {α : Type} {pre : List α} {off n : Nat} (h : n = ((pre.drop off).take n).length) (h0 : 0 < n) : off + n ≤ pre.length := by
  simp only [List.length_take, List.length_drop] at h
  omega

mutual
theorem RelV.mono {G G' : Gh} (hG : Gle G G') : ∀ {a : AV} {v : Value}, RelV G a v → RelV G' a v
  | _, _, .undef v => .undef v
  | _, _, .int k n => .int k n
  | _, _, .bool b => .bool b
  | _, _, .str s b h => .str s b h
  | _, _, .nilp => .nilp
  | _, _, .ptr l off b base tot h => .ptr l off b base tot (hG.ρ _ _ h)
  | _, _, .eptr cs b off pre tot h hr => by
    obtain ⟨ext, hx⟩ := hG.Γ _ _ _ h
    have hr' := hr.mono hG
    refine .eptr cs b off _ tot hx ?_
    by_cases h0 : cs.length = 0
    · rw [h0]; rw [h0] at hr'; simpa using hr'
    · rw [take_drop_app _ _ _ _ (take_drop_len hr.length (by omega))]; exact hr'
  | _, _, .nils => .nils
  | _, _, .sl0 k a cap => .sl0 k a cap
  | _, _, .slx k a => .slx k a
  | _, _, .sl k own len cs b off pre tot cap h1 h2 h3 h4 h5 h6 => by
    obtain ⟨ext, hx⟩ := hG.Γ _ _ _ h4
    have hr' := h5.mono hG
    refine .sl k own len cs b off _ tot cap h1 h2 h3 hx ?_ (h6.mono hG h4 hx)
    by_cases h0 : cs.length = 0
    · rw [h0]; rw [h0] at hr'; simpa using hr'
    · rw [take_drop_app _ _ _ _ (take_drop_len h5.length (by omega))]; exact hr'
  | _, _, .ms k l off len b base tot cap h1 h2 h3 => .ms k l off len b base tot cap (hG.ρ _ _ h1) h2 h3
  | _, _, .nilm => .nilm
  | _, _, .mp l b base tot h => .mp l b base tot (hG.ρ _ _ h)
  | _, _, .nilf => .nilf
  | _, _, .fn f first cap vs ws h1 h2 => .fn f first cap vs ws (h1.mono hG) (h2.mono hG)
  | _, _, .agg cs vs h => .agg cs vs (h.mono hG)
  | _, _, .tup cs vs h => .tup cs vs (h.mono hG)
theorem RelL.mono {G G' : Gh} (hG : Gle G G') : ∀ {b : Bool} {cs : List AV} {vs : List Value}, RelL G b cs vs → RelL G' b cs vs
  | _, _, _, .nil b => .nil b
  | _, _, _, .cons b c v cs vs h1 h2 h3 => .cons b c v cs vs (h1.mono hG) h2 (h3.mono hG)
end

theorem RelL.append {G : Gh} {b : Bool} : ∀ {xs : List AV} {us : List Value} {ys : List AV} {vs : List Value}, RelL G b xs us → RelL G b ys vs → RelL G b (xs ++ ys) (us ++ vs)
  | _, _, _, _, .nil _, h => h
  | _, _, _, _, .cons _ _ _ _ _ h1 h2 h3, h => .cons _ _ _ _ _ h1 h2 (h3.append h)

theorem RelL.take {G : Gh} {b : Bool} : ∀ {xs : List AV} {us : List Value} (n : Nat), RelL G b xs us → RelL G b (xs.take n) (us.take n)
  | _, _, 0, _ => by simpa using RelL.nil b
  | _, _, _ + 1, .nil _ => by simpa using RelL.nil b
  | _, _, n + 1, .cons _ _ _ _ _ h1 h2 h3 => by simpa using RelL.cons _ _ _ _ _ h1 h2 (h3.take n)

theorem RelL.drop {G : Gh} {b : Bool} : ∀ {xs : List AV} {us : List Value} (n : Nat), RelL G b xs us → RelL G b (xs.drop n) (us.drop n)
  | _, _, 0, h => by simpa using h
  | _, _, _ + 1, .nil _ => by simpa using RelL.nil b
  | _, _, n + 1, .cons _ _ _ _ _ _ _ h3 => by simpa using h3.drop n

theorem RelL.get {G : Gh} {b : Bool} : ∀ {xs : List AV} {us : List Value} {i : Nat} {x : AV}, RelL G b xs us → xs[i]? = some x → ∃ v, us[i]? = some v ∧ RelV G x v ∧ (b = true → v.oneCell' = true)
  | _, _, _, _, .nil _, h => by simp at h
  | _, _, 0, _, .cons _ _ _ _ _ h1 h2 _, h => by
    simp at h; subst h; exact ⟨_, by simp, h1, h2⟩
  | _, _, i + 1, _, .cons _ _ _ _ _ _ _ h3, h => by
    simp at h; obtain ⟨v, a, b⟩ := h3.get h; exact ⟨v, by simpa using a, b⟩

theorem RelL.ones {G : Gh} : ∀ {xs : List AV} {us : List Value}, RelL G true xs us → ∀ u ∈ us, u.oneCell' = true
  | _, _, .nil _, u, h => by simp at h
  | _, _, .cons _ _ _ _ _ _ h2 h3, u, h => by
    rcases List.mem_cons.1 h with rfl | h
    · exact h2 rfl
    · exact h3.ones u h

theorem RelL.weaken {G : Gh} : ∀ {xs : List AV} {us : List Value}, RelL G true xs us → RelL G false xs us
  | _, _, .nil _ => .nil _
  | _, _, .cons _ _ _ _ _ h1 _ h3 => .cons _ _ _ _ _ h1 (by simp) h3.weaken

/- Worlds -/

inductive RelKV (G : Gh) : List (AV × AV) → List MapEntry → Prop where
  | nil : RelKV G [] []
  | cons (k v e kvs es) : RelV G k e.key → RelV G v e.val → RelKV G kvs es → RelKV G ((k, v) :: kvs) (e :: es)

theorem RelKV.mono {G G' : Gh} (hG : Gle G G') : ∀ {kvs es}, RelKV G kvs es → RelKV G' kvs es
  | _, _, .nil => .nil
  | _, _, .cons k v e kvs es h1 h2 h3 => .cons k v e kvs es (h1.mono hG) (h2.mono hG) (h3.mono hG)

def ObjOk (N : Nat) (G : Gh) (w : World) (l : Nat) : AObj → Prop
  | .cells cs => ∃ b base tot c el, G.ρ l = some (b, base, tot) ∧ N ≤ b ∧ w.heap[b]? = some (.cells c el (0, 0)) ∧ c.size = tot ∧ base + cs.length ≤ tot ∧
      RelL G true cs ((c.toList.drop base).take cs.length)
  | .map kvs bs ck => ∃ b base tot es, G.ρ l = some (b, base, tot) ∧ N ≤ b ∧ w.heap[b]? = some (.map es ck) ∧ RelKV G kvs es.toList ∧ es.toList.map (·.born) = bs
  | .iter m since seen last => ∃ b mm, G.ρ l = some (b, 0, 0) ∧ N ≤ b ∧ w.heap[b]? = some (.mapIter mm since seen.toArray last) ∧ (match m with
      | .none => mm = none
      | some lm => ∃ bm base tot, mm = some bm ∧ G.ρ lm = some (bm, base, tot))
  | .fam e => ∃ b pre tot c el, G.Φ l = some (e, b) ∧ N ≤ b ∧ G.Γ b = some (pre, tot) ∧ w.heap[b]? = some (.cells c el (0, 0))

/-- The block of a live object. -/
def blk (G : Gh) (l : Nat) : AObj → Option Nat
  | .fam _ => (G.Φ l).map (·.2)
  | _ => (G.ρ l).map (·.1)

def AObj.isFam : AObj → Bool
  | .fam _ => true
  | _ => false

/-- Where a run began, and blocks that are set aside. -/
structure Base extends World where
  hid : List (Nat × Obj)

structure W (w0 : Base) (G : Gh) (σ : St) (w : World) : Prop where
  below : Below w0.heap.size w0.toWorld w
  obj : ∀ l o, σ.get l = some o → ObjOk w0.heap.size G w l o
  arr : ∀ b pre tot, G.Γ b = some (pre, tot) → ∃ c el fz, w.heap[b]? = some (.cells c el fz) ∧ c.size = tot ∧ pre <+: c.toList
  sep : ∀ l l' o o' b, σ.get l = some o → σ.get l' = some o' → l ≠ l' → blk G l o = some b → blk G l' o' ≠ some b
  sepΓ : ∀ l o b, σ.get l = some o → o.isFam = false → blk G l o = some b → G.Γ b = none
  fresh : ∀ l, σ.next ≤ l → σ.get l = none ∧ G.ρ l = none ∧ G.Φ l = none
  room : ∀ b x, G.Γ b = some x → b < w.heap.size
  roomΦ : ∀ l e b, G.Φ l = some (e, b) → b < w.heap.size
  famLive : ∀ l e b, G.Φ l = some (e, b) → σ.get l = some (.fam e)
  hid : ∀ b ob, (b, ob) ∈ w0.hid → w.heap[b]? = some ob ∧ G.Γ b = none ∧ ∀ l o, σ.get l = some o → blk G l o ≠ some b

end Go.AM

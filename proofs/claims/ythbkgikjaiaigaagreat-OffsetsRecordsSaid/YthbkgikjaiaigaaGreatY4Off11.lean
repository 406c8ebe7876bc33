import Derived.Test.YthbkgikjaiaigaaGreatY4Off10
namespace Go.AM.P
set_option linter.all false
open Go.AM
set_option linter.all false
variable {P : Program} {σ : St} {K : AV → St → Prop}

theorem j2_ok (H : Has P tab) (hA : Awake P N.towpathlaw14_awake) {l c : Nat} {p o m g t : Int} {key val : List Nat} {gone : Bool} {t2 : Int} (hk : ∀ c ∈ key, c < 256) (hv : ∀ c ∈ val, c < 256) (hl : val.length ≤ 1099511627776)
    (hc : σ.get c = some (.cells (c4 p o m g))) (hct : c < σ.next)
    (hg : σ.get l = some (.cells [.str key, .str val, .bool gone, .int .i64 t2])) (hlt : l < σ.next) (hK : ∀ σ', K (.bool true) σ') :
    j_towpathlaw14_OffsetsRecords_2 P K (.int .i64 t) (.ptr c 0) (.ptr l 0) σ := by
  rw [j_towpathlaw14_OffsetsRecords_2_eq]
  have ld : ∀ {s : St}, s.get c = some (.cells (c4 p o m g)) → loadnV s 4 (.ptr c 0) = some (.agg (c4 p o m g)) := fun h => loadn_ptr h (by simp [c4])
  rw [ld hc, valW_some]
  refine ours_ret H fun s3 E3 => ?_
  have c3 := E3.keep hct hc
  have g3 := E3.keep hlt hg
  have n3 := E3.next
  have main : ∀ (k v : List Nat) (tt e : Int), (e = 0 → okB p o m g t = true ∧ k = keyS p.toNat ∧ v = valueS o m g) →
      (∀ (s : St) (K' : AV → St → Prop), (∀ s', Kept s.next s s' → K' (.tup [recAV k v tt, .int .i64 e]) s') → Ret P N.offsets_Record [.agg (c4 p o m g), .int .i64 t] s K') →
      (∀ (s : St) (K' : AV → St → Prop), (∀ s', Kept s.next s s' → K' (.tup [recAV k v tt, .int .i64 e]) s') → Ret P N.towpathref14_Record [.agg (c4 p o m g), .int .i64 t] s K') →
      Ret P N.offsets_Record [.agg (c4 p o m g), .int .i64 t] s3 fun v7 s4 =>
        valW (extV v7 0) fun v8 =>
        valW (extV v7 1) fun v9 =>
        newW s4 (.cells [(.str []), (.str []), (.bool false), (.int .i64 0)]) fun v10 s5 =>
        stW (storeS 4 s5 v10 v8) fun s6 =>
        valW (loadnV s6 4 (.ptr c 0)) fun v11 =>
        Ret P N.towpathref14_Record [v11, (.int .i64 t)] s6 fun v12 s7 =>
        valW (extV v12 0) fun v13 =>
        valW (extV v12 1) fun v14 =>
        newW s7 (.cells [(.str []), (.str []), (.bool false), (.int .i64 0)]) fun v15 s8 =>
        stW (storeS 4 s8 v15 v13) fun s9 =>
        valW (loadnV s9 4 v10) fun v16 =>
        valW (loadnV s9 4 v15) fun v17 =>
        valW (aBin .neq (.agg [.str, .str, .bool, .num]) v16 v17) fun v18 =>
        guardW v18 false (fun K0 => K0 v9 s9) s9 fun v19 s10 =>
        guardW v18 false (fun K0 => K0 v14 s10) s10 fun v20 s11 =>
        guardW v18 false (fun K0 => valW (aBin .neq .num v19 v20) fun v22 =>
        K0 v22 s11) s11 fun v21 s12 =>
        valW (pickV v18 (.bool true) v21) fun v23 =>
        condW v23 (
        K (.bool false) s12) (
        valW (aBin .eql .num v9 (.int .i64 0)) fun v47 =>
        condW v47 (
        valW (loadnV s12 4 v10) fun v48 =>
        Ret P N.offsets_Parse [v48] s12 fun v49 s24 =>
        valW (extV v49 0) fun v50 =>
        valW (extV v49 1) fun v51 =>
        newW s24 (.cells [(.int .i64 0), (.int .i64 0), (.int .i64 0), (.int .i64 0)]) fun v52 s25 =>
        stW (storeS 4 s25 v52 v50) fun s26 =>
        valW (aBin .neq .num v51 (.int .i64 0)) fun v53 =>
        guardW v53 false (fun K0 => valW (loadnV s26 4 v52) fun v55 =>
        K0 v55 s26) s26 fun v54 s27 =>
        gcallW P v53 false N.towpathlaw14_plain [v54] s26 fun d57 v56 s28 =>
        guardW v53 false (fun K0 => valW (loadnV s28 4 (.ptr c 0)) fun v59 =>
        K0 v59 s28) s28 fun v58 s29 =>
        guardW v53 false (fun K0 => valW (aBin .neq (.agg [.num, .num, .num, .num]) v56 v58) fun v61 =>
        K0 v61 s28) s28 fun v60 s30 =>
        valW (pickV v53 (.bool true) v60) fun v62 =>
        ((gchkW v53 false (loadnV s26 4 (.ptr c 0) = some v58) (v58 = .tup [])) ∧ True) ∧
        condW v62 (
        K (.bool false) s28) (
        j_towpathlaw14_OffsetsRecords_3 P K (.ptr l 0) s28)) (
        j_towpathlaw14_OffsetsRecords_3 P K (.ptr l 0) s12)) := by
    intro k v tt e he h1 h2
    refine h1 _ _ fun s4 k4 => ?_
    have n4 := k4.next
    have cc4 := k4.at (l := c) (by omega) c3
    have g4 := k4.at (l := l) (by omega) g3
    rw [ext_0, valW_some, ext_1, valW_some, newW_eq]
    have e6 : storeS 4 (s4.new (.cells [.str [], .str [], .bool false, .int .i64 0])) (.ptr s4.next 0) (recAV k v tt) = some ((s4.new (.cells [.str [], .str [], .bool false, .int .i64 0])).put s4.next (.cells [.str k, .str v, .bool false, .int .i64 tt])) :=
      store_ptr (n := 4) (vs := [.str k, .str v, .bool false, .int .i64 tt]) (get_new_same _ _) rfl rfl (by simp)
    rw [e6, stW_some]
    obtain ⟨s6, hs6⟩ : ∃ x, (s4.new (.cells [.str [], .str [], .bool false, .int .i64 0])).put s4.next (.cells [.str k, .str v, .bool false, .int .i64 tt]) = x := ⟨_, rfl⟩
    have c6 : s6.get c = some (.cells (c4 p o m g)) := by rw [← hs6, St.get_put, if_neg (by omega), St.get_new, if_neg (by omega)]; exact cc4
    have g6 : s6.get l = some (.cells [.str key, .str val, .bool gone, .int .i64 t2]) := by rw [← hs6, St.get_put, if_neg (by omega), St.get_new, if_neg (by omega)]; exact g4
    have r6 : s6.get s4.next = some (.cells [.str k, .str v, .bool false, .int .i64 tt]) := by rw [← hs6, get_put_same]
    have n6 : s6.next = s4.next + 1 := by rw [← hs6]; rfl
    rw [hs6, ld c6, valW_some]
    refine h2 _ _ fun s7 k7 => ?_
    have n7 := k7.next
    have c7 := k7.at (l := c) (by omega) c6
    have g7 := k7.at (l := l) (by omega) g6
    have r7 := k7.at (l := s4.next) (by omega) r6
    rw [ext_0, valW_some, ext_1, valW_some, newW_eq]
    have e9 : storeS 4 (s7.new (.cells [.str [], .str [], .bool false, .int .i64 0])) (.ptr s7.next 0) (recAV k v tt) = some ((s7.new (.cells [.str [], .str [], .bool false, .int .i64 0])).put s7.next (.cells [.str k, .str v, .bool false, .int .i64 tt])) :=
      store_ptr (n := 4) (vs := [.str k, .str v, .bool false, .int .i64 tt]) (get_new_same _ _) rfl rfl (by simp)
    rw [e9, stW_some]
    obtain ⟨s9, hs9⟩ : ∃ x, (s7.new (.cells [.str [], .str [], .bool false, .int .i64 0])).put s7.next (.cells [.str k, .str v, .bool false, .int .i64 tt]) = x := ⟨_, rfl⟩
    have c9 : s9.get c = some (.cells (c4 p o m g)) := by rw [← hs9, St.get_put, if_neg (by omega), St.get_new, if_neg (by omega)]; exact c7
    have g9 : s9.get l = some (.cells [.str key, .str val, .bool gone, .int .i64 t2]) := by rw [← hs9, St.get_put, if_neg (by omega), St.get_new, if_neg (by omega)]; exact g7
    have r9 : s9.get s4.next = some (.cells [.str k, .str v, .bool false, .int .i64 tt]) := by rw [← hs9, St.get_put, if_neg (by omega), St.get_new, if_neg (by omega)]; exact r7
    have q9 : s9.get s7.next = some (.cells [.str k, .str v, .bool false, .int .i64 tt]) := by rw [← hs9, get_put_same]
    have n9 : s9.next = s7.next + 1 := by rw [← hs9]; rfl
    have la : loadnV s9 4 (.ptr s4.next 0) = some (.agg [.str k, .str v, .bool false, .int .i64 tt]) := loadn_ptr r9 (by simp)
    have lb : loadnV s9 4 (.ptr s7.next 0) = some (.agg [.str k, .str v, .bool false, .int .i64 tt]) := loadn_ptr q9 (by simp)
    have de : (!decide (e = e)) = false := by simp
    have hj : ∀ s : St, s.get l = some (.cells [.str key, .str val, .bool gone, .int .i64 t2]) → l < s.next → j_towpathlaw14_OffsetsRecords_3 P K (.ptr l 0) s := fun s h1 h2 => j3_ok H hA hk hv hl h1 h2 hK
    rw [hs9, la, valW_some, lb, valW_some, rec_neq, valW_some, guardW_f, Bool.not_false, guardT_true]
    dsimp only
    rw [guardW_f, Bool.not_false, guardT_true]
    dsimp only
    rw [guardW_f, Bool.not_false, guardT_true, int_neq, valW_some]
    dsimp only
    rw [pick_f, valW_some]
    have de' : (e != e) = false := by simp
    simp only [decide_true, Bool.not_true, de', condW_false]
    rw [int_eql, valW_some]
    by_cases h0 : e = 0
    · obtain ⟨hok, rfl, rfl⟩ := he h0
      subst h0
      have hmay : mayB p o m g = true := by unfold okB at hok; simp only [Bool.and_eq_true] at hok; exact hok.1
      rw [mayB_iff] at hmay
      obtain ⟨p', rfl⟩ : ∃ n : Nat, p = n := ⟨p.toNat, by omega⟩
      obtain ⟨o', rfl⟩ : ∃ n : Nat, o = n := ⟨o.toNat, by omega⟩
      obtain ⟨m', rfl⟩ : ∃ n : Nat, m = n := ⟨m.toNat, by omega⟩
      obtain ⟨g', rfl⟩ : ∃ n : Nat, g = n := ⟨g.toNat, by omega⟩
      have d0 : decide ((0 : Int) = 0) = true := rfl
      have hgd : Good (keyS (p' : Int).toNat) (valueS o' m' g') false p' o' m' g' := ⟨by omega, by omega, by omega, by omega, by simp, by simp [valueS], rfl⟩
      rw [d0, condW_true, la, valW_some]
      refine parse_ret H ?_ valueS_lt ?_ (fun p2 o2 m2 g2 s24 hg2 k24 => ?_) (fun hn => absurd ⟨_, _, _, _, hgd⟩ hn)
      · intro x hx
        simp only [keyS, List.mem_cons, List.mem_nil_iff, or_false] at hx
        have : (p' : Int).toNat = p' := by simp
        rw [this] at hx
        omega
      · have := uv_len10 (n := o') (by omega)
        have := uv_len10 (n := m') (by omega)
        have := uv_len10 (n := g') (by omega)
        simp only [valueS, List.length_append, Int.toNat_natCast]; omega
      · obtain ⟨rfl, rfl, rfl, rfl⟩ := hgd.unique hg2
        have n24 := k24.next
        have c24 := k24.at (l := c) (by omega) c9
        have g24 := k24.at (l := l) (by omega) g9
        rw [ext_0, valW_some, ext_1, valW_some, newW_eq]
        have e26 : storeS 4 (s24.new (.cells [.int .i64 0, .int .i64 0, .int .i64 0, .int .i64 0])) (.ptr s24.next 0) (comAV p' o' m' g') = some ((s24.new (.cells [.int .i64 0, .int .i64 0, .int .i64 0, .int .i64 0])).put s24.next (.cells (c4 p' o' m' g'))) :=
          store_ptr (n := 4) (vs := c4 p' o' m' g') (get_new_same _ _) rfl rfl (by simp)
        rw [e26, stW_some]
        obtain ⟨s26, hs26⟩ : ∃ x, (s24.new (.cells [.int .i64 0, .int .i64 0, .int .i64 0, .int .i64 0])).put s24.next (.cells (c4 p' o' m' g')) = x := ⟨_, rfl⟩
        have c26 : s26.get c = some (.cells (c4 p' o' m' g')) := by rw [← hs26, St.get_put, if_neg (by omega), St.get_new, if_neg (by omega)]; exact c24
        have g26 : s26.get l = some (.cells [.str key, .str val, .bool gone, .int .i64 t2]) := by rw [← hs26, St.get_put, if_neg (by omega), St.get_new, if_neg (by omega)]; exact g24
        have r26 : s26.get s24.next = some (.cells (c4 p' o' m' g')) := by rw [← hs26, get_put_same]
        have n26 : s26.next = s24.next + 1 := by rw [← hs26]; rfl
        have l26 : loadnV s26 4 (.ptr s24.next 0) = some (.agg (c4 p' o' m' g')) := loadn_ptr r26 (by simp [c4])
        have dn : ((0 : Int) != 0) = false := rfl
        have dn' : (!decide ((0 : Int) = 0)) = false := rfl
        rw [hs26, int_neq, valW_some]
        simp only [decide_true, Bool.not_true, dn]
        rw [guardW_f, Bool.not_false, guardT_true, l26, valW_some]
        dsimp only
        rw [gcall_ff]
        refine plain_ret H fun s28 E28 => ?_
        have c28 := E28.keep (by omega) c26
        have g28 := E28.keep (by omega) g26
        have n28 := E28.next
        rw [guardW_f, Bool.not_false, guardT_true, ld c28, valW_some]
        dsimp only
        rw [guardW_f, Bool.not_false, guardT_true, c4_neq, valW_some]
        dsimp only
        rw [pick_f, valW_some, gchk_ff, condW_false]
        exact ⟨⟨ld c26, trivial⟩, hj _ g28 (by omega)⟩
    · rw [decide_eq_false h0, condW_false]
      exact hj _ g9 (by omega)
  cases hok : okB p o m g t with
  | true =>
    refine main (keyS p.toNat) (valueS o m g) t 0 (fun _ => ⟨hok, rfl, rfl⟩) (fun s K' h => ?_) (fun s K' h => ?_)
    · exact record_ret H (fun _ s' hk' => h s' hk') (fun hf => by rw [hok] at hf; cases hf)
    · exact refRecord_ret H (fun _ s' hk' => h s' hk') (fun hf => by rw [hok] at hf; cases hf)
  | false =>
    refine main [] [] 0 2 (fun h => by cases h) (fun s K' h => ?_) (fun s K' h => ?_)
    · exact record_ret H (fun hf => by rw [hok] at hf; cases hf) (fun _ s' hk' => h s' hk')
    · exact refRecord_ret H (fun hf => by rw [hok] at hf; cases hf) (fun _ s' hk' => h s' hk')
end Go.AM.P

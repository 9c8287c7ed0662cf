/- What is done to the document's log, call by call. -/
import Derived.Test.YtmcdeldjgfapbaaBack
set_option linter.unusedVariables false
set_option linter.unusedSimpArgs false
set_option maxRecDepth 20000
namespace Go.Proofs.Ytmcdeldjgfapbaa
open Go Go.Proofs.YtmcdeldjgfapbaaV
/-- A log of the document's. -/
structure DgS (w : World) (d : Nat) (q : Sl) (ps : List ByteArray) : Prop where
  blk : Blk w d #[.slice q.a q.l q.c] 34
  row : Row w q 9 1 (sv ps)
theorem DgS.mod {F : Nat → Prop} {w w' : World} {b : Nat} {s : Sl} {ps : List ByteArray} (h : DgS w b s ps) (hm : Frm F w w') (h1 : ¬ F b) (h2 : ∀ k, s.blk = some k → ¬ F k) : DgS w' b s ps := ⟨h.blk.mod hm h1, h.row.mod hm h2⟩
theorem DgS.n {w w' : World} {b : Nat} {s : Sl} {ps : List ByteArray} (h : DgS w b s ps) (hm : Frm none_ w w') : DgS w' b s ps := h.mod hm (fun h => h) (fun _ _ h => h)
theorem DgS.len {w : World} {b : Nat} {s : Sl} {ps : List ByteArray} (h : DgS w b s ps) : s.l = ps.length := has_sv h.row.has
theorem DgS.dp {w : World} {b : Nat} {s : Sl} {ps : List ByteArray} (h : DgS w b s ps) : DpN 0 w b ps := ⟨s, Nat.zero_le _, fun _ _ => Nat.zero_le _, h.blk, h.row⟩
theorem addD_calls (w : World) (b : Nat) (s : Sl) (ps : List ByteArray) (no : Int) (x : ByteArray) (h : DgS w b s ps) (ok : OkL ps) :
    Calls prog 31 #[.pointer (some ⟨b, 0, none⟩), .int .i64 no, .string x] w fun e w' => e = .returned (.tuple #[.bool (addA ps no x).1, .int .i64 (addA ps no x).2.1]) ∧ ∃ s', DgS w' b s' (addA ps no x).2.2 ∧ NearG w s s' ∧ Frm (fun k => k = b ∨ s.blk = some k) w w' := by
  refine calls_ret (W31 (x0 := some ⟨b, 0, none⟩) (x1 := no) (x2 := x) (Q := fun v w' => v = .tuple #[.bool (addA ps no x).1, .int .i64 (addA ps no x).2.1] ∧ ∃ s', DgS w' b s' (addA ps no x).2.2 ∧ NearG w s s' ∧ Frm (fun k => k = b ∨ s.blk = some k) w w') ?_) (fun v w' ⟨h, h'⟩ => ⟨by rw [h], h'⟩)
  have hn := ok.n
  have hl := h.len
  have same : ∀ {e : Int}, addA ps no x = (false, e, ps) → Value.tuple #[.bool false, .int .i64 e] = .tuple #[.bool (addA ps no x).1, .int .i64 (addA ps no x).2.1] ∧ ∃ s', DgS w b s' (addA ps no x).2.2 ∧ NearG w s s' ∧ Frm (fun k => k = b ∨ s.blk = some k) w w := by
    intro e he
    rw [he]
    exact ⟨rfl, s, h, fun k hk => .inl hk, Frm.refl _ _⟩
  unfold F31
  refine ⟨fun c w' => w = w' ∧ c = decide (no < 0 ∨ x.size = 0), ?_, ?_⟩
  · refine IfB.dec (fun h0 => ⟨rfl, (decide_eq_true (.inl h0)).symm⟩) (fun h0 => ⟨rfl, ?_⟩)
    by_cases hx : x.size = 0
    · rw [decide_eq_true (.inr hx), hx]; rfl
    · rw [decide_eq_false (by omega)]
      exact beq_eq_false_iff_ne.2 (by omega)
  rintro u c w1 ⟨rfl, rfl⟩
  refine IfB.dec (fun h0 => same (by unfold addA; rw [if_pos h0])) (fun h0 => ?_)
  refine IfB.dec (fun h1 => same (by unfold addA; rw [if_neg h0, if_pos (by omega)])) (fun h1 => ?_)
  have hK := h.blk
  have hR := h.row
  refine ⟨_, rfl, s, hK.ld rfl, ?_⟩
  refine IfB.dec (fun h2 => ?_) (fun h2 => ?_)
  · obtain ⟨i, rfl⟩ := Int.eq_ofNat_of_zero_le (show 0 ≤ no by omega)
    obtain ⟨q, p, hq, hp, hld⟩ := sv_at hR.has (i := i) (by omega)
    refine ⟨_, rfl, s, hK.ld rfl, q, hq, by omega, by omega, p, hld, ?_⟩
    by_cases hpx : p = x
    · subst hpx
      refine IfB.f (by rw [(str_eqIff _ _).2 rfl]; rfl) (same ?_)
      unfold addA
      rw [if_neg h0, if_neg (by omega), if_pos (by omega), Int.toNat_natCast, if_pos hp]
    · refine IfB.t (by rw [str_neq hpx]; rfl) (same ?_)
      unfold addA
      rw [if_neg h0, if_neg (by omega), if_pos (by omega), Int.toNat_natCast, if_neg]
      rw [hp]
      intro e
      exact hpx (by cases e; rfl)
  · refine IfB.dec (fun h3 => same (by unfold addA; rw [if_neg h0, if_neg (by omega), if_neg (by omega), if_pos (by omega)])) (fun h3 => ?_)
    refine ⟨_, rfl, s, hK.ld rfl, ?_⟩
    refine IfB.dec (fun h4 => same (by unfold addA; rw [if_neg h0, if_neg (by omega), if_neg (by omega), if_neg (by omega), if_pos (by omega)])) (fun h4 => ?_)
    have he : addA ps no x = (true, 0, ps ++ [x]) := by unfold addA; rw [if_neg h0, if_neg (by omega), if_neg (by omega), if_neg (by omega), if_neg (by omega)]
    rw [he]
    refine ⟨_, rfl, s, hK.ld rfl, app1 hR (by omega) ?_⟩
    intro q w2 hr2 hn2 f2
    have hne : s.blk ≠ some b := hR.g.blkNeB hK.g (by decide)
    have hK2 := hK.mod f2 hne
    have hqb : q.blk ≠ some b := hr2.g.blkNeB hK2.g (by decide)
    refine ⟨_, rfl, hK2.wr (by show 0 < 1; omega), ?_⟩
    rintro w3 rfl
    have f3 : Frm (fun k => k = b) w2 (w2.setCell ⟨b, 0, none⟩ (.slice q.a q.l q.c)) := mod_setCell (a := ⟨b, 0, none⟩)
    exact ⟨rfl, q, ⟨hK2.set 0 _, hr2.mod f3 (fun k hk hkb => hqb (by have hkb : k = b := hkb; subst hkb; exact hk))⟩, hn2, f2.trans f3 (fun _ _ h => .inr h) (fun _ _ h => .inl h)⟩
theorem b34C (s : Sl) : BuildIs prog 34 #[(0, .slice s.a s.l s.c)] #[.slice s.a s.l s.c] := fun w => by kernel_rfl
theorem copyD_calls (w : World) (b : Nat) (s : Sl) (ps : List ByteArray) (h : DgS w b s ps) (hn : ps.length ≤ 100000) : Calls prog 32 #[.pointer (some ⟨b, 0, none⟩)] w fun e w' => ∃ b' s', e = .returned (.pointer (some ⟨b', 0, none⟩)) ∧ w.heap.size ≤ b' ∧ New w s' ∧ DgS w' b' s' ps ∧ Frm none_ w w' := by
  refine calls_ret (W32 (x0 := some ⟨b, 0, none⟩) (Q := fun v w' => ∃ b' s', v = .pointer (some ⟨b', 0, none⟩) ∧ w.heap.size ≤ b' ∧ New w s' ∧ DgS w' b' s' ps ∧ Frm none_ w w') ?_) (fun v w' ⟨b', s', h, h'⟩ => ⟨b', s', by rw [h], h'⟩)
  have hl := h.len
  unfold F32
  refine runT_lit0 st31 ?_
  intro w1 hr1 f1 z1
  refine ⟨_, rfl, s, (h.blk.mod f1 (fun h => h)).ld rfl, ?_⟩
  refine runT_append st31 hr1 (h.row.mod f1 (fun _ _ h => h)).has (sv_one _) (by simp only; omega) (by simp only [maxLen]; omega) ?_
  intro t w2 hr2 hl2 hn2 f2
  rw [List.nil_append] at hr2
  have hnew : New w ⟨some ⟨w.heap.size, 0, none⟩, 0, 0⟩ := fun k hk => by simp [Sl.blk] at hk; omega
  have F2 : Frm none_ w w2 := hnew.frm f1 f2
  have hnt : New w t := hnew.near (w2 := w2) hn2 f1.size
  refine ⟨_, b34C t, ?_⟩
  intro b' w3 hN
  exact ⟨b', t, rfl, by have := hN.2; have := F2.size; omega, hnt, ⟨hN.blk, hr2.mod (hN.mod none_) (fun _ _ h => h)⟩, F2.n (hN.mod none_)⟩
theorem fromD_calls (w : World) (b : Nat) (s : Sl) (ps : List ByteArray) (h : DgS w b s ps) (hn : ps.length ≤ 100000) (i : Int) : Calls prog 33 #[.pointer (some ⟨b, 0, none⟩), .int .i64 i] w (MadeT w (ps.drop i.toNat)) := by
  refine calls_ret (W33 (x0 := some ⟨b, 0, none⟩) (x1 := i) (Q := fun v w' => ∃ r : Sl, v = .slice r.a r.l r.c ∧ Row w' r 9 1 (sv (ps.drop i.toNat)) ∧ New w r ∧ Frm none_ w w') ?_) (fun v w' ⟨r, h, h'⟩ => ⟨r, by rw [h], h'⟩)
  have hl := h.len
  unfold F33
  refine ⟨fun n x k w' => ∃ j : Nat, k = (j : Int) ∧ j ≤ ps.length ∧ n = ps.length - j ∧ Row w' x 9 1 (sv ((ps.take j).drop i.toNat)) ∧ New w x ∧ Frm none_ w w', ps.length, ⟨0, rfl, by omega, rfl, by simpa [sv] using Row.nil w 9 1, fun k hk => by simp [Sl.blk] at hk, Frm.refl _ _⟩, ?_⟩
  rintro n u x k w1 ⟨j, rfl, hj, rfl, hr, hnw, f1⟩
  have h1 := h.n f1
  refine ⟨_, rfl, s, h1.blk.ld rfl, IfB.dec (fun hlt => ?_) (fun hge => ?_)⟩
  · obtain ⟨q, p, hq, hp, hld⟩ := sv_at h1.row.has (i := j) (by omega)
    have ew : IntKind.wrap .i64 ((j : Int) + 1) = ((j + 1 : Nat) : Int) := by rw [wi _ (by omega)]; omega
    have hlj : (ps.take j).length = j := by rw [List.length_take]; omega
    refine IfB.dec (fun hge => ?_) (fun hlt2 => ?_)
    · refine ⟨_, rfl, s, h1.blk.ld rfl, q, hq, by omega, by omega, p, hld, app1 hr (by rw [List.length_drop]; omega) ?_⟩
      intro q2 w2 hr2 hn2 f2
      refine ⟨ps.length - (j + 1), by omega, j + 1, ew, by omega, rfl, ?_, hn2.new hnw f1.size, f1.trans f2 (fun _ _ h => h) (fun k hk hh => by have := hnw k hh; omega)⟩
      rw [take_snoc hp, List.drop_append_of_le_length (by omega)]
      exact hr2
    · refine ⟨ps.length - (j + 1), by omega, j + 1, ew, by omega, rfl, ?_, hnw, f1⟩
      rw [List.drop_of_length_le (by rw [List.length_take]; omega)] at hr ⊢
      exact hr
  · rw [List.take_of_length_le (by omega)] at hr
    exact ⟨x, rfl, hr, hnw, f1⟩
theorem tailD_calls (w : World) (b : Nat) (s : Sl) (ps : List ByteArray) (h : DgS w b s ps) (hn : ps.length ≤ 100000) (hz : szs ps ≤ 1000000000000) (n : Int) (hmin : -9223372036854775808 ≤ n) : Calls prog 35 #[.pointer (some ⟨b, 0, none⟩), .int .i64 n] w fun e w' => e = .returned (.string (str (tailL (txt ps) n))) ∧ Frm none_ w w' := by
  refine calls_ret (W35 (x0 := some ⟨b, 0, none⟩) (x1 := n) (Q := fun v w' => v = .string (str (tailL (txt ps) n)) ∧ Frm none_ w w') ?_) (fun v w' ⟨h, h'⟩ => ⟨by rw [h], h'⟩)
  unfold F35
  refine (text16_calls 0 w b ps h.dp hn (by omega)).mono ?_
  rintro _ w1 ⟨rfl, f1⟩
  have hsz : (str (txt ps)).size = szs ps := by rw [str_size, txt_len]
  refine ⟨_, rfl, IfB.dec (fun h0 => ⟨?_, f1⟩) (fun h0 => ?_)⟩
  · have : n.toNat = 0 := by omega
    unfold tailL
    rw [this, List.drop_of_length_le (by omega)]
    rfl
  rw [hsz]
  refine IfB.dec (fun h1 => ⟨?_, f1⟩) (fun h1 => ?_)
  · unfold tailL
    rw [txt_len, show szs ps - n.toNat = 0 by omega, List.drop_zero]
  · have e1 : IntKind.wrap .i64 (((szs ps : Nat) : Int) - n) = ((szs ps - n.toNat : Nat) : Int) := by rw [wi _ (by omega)]; omega
    rw [e1]
    refine ⟨⟨by omega, by omega⟩, ?_, f1⟩
    congr 1
    apply ByteArray.ext
    apply Array.toList_inj.1
    rw [ext_list, str_data, str_data, Int.toNat_natCast, List.take_of_length_le (by rw [List.length_drop, txt_len]; omega)]
    unfold tailL
    rw [txt_len]
theorem saveD_calls (w : World) (b : Nat) (s : Sl) (ps : List ByteArray) (h : DgS w b s ps) (ok : OkL ps) : Calls prog 36 #[.pointer (some ⟨b, 0, none⟩)] w (Made w (saveL ps)) := by
  refine calls_ret (W36 (x0 := some ⟨b, 0, none⟩) (Q := fun v w' => MadeV w (saveL ps) v w') ?_) (fun v w' h => madeV h)
  have hl := h.len
  have hn := ok.n
  have hz := szs_le (fun p hp => (ok.each p hp).2)
  unfold F36
  refine ⟨_, rfl, s, h.blk.ld rfl, ?_⟩
  rw [hl]
  refine (rcount_calls w ⟨none, 0, 0⟩ [] ((ps.length : Nat) : Int) (nilHas w) (by simp only; omega)).mono ?_
  rintro _ w1 ⟨r, rfl, hr, hnr, f1⟩
  rw [List.nil_append] at hr
  refine ⟨r, rfl, fun n x i w' => ∃ j : Nat, j ≤ ps.length ∧ i = (j : Int) ∧ n = ps.length - j ∧ Row w' x 5 1 (bv (cb (ps.length : Int) ++ (ps.take j).flatMap sb)) ∧ New w x ∧ Frm none_ w w', ps.length, ⟨0, by omega, rfl, rfl, by simpa using hr, hnr, f1⟩, ?_⟩
  rintro n u x i w2 ⟨j, hj, rfl, rfl, hx, hxn, f2⟩
  have h2 := h.n f2
  refine ⟨_, rfl, s, h2.blk.ld rfl, IfB.dec (fun hlt => ?_) (fun hge => ?_)⟩
  · obtain ⟨q, p, hq, hp, hld⟩ := sv_at h2.row.has (i := j) (by omega)
    have hp2 := ok.each p (List.mem_of_getElem? hp)
    have hxl := rowLen hx
    have hsv := saveL_len (ps.take j) (by rw [List.length_take]; omega)
    have h3 := szs_take (ps := ps) j
    have hxl2 : (cb (ps.length : Int) ++ (ps.take j).flatMap sb).length ≤ 100000000 := by
      unfold saveL at hsv
      rw [List.length_append] at hsv ⊢
      have e1 : (ps.take j).length ≤ 64 := by rw [List.length_take]; omega
      rw [cb_gb (by omega)] at hsv ⊢
      have := gb_len5 (u := ps.length) (by omega)
      omega
    refine ⟨_, rfl, s, h2.blk.ld rfl, q, hq, by omega, by omega, p, hld, (rstr_calls w2 x _ p hx.has (by omega) (by omega)).mono ?_⟩
    rintro _ w3 ⟨t, rfl, ht, htn, f3⟩
    refine ⟨t, rfl, ps.length - (j + 1), by omega, j + 1, by omega, by rw [wi _ (by omega)]; omega, rfl, ?_, fun k hk => Nat.le_trans f2.size (htn k hk), f2.n f3⟩
    rw [take_snoc hp, List.flatMap_append]
    simpa using ht
  · rw [List.take_of_length_le (by omega)] at hx
    exact ⟨x, rfl, hx, hxn, f2⟩
theorem linesD_calls (w : World) (b : Nat) (s : Sl) (ps : List ByteArray) (h : DgS w b s ps) (hn : ps.length ≤ 100000) (hz : szs ps ≤ 1000000000) (fr to : Int) : Calls prog 34 #[.pointer (some ⟨b, 0, none⟩), .int .i64 fr, .int .i64 to] w (MadeT w (selL (lns [] (txt ps)) fr to)) := by
  refine calls_ret (W34 (x0 := some ⟨b, 0, none⟩) (x1 := fr) (x2 := to) (Q := fun v w' => ∃ r : Sl, v = .slice r.a r.l r.c ∧ Row w' r 9 1 (sv (selL (lns [] (txt ps)) fr to)) ∧ New w r ∧ Frm none_ w w') ?_) (fun v w' ⟨r, h, h'⟩ => ⟨r, by rw [h], h'⟩)
  unfold F34
  refine (text16_calls 0 w b ps h.dp hn (by omega)).mono ?_
  rintro _ w1 ⟨rfl, f1⟩
  have htl := txt_len ps
  have hal := lns_len (txt ps) []
  generalize hT : txt ps = T at *
  have hsz : (str T).size = T.length := rfl
  refine ⟨_, rfl, fun n x a i w' => ∃ (at_ j : Nat) (acc : List ByteArray), a = (at_ : Int) ∧ i = (j : Int) ∧ at_ ≤ j ∧ j ≤ T.length ∧ n = T.length - j ∧ Row w' x 9 1 (sv acc) ∧ New w x ∧ Frm none_ w w' ∧ lns [] T = acc ++ lns ((T.take j).drop at_) (T.drop j), T.length,
    ⟨0, 0, [], rfl, rfl, by omega, by omega, rfl, Row.nil _ _ _, fun k hk => by simp [Sl.blk] at hk, f1, by simp⟩, ?_⟩
  rintro n u x a i w2 ⟨at_, j, acc, rfl, rfl, haj, hj, rfl, hr, hnw, f2, he⟩
  have hacc : acc.length ≤ T.length + 1 := by
    have := congrArg List.length he
    rw [List.length_append] at this
    omega
  have ew : IntKind.wrap .i64 ((j : Int) + 1) = ((j + 1 : Nat) : Int) := by rw [wi _ (by omega)]; omega
  have hext : ∀ (a e : Nat), a ≤ e → e ≤ T.length → (str T).extract a e = str ((T.take e).drop a) := fun a e h1 h2 => by
    apply ByteArray.ext
    apply Array.toList_inj.1
    rw [ext_list, str_data, str_data, List.drop_take]
  rw [hsz]
  refine IfB.dec (fun hlt => ?_) (fun hge => ?_)
  · obtain ⟨c, hc, hbt⟩ := bt_get (s := str T) (k := j) (by rw [hsz]; omega)
    rw [str_data] at hc
    have hd : T.drop j = c :: T.drop (j + 1) := by
      obtain ⟨h1, h2⟩ := List.getElem?_eq_some_iff.1 hc
      rw [List.drop_eq_getElem_cons h1, h2]
    have htk : (T.take (j + 1)).drop at_ = (T.take j).drop at_ ++ [c] := by
      rw [List.take_add_one, hc, List.drop_append_of_le_length (by rw [List.length_take]; omega)]
      rfl
    rw [hd, lns] at he
    refine ⟨by omega, by omega, ?_⟩
    rw [hbt, ew]
    refine IfB.intro (fun h10 => ?_) (fun h10 => ?_)
    · have h10 : (c.toNat : Int) = 10 := by simpa using h10
      rw [if_pos (by omega)] at he
      rw [Int.toNat_natCast, Int.toNat_natCast]
      refine ⟨⟨by omega, by omega⟩, ⟨by omega, by omega⟩, ?_⟩
      rw [hext at_ (j + 1) (by omega) (by omega), htk]
      refine app1 hr (by omega) ?_
      intro q2 w3 hr3 hn3 f3
      refine ⟨T.length - (j + 1), by omega, j + 1, j + 1, _, rfl, rfl, by omega, by omega, rfl, hr3, hn3.new hnw f2.size, f2.trans f3 (fun _ _ h => h) (fun k hk hh => by have := hnw k hh; omega), ?_⟩
      have h0 : (T.take (j + 1)).drop (j + 1) = [] := List.drop_of_length_le (by rw [List.length_take]; omega)
      rw [he, List.append_assoc, h0]
      rfl
    · have h10 : ¬ (c.toNat : Int) = 10 := by simpa using h10
      rw [if_neg (by omega), ← htk] at he
      exact ⟨T.length - (j + 1), by omega, at_, j + 1, acc, rfl, rfl, by omega, by omega, rfl, hr, hnw, f2, he⟩
  · have hjl : j = T.length := by omega
    subst hjl
    rw [List.take_length, List.drop_length] at he
    have hlast : ∀ x' w', Row w' x' 9 1 (sv (lns [] T)) → New w x' → Frm none_ w w' → (fun (x : Sl) w' => Row w' x 9 1 (sv (lns [] T)) ∧ New w x ∧ Frm none_ w w') x' w' := fun x' w' h1 h2 h3 => ⟨h1, h2, h3⟩
    refine ⟨fun x w' => Row w' x 9 1 (sv (lns [] T)) ∧ New w x ∧ Frm none_ w w', IfB.dec (fun hlt2 => ?_) (fun hge2 => ?_), ?_⟩
    · refine ⟨⟨by omega, by omega⟩, ?_⟩
      rw [Int.toNat_natCast, hext at_ T.length (by omega) (by omega), List.take_length]
      refine app1 hr (by omega) ?_
      intro q2 w3 hr3 hn3 f3
      have hne : T.drop at_ ≠ [] := fun h => by have := congrArg List.length h; rw [List.length_drop, List.length_nil] at this; omega
      rw [lns, if_neg hne] at he
      rw [← he] at hr3
      exact ⟨hr3, hn3.new hnw f2.size, f2.trans f3 (fun _ _ h => h) (fun k hk hh => by have := hnw k hh; omega)⟩
    · have : T.drop at_ = [] := List.drop_of_length_le (by omega)
      rw [this, lns, if_pos rfl, List.append_nil] at he
      rw [← he] at hr
      exact ⟨hr, hnw, f2⟩
    rintro u1 x8 w3 ⟨hr8, hn8, f3⟩
    have hl8 := has_sv hr8.has
    generalize hg : lns [] T = ls at *
    refine ⟨fun n x i w' => ∃ j : Nat, i = (j : Int) ∧ j ≤ ls.length ∧ n = ls.length - j ∧ Row w' x 9 1 (sv (selL (ls.take j) fr to)) ∧ (∀ k, x.blk = some k → w3.heap.size ≤ k) ∧ Frm none_ w3 w', ls.length,
      ⟨0, rfl, by omega, rfl, by simpa [selL, sv] using Row.nil w3 9 1, fun k hk => by simp [Sl.blk] at hk, Frm.refl _ _⟩, ?_⟩
    rintro n u2 x11 i w4 ⟨j, rfl, hj, rfl, hr4, hn4, f4⟩
    have hlj : (ls.take j).length = j := by rw [List.length_take]; omega
    have hsl : (selL (ls.take j) fr to).length ≤ ls.length := by rw [sel_len, hlj]; omega
    refine IfB.dec (fun hlt => ?_) (fun hge => ?_)
    · obtain ⟨q, p, hq, hp, hld⟩ := sv_at (hr8.mod f4 (fun _ _ h => h)).has (i := j) (by omega)
      have ew : IntKind.wrap .i64 ((j : Int) + 1) = ((j + 1 : Nat) : Int) := by rw [wi _ (by omega)]; omega
      have no : selL (ls.take (j + 1)) fr to = selL (ls.take j) fr to → ∃ n', n' < ls.length - j ∧ ∃ j_1 : Nat, IntKind.wrap .i64 ((j : Int) + 1) = (j_1 : Int) ∧ j_1 ≤ ls.length ∧ n' = ls.length - j_1 ∧ Row w4 x11 9 1 (sv (selL (ls.take j_1) fr to)) ∧ (∀ k, x11.blk = some k → w3.heap.size ≤ k) ∧ Frm none_ w3 w4 := fun e =>
        ⟨ls.length - (j + 1), by omega, j + 1, ew, by omega, rfl, by rw [e]; exact hr4, hn4, f4⟩
      refine IfB.dec (fun h1 => IfB.dec (fun h2 => ?_) (fun h2 => no ?_)) (fun h1 => no ?_)
      · refine ⟨q, hq, by omega, by omega, p, hld, app1 hr4 (by omega) ?_⟩
        intro q2 w5 hr5 hn5 f5
        refine ⟨ls.length - (j + 1), by omega, j + 1, ew, by omega, rfl, ?_, fun k hk => ?_, f4.trans f5 (fun _ _ h => h) (fun k hk hh => by have := hn4 k hh; omega)⟩
        · rw [take_snoc hp, sel_add p (by rw [hlj]; omega) (by rw [hlj]; omega)]
          exact hr5
        · rcases hn5 k hk with h | h
          · exact hn4 k h
          · have := f4.size; omega
      · rw [take_snoc hp, sel_pre (l := ls.take j) (by rw [hlj]; omega) (List.prefix_append _ _)]
      · by_cases h2 : (j : Int) < to
        · rw [take_snoc hp, sel_skip p (by rw [hlj]; omega) (by rw [hlj]; omega)]
        · rw [take_snoc hp, sel_pre (l := ls.take j) (by rw [hlj]; omega) (List.prefix_append _ _)]
    · rw [List.take_of_length_le (by omega)] at hr4
      exact ⟨x11, rfl, hr4, fun k hk => Nat.le_trans f3.size (hn4 k hk), f3.n f4⟩
end Go.Proofs.Ytmcdeldjgfapbaa

/- The document's Drop, Names, Save; texts; copied. -/
import Derived.Test.YthgeacnemojjgaaDo
set_option linter.unusedVariables false
set_option linter.unusedSimpArgs false
set_option maxRecDepth 20000
namespace Go.Proofs.Ythgeacnemojjgaa
open Go Go.Proofs.YthgeacnemojjgaaV
theorem dDrop_calls (w : World) (D : Nat → Prop) (b : Nat) (M : List Pj) (h : Dcw w D b M) (ok : OkM M) (nm : ByteArray) : Calls prog 24 #[.pointer (some ⟨b, 0, none⟩), .string nm] w fun e w' => e = .returned (.int .i64 (dropP nm M).1) ∧ WentD w D b (dropP nm M).2 w' := by
  refine calls_ret (W24 (x0 := some ⟨b, 0, none⟩) (x1 := nm) (Q := fun v w' => v = .int .i64 (dropP nm M).1 ∧ WentD w D b (dropP nm M).2 w') ?_) (fun v w' ⟨h, h'⟩ => ⟨by rw [h], h'⟩)
  have h0 := h
  obtain ⟨s, hS, hDb, hDs, hDl⟩ := h
  have hn := ok.n
  have hsl := hS.sl
  unfold F24
  refine (dAt_calls w b s M hS ok.srt (by omega) nm).mono ?_
  rintro _ w2 ⟨rfl, e⟩
  subst e
  refine ⟨_, rfl, ?_⟩
  unfold dropP ixI
  cases hi : ix nm M with
  | none => exact IfB.t rfl ⟨rfl, WentD.same h0 (Frm.refl _ _)⟩
  | some i =>
    obtain ⟨_, p0, hp0, _⟩ := ix_some hi
    have hil0 := (List.getElem?_eq_some_iff.1 hp0).1
    refine IfB.f (decide_eq_false (by simp only; omega)) ⟨fun n t x W => ∃ j : Nat, x = (j : Int) ∧ j ≤ M.length ∧ n = M.length - j ∧ Row W t 50 4 (qv (M.take i |>.take j |>.append ((M.take j).drop (i + 1)))) ∧ New w2 t ∧ Frm none_ w2 W, M.length, ⟨0, rfl, by omega, rfl, by simpa [qv] using Row.nil _ _ _, fun k hk => by simp [Sl.blk] at hk, Frm.refl _ _⟩, ?_⟩
    rintro n u t x w3 ⟨j, rfl, hj, rfl, ht, htn, f3⟩
    have hS3 := hS.n f3
    refine ⟨_, rfl, s, hS3.ld0, IfB.dec (fun hlt => ?_) (fun hge => ?_)⟩
    · obtain ⟨p, hp⟩ : ∃ p, M[j]? = some p := ⟨_, List.getElem?_eq_getElem (by omega)⟩
      have hjl := (List.getElem?_eq_some_iff.1 hp).1
      have ew : IntKind.wrap .i64 ((j : Int) + (1 : Int)) = ((j + 1 : Nat) : Int) := by rw [wi _ (by omega)]; omega
      refine IfB.intro (fun hne => ?_) (fun heq => ?_)
      · have hne : ¬ (j : Int) = (i : Int) := iNe hne
        obtain ⟨q, hq, hil, hla, hld⟩ := hS3.at hp
        refine ⟨_, rfl, s, hS3.ld0, q, hq, by omega, by omega, _, hla, ?_⟩
        have e : (M.take i |>.take (j + 1) |>.append ((M.take (j + 1)).drop (i + 1))) = (M.take i |>.take j |>.append ((M.take j).drop (i + 1))) ++ [p] := by
          show (M.take i).take (j + 1) ++ (M.take (j + 1)).drop (i + 1) = ((M.take i).take j ++ (M.take j).drop (i + 1)) ++ [p]
          rw [take_snoc hp]
          by_cases hji : j < i
          · rw [List.take_take, List.take_take, Nat.min_eq_left (by omega), Nat.min_eq_left (by omega), take_snoc hp, List.drop_of_length_le (by simp; omega), List.drop_of_length_le (by simp; omega)]
            simp
          · rw [List.take_take, List.take_take, Nat.min_eq_right (by omega), Nat.min_eq_right (by omega), List.drop_append_of_le_length (by rw [List.length_take]; omega)]
            simp
        have hlen : (M.take i |>.take j |>.append ((M.take j).drop (i + 1))).length ≤ 100000 := by
          show ((M.take i).take j ++ (M.take j).drop (i + 1)).length ≤ 100000
          simp only [List.length_append, List.length_take, List.length_drop]
          omega
        have := app1 (K := fun t34 w1_3 => ∃ n', n' < M.length - j ∧ ∃ j' : Nat, IntKind.wrap .i64 ((j : Int) + (1 : Int)) = (j' : Int) ∧ j' ≤ M.length ∧ n' = M.length - j' ∧ Row w1_3 t34 50 4 (qv (M.take i |>.take j' |>.append ((M.take j').drop (i + 1)))) ∧ New w2 t34 ∧ Frm none_ w2 w1_3) p ht hlen rfl (fun _ => True) (fun _ _ => trivial) (fun t2 W' hr hk hf => by
          refine ⟨M.length - (j + 1), by omega, j + 1, ew, by omega, rfl, by rw [e]; exact hr, fun k hk' => ?_, f3.trans hf (fun _ _ h => h) (fun k hk1 hk2 => by have := htn k hk2; omega)⟩
          rcases hk k hk' with h | h
          · exact htn k h
          · have := f3.size; omega)
        exact runT_snd this
      · have heq : (j : Int) = (i : Int) := iEq heq
        have hji : j = i := by omega
        subst hji
        refine ⟨M.length - (j + 1), by omega, j + 1, ew, by omega, rfl, ?_, htn, f3⟩
        have e : (M.take j |>.take (j + 1) |>.append ((M.take (j + 1)).drop (j + 1))) = (M.take j |>.take j |>.append ((M.take j).drop (j + 1))) := by
          show (M.take j).take (j + 1) ++ (M.take (j + 1)).drop (j + 1) = (M.take j).take j ++ (M.take j).drop (j + 1)
          rw [List.drop_of_length_le (by rw [List.length_take]; omega), List.drop_of_length_le (by rw [List.length_take]; omega), List.take_take, List.take_take, Nat.min_eq_right (by omega), Nat.min_self]
        rw [e]; exact ht
    · have hjl : j = M.length := by omega
      subst hjl
      have e : (M.take i |>.take M.length |>.append ((M.take M.length).drop (i + 1))) = M.eraseIdx i := by
        show (M.take i).take M.length ++ (M.take M.length).drop (i + 1) = M.eraseIdx i
        rw [List.take_length, List.take_of_length_le (by rw [List.length_take]; omega), List.eraseIdx_eq_take_drop_succ]
      rw [e] at ht
      have hb3 := hS3.blk
      refine ⟨_, rfl, by rw [addr_add]; exact hb3.wr (by show 0 < 1; omega), ?_⟩
      rintro w6 rfl
      rw [addr_add]
      have f6 : Frm (fun k => k = b) w3 (w3.setCell ⟨b, 0 + 0, none⟩ (.slice t.a t.l t.c)) := mod_setCell (a := ⟨b, 0 + 0, none⟩)
      have hb6 : Blk (w3.setCell ⟨b, 0 + 0, none⟩ (.slice t.a t.l t.c)) b #[.slice t.a t.l t.c] 43 := hb3.set (0 + 0) (.slice t.a t.l t.c)
      have hbl := hS.blk.lt
      exact ⟨rfl, wentD (f3.trans f6 (fun _ _ h => h.elim) (fun k _ hk => by rw [show k = b from hk]; exact hDb)) ⟨hb6, ht.mod f6 (fun k hk e => by have := htn k hk; have e : k = b := e; omega)⟩ (.inl hDb) (fun k hk => .inr (htn k hk))⟩
theorem dNames_calls (w : World) (D : Nat → Prop) (b : Nat) (M : List Pj) (h : Dcw w D b M) (ok : OkM M) : Calls prog 29 #[.pointer (some ⟨b, 0, none⟩)] w (MadeT w (M.map (·.n))) := by
  refine calls_ret (W29 (x0 := some ⟨b, 0, none⟩) (Q := fun v w' => ∃ r : Sl, v = .slice r.a r.l r.c ∧ Row w' r 9 1 (sv (M.map (·.n))) ∧ New w r ∧ Frm none_ w w') ?_) (fun v w' ⟨r, h, h'⟩ => ⟨r, by rw [h], h'⟩)
  obtain ⟨s, hS, hDb, hDs, hDl⟩ := h
  have hn := ok.n
  have hsl := hS.sl
  unfold F29
  refine ⟨fun n x i w' => ∃ j : Nat, j ≤ M.length ∧ i = (j : Int) ∧ n = M.length - j ∧ Row w' x 9 1 (sv ((M.take j).map (·.n))) ∧ New w x ∧ Frm none_ w w', M.length, ⟨0, by omega, rfl, rfl, Row.nil _ _ _, fun k hk => by simp [Sl.blk] at hk, Frm.refl _ _⟩, ?_⟩
  rintro n u x i w1 ⟨j, hj, rfl, rfl, hx, hxn, f1⟩
  have hS1 := hS.n f1
  refine ⟨_, rfl, s, hS1.ld0, IfB.dec (fun hlt => ?_) (fun hge => ?_)⟩
  · obtain ⟨p, hp⟩ : ∃ p, M[j]? = some p := ⟨_, List.getElem?_eq_getElem (by omega)⟩
    obtain ⟨q, hq, hil, hla, hld⟩ := hS1.at hp
    refine ⟨_, rfl, s, hS1.ld0, q, hq, by omega, by omega, p.n, hld 0 _ rfl, runT_lit1 st28 (by decide) rfl ?_⟩
    intro w2 hr2 f2 z2
    have hxl := has_sv hx.has
    simp only [List.length_map, List.length_take] at hxl
    refine runT_append st28 (hx.mod f2 (fun _ _ h => h)) hr2.has (by intro u hu; simp [Value.cells] at hu; rw [hu]; rfl) (by simp only; omega) (by simp only [maxLen]; omega) ?_
    intro t w3 hr3 hl3 hn3 f3
    refine ⟨M.length - (j + 1), by omega, j + 1, by omega, by rw [wi _ (by omega)]; omega, rfl, ?_, hxn.near (w2 := w3) hn3 (f1.n f2).size, hxn.frm (f1.n f2) f3⟩
    rw [take_snoc hp, List.map_append]
    rw [sv_snoc] at hr3
    exact hr3
  · refine ⟨x, rfl, ?_, hxn, f1⟩
    rw [List.take_of_length_le (by omega)] at hx
    exact hx
theorem dSave_calls (w : World) (D : Nat → Prop) (b : Nat) (M : List Pj) (h : Dcw w D b M) (ok : OkM M) : Calls prog 30 #[.pointer (some ⟨b, 0, none⟩)] w (Made w (saveP M)) := by
  refine calls_ret (W30 (x0 := some ⟨b, 0, none⟩) (Q := fun v w' => MadeV w (saveP M) v w') ?_) (fun v w' h => madeV h)
  obtain ⟨s, hS, hDb, hDs, hDl⟩ := h
  have hn := ok.n
  have hsl := hS.sl
  unfold F30
  refine ⟨_, rfl, s, hS.ld0, (rcount_calls w ⟨none, 0, 0⟩ [] ((s.l : Nat) : Int) (nilHas w) (by simp only; omega)).mono ?_⟩
  rintro _ w1 ⟨r, rfl, hr, hrn, f1⟩
  rw [List.nil_append, hsl] at hr
  refine ⟨r, rfl, fun n x i w' => ∃ j : Nat, j ≤ M.length ∧ i = (j : Int) ∧ n = M.length - j ∧ Row w' x 5 1 (bv (cb (M.length : Int) ++ (M.take j).flatMap pb)) ∧ New w x ∧ Frm none_ w w', M.length, ⟨0, by omega, rfl, rfl, by simpa using hr, hrn, f1⟩, ?_⟩
  rintro n u x i w2 ⟨j, hj, rfl, rfl, hx, hxn, f2⟩
  have hS2 := hS.n f2
  refine ⟨_, rfl, s, hS2.ld0, IfB.dec (fun hlt => ?_) (fun hge => ?_)⟩
  · obtain ⟨p, hp⟩ : ∃ p, M[j]? = some p := ⟨_, List.getElem?_eq_getElem (by omega)⟩
    obtain ⟨q, hq, hil, _, hld⟩ := hS2.at hp
    have hxl := rowLen hx
    have h1 := pbs_len (M := M.take j) (fun p hp => ok.each p (List.mem_of_mem_take hp))
    have h2 := cb_len (M.length : Int)
    have h3 := sb_len p.n
    have h4 := (ok.at hp).name.2.1
    have h5 := cb_len p.sh
    have h6 := cb_len p.had
    rw [List.length_append] at hxl
    rw [List.length_take] at h1
    have rd : ∀ {W : World}, Frm none_ w2 W → ∀ c v, (qc p)[c]? = some v → ∃ p32, (some ⟨b, 0, none⟩ : Option Addr) = some p32 ∧ ∃ t34 : Sl, Ld W (p32.add 0) (.slice t34.a t34.l t34.c) ∧ ∃ p36, t34.a = some p36 ∧ 0 ≤ (j : Int) ∧ (j : Int) < ((t34.l : Nat) : Int) ∧ Ld W ((p36.add (((j : Int)).toNat * 4)).add c) v := by
      intro W hf c v hv
      have hSW := hS2.n hf
      obtain ⟨q', hq', _, _, hld'⟩ := hSW.at hp
      exact ⟨_, rfl, s, hSW.ld0, q', hq', by omega, by omega, hld' c v hv⟩
    obtain ⟨a1, b1, a2, b2, a3, b3, b4, b5, b6⟩ := rd (Frm.refl _ _) 0 _ rfl
    refine ⟨a1, b1, a2, b2, a3, b3, b4, b5, p.n, b6, (rstr_calls w2 x _ p.n hx.has (by omega) (by omega)).mono ?_⟩
    rintro _ w3 ⟨t3, rfl, ht3, hn3, f3⟩
    obtain ⟨a1, b1, a2, b2, a3, b3, b4, b5, b6⟩ := rd f3 1 _ rfl
    refine ⟨t3, rfl, a1, b1, a2, b2, a3, b3, b4, b5, p.sh, b6, (rcount_calls w3 t3 _ p.sh ht3.has (by rw [rowLen ht3]; simp only [List.length_append]; omega)).mono ?_⟩
    rintro _ w4 ⟨t4, rfl, ht4, hn4, f4'⟩
    have f4 := f3.n f4'
    obtain ⟨a1, b1, a2, b2, a3, b3, b4, b5, b6⟩ := rd f4 2 _ rfl
    refine ⟨t4, rfl, a1, b1, a2, b2, a3, b3, b4, b5, p.had, b6, (rcount_calls w4 t4 _ p.had ht4.has (by rw [rowLen ht4]; simp only [List.length_append]; omega)).mono ?_⟩
    rintro _ w5 ⟨t5, rfl, ht5, hn5, f5'⟩
    have f5 := f4.n f5'
    obtain ⟨a1, b1, a2, b2, a3, b3, b4, b5, b6⟩ := rd f5 3 _ rfl
    refine ⟨t5, rfl, a1, b1, a2, b2, a3, b3, b4, b5, p.wt, b6, (rflag_calls w5 t5 _ p.wt ht5.has (by rw [rowLen ht5]; simp only [List.length_append]; omega)).mono ?_⟩
    rintro _ w6 ⟨t6, rfl, ht6, hn6, f6'⟩
    have f6 := f5.n f6'
    refine ⟨t6, rfl, M.length - (j + 1), by omega, j + 1, by omega, by rw [wi _ (by omega)]; omega, rfl, ?_, fun g hg => by have := hn6 g hg; have := (f2.n f5).size; omega, f2.n f6⟩
    rw [take_snoc hp, List.flatMap_append]
    simpa [pb] using ht6
  · refine ⟨x, rfl, ?_, hxn, f2⟩
    rw [List.take_of_length_le (by omega)] at hx
    exact hx
theorem texts_calls (w : World) (s t : Sl) (l m : List ByteArray) (hs : Has w s 1 (sv l)) (ht : Has w t 1 (sv m)) (hl : l.length ≤ 1000000000000) : Calls prog 28 #[.slice s.a s.l s.c, .slice t.a t.l t.c] w fun e w' => e = .returned (.bool (decide (l = m))) ∧ Frm none_ w w' := by
  refine calls_ret (W28 (x0 := s) (x1 := t) (Q := fun v w' => v = .bool (decide (l = m)) ∧ Frm none_ w w') ?_) (fun v w' ⟨h, h'⟩ => ⟨by rw [h], h'⟩)
  have h1 := has_sv hs
  have h2 := has_sv ht
  unfold F28
  refine IfB.intro (fun hne => ?_) (fun heq => ?_)
  · have hne := iNe hne
    refine ⟨?_, Frm.refl _ _⟩
    rw [decide_eq_false]
    rintro rfl
    omega
  have heq := iEq heq
  refine ⟨fun n i w' => ∃ j : Nat, j ≤ l.length ∧ i = (j : Int) ∧ n = l.length - j ∧ l.take j = m.take j ∧ Frm none_ w w', l.length, ⟨0, by omega, rfl, rfl, rfl, Frm.refl _ _⟩, ?_⟩
  rintro n u i w1 ⟨j, hj, rfl, rfl, he, f1⟩
  refine IfB.intro (fun hlt => ?_) (fun hge => ?_)
  · have hlt := of_decide_eq_true hlt
    obtain ⟨q, a, hq, ha, hld⟩ := sv_at ((hs.mod f1 (fun _ _ h => h)).drew) (i := j) (by omega)
    obtain ⟨q', a', hq', ha', hld'⟩ := sv_at ((ht.mod f1 (fun _ _ h => h)).drew) (i := j) (by omega)
    refine ⟨q, hq, by omega, by omega, a, hld, q', hq', by omega, by omega, a', hld', IfB.intro (fun hn => ?_) (fun hy => ?_)⟩
    · refine ⟨?_, f1.drew⟩
      rw [decide_eq_false]
      rintro rfl
      rw [ha] at ha'; cases ha'
      simp at hn
    · have : (a.toList == a'.toList) = true := by simpa using hy
      have : a = a' := (str_eqIff _ _).1 this
      subst this
      refine ⟨l.length - (j + 1), by omega, j + 1, by omega, by rw [wi _ (by omega)]; omega, rfl, ?_, f1.drew⟩
      rw [take_snoc ha, take_snoc ha', he]
  · have hge := of_decide_eq_false hge
    refine ⟨?_, f1⟩
    rw [List.take_of_length_le (by omega), List.take_of_length_le (by omega)] at he
    rw [decide_eq_true he]
theorem copied_calls (w : World) (x : Sl) (ws : List ByteArray) (hx : Has w x 1 (sv ws)) (hn : ws.length ≤ 100000) : Calls prog 26 #[.slice x.a x.l x.c] w (MadeT w ws) := by
  refine calls_ret (W26 (x0 := x) (Q := fun v w' => ∃ r : Sl, v = .slice r.a r.l r.c ∧ Row w' r 9 1 (sv ws) ∧ New w r ∧ Frm none_ w w') ?_) (fun v w' ⟨r, h, h'⟩ => ⟨r, by rw [h], h'⟩)
  have hl := has_sv hx
  unfold F26
  refine runT_lit0 st28 ?_
  intro w1 hr1 f1 z1
  refine runT_append st28 hr1 (hx.mod f1 (fun _ _ h => h)) (sv_one _) (by simp only at hl ⊢; omega) (by simp only [maxLen] at hl ⊢; omega) ?_
  intro t w2 hr2 hl2 hn2 f2
  have hnew : New w ⟨some ⟨w.heap.size, 0, none⟩, 0, 0⟩ := fun k hk => by simp [Sl.blk] at hk; omega
  exact ⟨t, rfl, by simpa using hr2, hnew.near (w2 := w2) hn2 f1.size, hnew.frm f1 f2⟩
end Go.Proofs.Ythgeacnemojjgaa

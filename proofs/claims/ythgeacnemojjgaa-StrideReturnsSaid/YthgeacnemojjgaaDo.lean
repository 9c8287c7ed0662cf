/- The document's Set, Drop, Charge, Names, Save, walked. -/
import Derived.Test.YthgeacnemojjgaaDr
set_option linter.unusedVariables false
set_option linter.unusedSimpArgs false
set_option maxRecDepth 20000
namespace Go.Proofs.Ythgeacnemojjgaa
open Go Go.Proofs.YthgeacnemojjgaaV
theorem runT_snd {w : World} {s : Sem Value} {K : Sl → World → Prop} (h : RunT prog .slice s w fun x w' => True ∧ K x w') : RunT prog .slice s w K := by
  unfold RunT at h ⊢
  split at h
  · rename_i v w' he
    clear he
    obtain ⟨x, hx, _, hk⟩ := h
    exact ⟨x, hx, hk⟩
  · exact h.elim
theorem dChg_calls (w : World) (D : Nat → Prop) (b : Nat) (M : List Pj) (h : Dcw w D b M) (ok : OkM M) (nm : ByteArray) (a : Int) : Calls prog 25 #[.pointer (some ⟨b, 0, none⟩), .string nm, .int .i64 a] w fun e w' => e = .returned (.int .i64 (chgP nm a M).1) ∧ WentD w D b (chgP nm a M).2 w' := by
  refine calls_ret (W25 (x0 := some ⟨b, 0, none⟩) (x1 := nm) (x2 := a) (Q := fun v w' => v = .int .i64 (chgP nm a M).1 ∧ WentD w D b (chgP nm a M).2 w') ?_) (fun v w' ⟨h, h'⟩ => ⟨by rw [h], h'⟩)
  have h0 := h
  obtain ⟨s, hS, hDb, hDs, hDl⟩ := h
  have hn := ok.n
  unfold F25
  refine (dAt_calls w b s M hS ok.srt (by omega) nm).mono ?_
  rintro _ w1 ⟨rfl, e⟩
  subst e
  refine ⟨_, rfl, ?_⟩
  unfold chgP ixI
  cases hi : ix nm M with
  | none => exact IfB.t rfl ⟨rfl, WentD.same h0 (Frm.refl _ _)⟩
  | some i =>
    obtain ⟨_, p, hp, rfl⟩ := ix_some hi
    have okp := ok.at hp
    have o1 := okp.h1
    have o2 := okp.h2
    refine IfB.f (decide_eq_false (by simp only; omega)) (IfB.dec (fun hneg => ?_) (fun hpos => ?_))
    · simp only [if_pos hneg]
      exact ⟨trivial, WentD.same h0 (Frm.refl _ _)⟩
    · simp only [if_neg hpos, hp]
      obtain ⟨q, hq, hil, _, hld⟩ := hS.at hp
      refine ⟨_, rfl, s, hS.ld0, q, hq, by omega, by omega, p.had, hld 2 _ rfl, ?_⟩
      rw [wi _ (by omega)]
      refine IfB.dec (fun hgt => ?_) (fun hle => ?_)
      · rw [if_pos hgt]
        exact ⟨rfl, WentD.same h0 (Frm.refl _ _)⟩
      · rw [if_neg hle]
        have hSd : Dcr w1.drew b s M := hS.n (frm_drew _)
        obtain ⟨q', hq', _, _, hld'⟩ := hSd.at hp
        rw [hq] at hq'; cases hq'
        obtain ⟨q', hq', _, hw, hS2, hf⟩ := hSd.wr (c := 2) (v := .int .i64 (p.had + a)) (p' := { p with had := p.had + a }) hp (by omega) rfl
        rw [hq] at hq'; cases hq'
        refine ⟨fun W => W = w1.drew, rfl, _, rfl, s, fun W e => by subst e; exact hSd.ld0, _, rfl, s, fun W e => by subst e; exact hSd.ld0, q, hq, by omega, by omega, p.had, fun W e => by subst e; exact hld' 2 _ rfl, q, hq, by omega, by omega, hw, ?_⟩
        rw [wi _ (by omega)]
        rintro w2 rfl
        exact ⟨rfl, wentD ((hf.ofDrew).mono fun k _ hk => hDs k hk) hS2 (.inl hDb) (fun k hk => .inl (hDs k hk))⟩
theorem dSet_calls (w : World) (D : Nat → Prop) (b : Nat) (M : List Pj) (h : Dcw w D b M) (ok : OkM M) (nm : ByteArray) (a : Int) : Calls prog 23 #[.pointer (some ⟨b, 0, none⟩), .string nm, .int .i64 a] w fun e w' => e = .returned (.int .i64 (setP nm a M).1) ∧ WentD w D b (setP nm a M).2 w' := by
  refine calls_ret (W23 (x0 := some ⟨b, 0, none⟩) (x1 := nm) (x2 := a) (Q := fun v w' => v = .int .i64 (setP nm a M).1 ∧ WentD w D b (setP nm a M).2 w') ?_) (fun v w' ⟨h, h'⟩ => ⟨by rw [h], h'⟩)
  have h0 := h
  obtain ⟨s, hS, hDb, hDs, hDl⟩ := h
  have hn := ok.n
  have hsl := hS.sl
  unfold F23
  refine (dName_calls w nm).mono ?_
  rintro _ w' ⟨rfl, e⟩
  subst e
  refine ⟨_, rfl, ?_⟩
  unfold setP
  by_cases hg : goodP nm
  rotate_left 1
  · rw [if_pos hg]
    exact IfB.t (by rw [decide_eq_false hg]; rfl) ⟨rfl, WentD.same h0 (Frm.refl _ _)⟩
  rw [if_neg (by simpa using hg)]
  refine IfB.f (by rw [decide_eq_true hg]; rfl) ⟨fun c u => c = decide (a < 1 ∨ 1000 < a) ∧ u = w', ?_, ?_⟩
  · refine IfB.dec (fun h => ⟨(decide_eq_true (.inl h)).symm, rfl⟩) (fun h => ⟨?_, rfl⟩)
    by_cases h2 : a > 1000
    · rw [decide_eq_true h2, decide_eq_true (.inr h2)]
    · rw [decide_eq_false h2, decide_eq_false (by omega)]
  rintro u c w1 ⟨rfl, rfl⟩
  refine IfB.dec (fun hbad => ?_) (fun hok => ?_)
  · rw [if_pos hbad]
    exact ⟨rfl, WentD.same h0 (Frm.refl _ _)⟩
  rw [if_neg hok]
  refine (dAt_calls w1 b s M hS ok.srt (by omega) nm).mono ?_
  rintro _ w2 ⟨rfl, e⟩
  subst e
  refine ⟨_, rfl, ?_⟩
  unfold ixI
  cases hi : ix nm M with
  | some i =>
    obtain ⟨_, p, hp, rfl⟩ := ix_some hi
    have okp := ok.at hp
    have hSd : Dcr w2.drew b s M := hS.n (frm_drew _)
    obtain ⟨q, hq, hil, _, hld⟩ := hSd.at hp
    simp only [hp]
    refine IfB.t (decide_eq_true (by omega)) ⟨fun W => W = w2.drew, rfl, _, rfl, s, fun W e => by subst e; exact hSd.ld0, q, hq, by omega, by omega, p.had, fun W e => by subst e; exact hld 2 _ rfl, _, rfl, s, fun W e => by subst e; exact hSd.ld0, q, hq, by omega, by omega, p.sh, fun W e => by subst e; exact hld 1 _ rfl, (dScaled_calls w2.drew p.had p.sh a ⟨okp.h1, okp.h2⟩ ⟨okp.s1, okp.s2⟩ (by omega)).mono ?_⟩
    rintro _ w3 ⟨rfl, e⟩
    subst e
    refine ⟨_, rfl, IfB.dec (fun hgt => ?_) (fun hle => ?_)⟩
    · rw [if_pos hgt]
      exact ⟨rfl, WentD.same h0 (frm_drew _)⟩
    · rw [if_neg hle]
      obtain ⟨q', hq', _, hw, hS2, hf⟩ := hSd.wr (c := 2) (v := .int .i64 (scl p.had p.sh a)) (p' := { p with had := scl p.had p.sh a }) hp (by omega) rfl
      rw [hq] at hq'; cases hq'
      refine ⟨_, rfl, s, hSd.ld0, q, hq, by omega, by omega, hw, ?_⟩
      rintro w4 rfl
      have hp2 : (M.set i { p with had := scl p.had p.sh a })[i]? = some { p with had := scl p.had p.sh a } := List.getElem?_set_self (List.getElem?_eq_some_iff.1 hp).1
      obtain ⟨q', hq', _, hw2, hS3, hf2⟩ := hS2.wr (c := 1) (v := .int .i64 a) (p' := { p with sh := a, had := scl p.had p.sh a }) hp2 (by omega) rfl
      rw [hq] at hq'; cases hq'
      refine ⟨_, rfl, s, hS2.ld0, q, hq, by omega, by omega, hw2, ?_⟩
      rintro w5 rfl
      rw [List.set_set] at hS3
      exact ⟨rfl, wentD (((hf.trans hf2 (fun _ _ h => h) (fun _ _ h => h) : Frm (fun k => s.blk = some k) w2.drew _).ofDrew).mono fun k _ hk => hDs k hk) hS3 (.inl hDb) (fun k hk => .inl (hDs k hk))⟩
  | none =>
    refine IfB.f rfl ⟨_, rfl, s, hS.ld0, IfB.dec (fun h4 => ?_) (fun h4 => ?_)⟩
    · simp only
      rw [if_pos (by omega)]
      exact ⟨rfl, WentD.same h0 (Frm.refl _ _)⟩
    simp only
    rw [if_neg (by omega)]
    have hlo := lo_le nm M
    obtain ⟨x, hx⟩ : ∃ x : Pj, x = ⟨nm, a, 0, false⟩ := ⟨_, rfl⟩
    rw [← hx]
    -- what has been told on, at place j
    obtain ⟨pre, hpre⟩ : ∃ pre : Nat → List Pj, pre = fun j => if j ≤ lo nm M then M.take j else M.take (lo nm M) ++ x :: (M.take j).drop (lo nm M) := ⟨_, rfl⟩
    have hbl : ∀ nm' : ByteArray, Op.bytesLess nm.toList nm'.toList = blt nm nm' := fun nm' => by rw [ByteArray.toList_eq, ByteArray.toList_eq]; rfl
    have low : ∀ j p, M[j]? = some p → j < lo nm M → blt nm p.n = false := fun j p hp hj => blt_anti (lo_below hj hp)
    have high : ∀ j p, M[j]? = some p → lo nm M ≤ j → blt nm p.n = true := by
      intro j p hp hj
      obtain ⟨p0, hp0⟩ : ∃ p0, M[lo nm M]? = some p0 := ⟨_, List.getElem?_eq_getElem (by have := (List.getElem?_eq_some_iff.1 hp).1; omega)⟩
      have h1 := lo_at hp0
      have h2 : blt nm p0.n = true := by
        cases hb : blt nm p0.n with
        | true => rfl
        | false => exact (ix_none ok.srt hi hp0 (blt_tri h1 hb)).elim
      by_cases hjl : j = lo nm M
      · subst hjl; rw [hp0] at hp; cases hp; exact h2
      · exact blt_trans h2 (ok.srt.lt (by omega) hp0 hp)
    have pstep : ∀ j p, M[j]? = some p → j ≠ lo nm M → pre (j + 1) = pre j ++ [p] := by
      intro j p hp hj
      rw [hpre]
      simp only
      by_cases h1 : j < lo nm M
      · rw [if_pos (by omega), if_pos (by omega), take_snoc hp]
      · rw [if_neg (by omega), if_neg (by omega), take_snoc hp, List.drop_append_of_le_length (by rw [List.length_take]; have := (List.getElem?_eq_some_iff.1 hp).1; omega)]
        simp
    have pat : ∀ p, M[lo nm M]? = some p → pre (lo nm M + 1) = (pre (lo nm M) ++ [x]) ++ [p] := by
      intro p hp
      rw [hpre]
      simp only
      rw [if_neg (by omega), if_pos (Nat.le_refl _), take_snoc hp, List.drop_left' (by rw [List.length_take]; have := (List.getElem?_eq_some_iff.1 hp).1; omega)]
      simp
    have plen : ∀ j, j ≤ M.length → (pre j).length ≤ M.length + 1 := by
      intro j hj
      rw [hpre]
      simp only
      split
      · rw [List.length_take]; omega
      · simp only [List.length_append, List.length_cons, List.length_take, List.length_drop]; omega
    have grow : ∀ {w : World} {t : Sl} {W W2 : World} {k : Nat}, New w t → (∀ k, t.blk = some k → k < W.heap.size) → w.heap.size ≤ W.heap.size → True := fun _ _ _ => trivial
    refine ⟨fun n t c i W => ∃ j : Nat, i = (j : Int) ∧ j ≤ M.length ∧ n = M.length - j ∧ c = decide (lo nm M < j) ∧ Row W t 50 4 (qv (pre j)) ∧ New w2 t ∧ Frm none_ w2 W, M.length, ⟨0, rfl, by omega, rfl, (decide_eq_false (by omega)).symm, ?_, fun k hk => by simp [Sl.blk] at hk, Frm.refl _ _⟩, ?_⟩
    · rw [hpre]
      simp only [Nat.zero_le, if_true, List.take_zero]
      exact Row.nil _ _ _
    rintro n u t c i w3 ⟨j, rfl, hj, rfl, rfl, ht, htn, f3⟩
    have hS3 := hS.n f3
    refine ⟨_, rfl, s, hS3.ld0, IfB.dec (fun hlt => ?_) (fun hge => ?_)⟩
    · obtain ⟨p, hp⟩ : ∃ p, M[j]? = some p := ⟨_, List.getElem?_eq_getElem (by omega)⟩
      refine ⟨fun t' c' W => c' = decide (lo nm M < j + 1) ∧ Row W t' 50 4 (qv (if j = lo nm M then pre j ++ [x] else pre j)) ∧ New w2 t' ∧ Frm none_ w2 W, ?_, ?_⟩
      · by_cases hlj : lo nm M < j
        · refine IfB.f (by rw [decide_eq_true hlj]; rfl) ⟨by rw [decide_eq_true hlj, decide_eq_true (by omega)], ?_, htn, f3⟩
          rw [if_neg (by omega)]; exact ht
        · obtain ⟨q, hq, hil, _, hld⟩ := hS3.at hp
          refine IfB.t (by rw [decide_eq_false hlj]; rfl) ⟨_, rfl, s, hS3.ld0, q, hq, by omega, by omega, p.n, hld 0 _ rfl, ?_⟩
          rw [hbl]
          by_cases hjl : j = lo nm M
          · refine IfB.t (high j p hp (by omega)) ⟨_, b50 nm a, ?_⟩
            have := app1 (K := fun t96 w1_5 => true = decide (lo nm M < j + 1) ∧ Row w1_5 t96 50 4 (qv (if j = lo nm M then pre j ++ [x] else pre j)) ∧ New w2 t96 ∧ Frm none_ w2 w1_5) x ht (by have := plen j hj; omega) (cs := (qc ⟨nm, a, 0, false⟩).toArray) (by rw [hx]) (fun _ => True) (fun _ _ => trivial) (fun t' W' hr hk hf => by
              refine ⟨(decide_eq_true (by omega)).symm, by rw [if_pos hjl]; exact hr, fun k hk' => ?_, f3.trans hf (fun _ _ h => h) (fun k hk1 hk2 => by have := htn k hk2; omega)⟩
              rcases hk k hk' with h | h
              · exact htn k h
              · have := f3.size; omega)
            exact runT_snd this
          · refine IfB.f (low j p hp (by omega)) ⟨by rw [decide_eq_false hlj, decide_eq_false (by omega)], ?_, htn, f3⟩
            rw [if_neg hjl]; exact ht
      · rintro u2 t' c' w4 ⟨rfl, ht', htn', f4⟩
        have hS4 := hS.n f4
        obtain ⟨q, hq, hil, hla, hld⟩ := hS4.at hp
        refine ⟨_, rfl, s, hS4.ld0, q, hq, by omega, by omega, _, hla, ?_⟩
        have e : pre (j + 1) = (if j = lo nm M then pre j ++ [x] else pre j) ++ [p] := by
          by_cases hjl : j = lo nm M
          · rw [if_pos hjl]
            subst hjl
            exact pat p hp
          · rw [if_neg hjl]; exact pstep j p hp hjl
        have hl2 : (if j = lo nm M then pre j ++ [x] else pre j).length ≤ 100000 := by
          have := plen j hj
          split
          · simp; omega
          · omega
        have := app1 (K := fun t106 w1_6 => ∃ n', n' < M.length - j ∧ ∃ j' : Nat, IntKind.wrap .i64 ((j : Int) + (1 : Int)) = (j' : Int) ∧ j' ≤ M.length ∧ n' = M.length - j' ∧ decide (lo nm M < j + 1) = decide (lo nm M < j') ∧ Row w1_6 t106 50 4 (qv (pre j')) ∧ New w2 t106 ∧ Frm none_ w2 w1_6) p ht' hl2 rfl (fun _ => True) (fun _ _ => trivial) (fun t2 W' hr hk hf => by
          refine ⟨M.length - (j + 1), by omega, j + 1, by rw [wi _ (by omega)]; omega, by omega, rfl, rfl, by rw [e]; exact hr, fun k hk' => ?_, f4.trans hf (fun _ _ h => h) (fun k hk1 hk2 => by have := htn' k hk2; omega)⟩
          rcases hk k hk' with h | h
          · exact htn' k h
          · have := f4.size; omega)
        exact runT_snd this
    · have hjl : j = M.length := by omega
      subst hjl
      have hbs : s.blk ≠ some b := fun e => hS.row.g.blkNeB hS.blk.g (by decide) e
      -- the row is put in
      have fin : ∀ {t' : Sl} {W : World}, Row W t' 50 4 (qv (M.take (lo nm M) ++ x :: M.drop (lo nm M))) → New w2 t' → Frm none_ w2 W →
          ∃ p117, (some ⟨b, 0, none⟩ : Option Addr) = some p117 ∧ Wr W (p117.add 0) ∧ ∀ w1_6, w1_6 = W.setCell (p117.add 0) (.slice t'.a t'.l t'.c) → Value.int .i64 0 = .int .i64 0 ∧ WentD w2 D b (M.take (lo nm M) ++ x :: M.drop (lo nm M)) w1_6 := by
        intro t' W ht' htn' f4
        have hb4 := (hS.n f4).blk
        refine ⟨_, rfl, by rw [addr_add]; exact hb4.wr (by show 0 < 1; omega), ?_⟩
        rintro w6 rfl
        rw [addr_add]
        have f6 : Frm (fun k => k = b) W (W.setCell ⟨b, 0 + 0, none⟩ (.slice t'.a t'.l t'.c)) := mod_setCell (a := ⟨b, 0 + 0, none⟩)
        have hb6 : Blk (W.setCell ⟨b, 0 + 0, none⟩ (.slice t'.a t'.l t'.c)) b #[.slice t'.a t'.l t'.c] 43 := hb4.set (0 + 0) (.slice t'.a t'.l t'.c)
        have hbl := hS.blk.lt
        refine ⟨rfl, wentD (f4.trans f6 (fun _ _ h => h.elim) (fun k _ hk => by rw [show k = b from hk]; exact hDb)) ⟨hb6, ht'.mod f6 (fun k hk e => by have := htn' k hk; have e : k = b := e; omega)⟩ (.inl hDb) (fun k hk => .inr (htn' k hk))⟩
      by_cases hlj : lo nm M < M.length
      · refine IfB.f (by rw [decide_eq_true hlj]; rfl) (fin ?_ htn f3)
        have : pre M.length = M.take (lo nm M) ++ x :: M.drop (lo nm M) := by
          rw [hpre]; simp only; rw [if_neg (by omega), List.take_length]
        rw [this] at ht
        exact ht
      · have hle : lo nm M = M.length := by omega
        refine IfB.t (by rw [decide_eq_false hlj]; rfl) ⟨_, b50 nm a, ?_⟩
        have he : pre M.length = M := by rw [hpre]; simp only; rw [if_pos (by omega), List.take_length]
        rw [he] at ht
        have := app1 (K := fun t114 w1_5 => ∃ p117, (some ⟨b, 0, none⟩ : Option Addr) = some p117 ∧ Wr w1_5 (p117.add 0) ∧ ∀ w1_6, w1_6 = w1_5.setCell (p117.add 0) (.slice t114.a t114.l t114.c) → Value.int .i64 0 = .int .i64 0 ∧ WentD w2 D b (M.take (lo nm M) ++ x :: M.drop (lo nm M)) w1_6) x ht (by omega) (cs := (qc ⟨nm, a, 0, false⟩).toArray) (by rw [hx]) (fun _ => True) (fun _ _ => trivial) (fun t' W' hr hk hf => by
          refine fin ?_ (fun k hk' => ?_) (f3.trans hf (fun _ _ h => h) (fun k hk1 hk2 => by have := htn k hk2; omega))
          · rw [hle, List.take_length, List.drop_length]; exact hr
          · rcases hk k hk' with h | h
            · exact htn k h
            · have := f3.size; omega)
        exact runT_snd this
end Go.Proofs.Ythgeacnemojjgaa

/- JournalNames: nobody's journal, the errors, as many writes as may be. -/
import Derived.Test.YtlbipbepeeopaaaAw
set_option linter.unusedVariables false
set_option linter.unusedSimpArgs false
set_option maxRecDepth 20000
namespace Go.Proofs.Ytlbipbepeeopaaa
open Go Go.Proofs.YtlbipbepeeopaaaV
theorem aliveNil_calls (w : World) : Calls prog 27 #[.pointer none] w fun e w' => e = .returned (.int .i64 2) ∧ w = w' := by
  refine calls_ret (W27 (Q := fun v w' => v = .int .i64 2 ∧ w = w') ?_) (fun v w' ⟨h, h'⟩ => ⟨by rw [h], h'⟩)
  unfold F27
  exact ⟨_, nil_eql32 _, IfB.t rfl ⟨rfl, rfl⟩⟩
theorem readNil_calls (w : World) (i : Int) : Calls prog 17 #[.pointer none, .int .i64 i] w fun e w' => e = .returned (.tuple #[.slice none 0 0, .int .i64 2]) ∧ w = w' := by
  refine calls_ret (W17 (Q := fun v w' => v = .tuple #[.slice none 0 0, .int .i64 2] ∧ w = w') ?_) (fun v w' ⟨h, h'⟩ => ⟨by rw [h], h'⟩)
  unfold F17
  refine (aliveNil_calls w).mono ?_
  rintro _ _ ⟨rfl, rfl⟩
  exact ⟨2, rfl, IfB.t rfl ⟨rfl, rfl⟩⟩
theorem rawNil_calls (w : World) (i : Int) (s : Sl) : Calls prog 25 #[.pointer none, .int .i64 i, .slice s.a s.l s.c] w fun e w' => e = .returned (.int .i64 2) ∧ w = w' := by
  refine calls_ret (W25 (Q := fun v w' => v = .int .i64 2 ∧ w = w') ?_) (fun v w' ⟨h, h'⟩ => ⟨by rw [h], h'⟩)
  unfold F25
  refine (aliveNil_calls w).mono ?_
  rintro _ _ ⟨rfl, rfl⟩
  exact ⟨2, rfl, IfB.t rfl ⟨rfl, rfl⟩⟩
theorem doNil_calls (w : World) (s : Sl) : Calls prog 10 #[.pointer none, .slice s.a s.l s.c] w fun e w' => e = .returned (.int .i64 2) ∧ w = w' := by
  refine calls_ret (W10 (Q := fun v w' => v = .int .i64 2 ∧ w = w') ?_) (fun v w' ⟨h, h'⟩ => ⟨by rw [h], h'⟩)
  unfold F10
  refine (aliveNil_calls w).mono ?_
  rintro _ _ ⟨rfl, rfl⟩
  exact ⟨2, rfl, IfB.t rfl ⟨rfl, rfl⟩⟩
theorem diskNil_calls (w : World) : Calls prog 19 #[.pointer none] w fun e w' => e = .returned (.pointer none) ∧ w = w' := by
  refine calls_ret (W19 (Q := fun v w' => v = .pointer none ∧ w = w') ?_) (fun v w' ⟨h, h'⟩ => ⟨by rw [h], h'⟩)
  unfold F19
  exact ⟨_, nil_eql32 _, IfB.t rfl ⟨rfl, rfl⟩⟩
theorem Grp.take {H : Nat → Prop} {w : World} {x : Sl} {l : List Wt} (h : Grp H w x l) (k c : Nat) (hk : k ≤ l.length) : Grp H w ⟨x.a, k, c⟩ (l.take k) := by
  refine ⟨by rw [List.length_take]; simp only; omega, h.blk, fun j hj => ?_⟩
  rw [List.length_take] at hj
  obtain ⟨p, s, h1, h2, h3, h4⟩ := h.get j (by omega)
  exact ⟨p, s, h1, by rw [List.getElem_take]; exact h2, by rw [List.getElem_take]; exact h3, h4⟩
theorem Grp.nil (H : Nat → Prop) (w : World) : Grp H w ⟨none, 0, 0⟩ [] := ⟨rfl, fun k hk => by simp [Sl.blk] at hk, fun j hj => absurd hj (by simp)⟩
theorem Row.cap {w : World} {s : Sl} {E : TypeId} {sz : Nat} {cs : List Value} (h : Row w s E sz cs) : s.l ≤ s.c := by
  rcases h.cases with ⟨rfl, _⟩ | ⟨g, cur, _, _, h1, _⟩
  · exact Nat.le_refl _
  · exact h1
def nmL (n : Nat) : List Wt := (List.range n).map fun (i : Nat) => ((130 : Int) + (i : Int), rep (i : Int))
theorem nmL_len (n : Nat) : (nmL n).length = n := by simp [nmL]
theorem nmL_take (n k : Nat) (h : k ≤ n) : (nmL n).take k = nmL k := by
  unfold nmL
  rw [← List.map_take, List.take_range, Nat.min_eq_left h]
theorem nmL_mem {n : Nat} {p : Wt} (h : p ∈ nmL n) : 130 ≤ p.1 ∧ p.1 < 130 + (n : Int) ∧ p.2.length = 256 := by
  obtain ⟨i, hi, rfl⟩ := List.mem_map.1 h
  rw [List.mem_range] at hi
  exact ⟨by simp only; omega, by simp only; omega, rep_len _⟩
theorem nmL_chk : chkD 512 (nmL 120) = 0 := by
  refine chk_ok (by rw [nmL_len]; exact Nat.le_refl _) ⟨fun p hp => ?_, ?_⟩
  · have := nmL_mem hp
    exact ⟨.inr (by omega), this.2.2⟩
  · unfold nmL
    rw [List.map_map]
    unfold List.Nodup
    rw [List.pairwise_map]
    refine List.Pairwise.imp (fun h => ?_) (List.nodup_range (n := 120))
    intro e
    apply h
    simp only [Function.comp] at e
    omega
theorem trRg {lo hi : Nat} {W w w' : World} (h : Frm none_ W w) (k : Frm (Rg lo hi) w w') (hlo : W.heap.size ≤ lo) : Frm none_ W w' := Frm.rg h k hlo
set_option maxHeartbeats 2000000 in
theorem names_law (w : World) : Calls prog 6 #[] w fun e w' => e = .returned (.bool true) ∧ Frm none_ w w' := by
  refine calls_ret (W6 (Q := fun v w' => v = .bool true ∧ Frm none_ w w') ?_) (fun v w' ⟨h, h'⟩ => ⟨by rw [h], h'⟩)
  unfold F6
  refine (openNil_calls w).mono ?_
  rintro _ _ ⟨rfl, rfl⟩
  refine ⟨none, 2, rfl, ?_⟩
  refine (readNil_calls w 0).mono ?_
  rintro _ _ ⟨rfl, rfl⟩
  refine ⟨⟨none, 0, 0⟩, 2, rfl, ?_⟩
  refine (fresh_calls w).mono ?_
  rintro _ w1 ⟨x, y, d, hi, rfl, hs, hcut, hwr, hF1⟩
  obtain ⟨b, hy⟩ := hs.y
  subst hy
  refine ⟨x, _, rfl, fun v w' => v = false ∧ w' = w1, ?_, ?_⟩
  · refine ⟨_, some_eql32 _ b, IfB.f rfl ?_⟩
    refine (diskNil_calls w1).mono ?_
    rintro _ _ ⟨rfl, rfl⟩
    exact ⟨none, rfl, _, nil_neq _, rfl, rfl⟩
  rintro u v w0 ⟨rfl, hw0⟩
  have hw0 := hw0.symm
  subst hw0
  refine IfB.f rfl ?_
  refine ⟨fun n t i w2 => ∃ (j : Nat) (es : List (Wt × Sl)), i = (j : Int) ∧ j ≤ 121 ∧ n = 121 - j ∧ es.map (·.1) = nmL j ∧ GrpR 30 w1.heap.size w2 t es ∧ Frm none_ w1 w2, 121, ⟨0, [], rfl, by omega, by omega, rfl, GrpR.nil _ _ _, Frm.refl _ _⟩, ?_⟩
  rintro n u t i w2 ⟨j, es, rfl, hj, rfl, hes, hGr, hF2⟩
  have hesl : es.length = j := by
    have := congrArg List.length hes
    rw [List.length_map, nmL_len] at this
    exact this
  have hz2 := hF2.size
  refine IfB.intro (fun hc => ?_) (fun hc => ?_)
  · have hc := of_decide_eq_true hc
    have e1 : IntKind.wrap .u8 (j : Int) = (j : Int) := by
      have : IntKind.wrap .u8 (j : Int) = (j : Int) % 256 := by simp [IntKind.wrap, IntKind.signed, IntKind.bits]
      omega
    rw [e1, wi (130 + (j : Int)) (by omega)]
    refine (full_i w2 (j : Int) (by omega) (by omega)).mono ?_
    rintro _ w3 ⟨s, rfl, hr3, hl3, hb3, hF3⟩
    have hz3 := hF3.size
    refine ⟨s, rfl, _, b30s _ s, ?_⟩
    refine GrpR.push (p := (130 + (j : Int), rep (j : Int))) st25 (hGr.mod hF3 (fun _ _ _ h => h)) hr3.has (fun k hk => ⟨by have := hb3 k hk; omega, (hb3 k hk).2, fun hkt => by have := hb3 k hk; have := hGr.row.lt k hkt; omega⟩) (by omega) (by omega) ?_
    intro t' w4 hGr4 hF4 _
    refine ⟨121 - (j + 1), by omega, j + 1, _, by rw [wi _ (by omega)]; omega, by omega, rfl, ?_, hGr4, (trN hF2 hF3).trans hF4 (fun _ _ h => h) (fun k hk he => by have := hGr.lo k he; omega)⟩
    rw [List.map_append, hes]
    unfold nmL
    rw [List.range_succ, List.map_append]
    rfl
  have hc := of_decide_eq_false hc
  have hj' : j = 121 := by omega
  subst hj'
  have hcap := Row.cap hGr.row
  have htl := hGr.len
  have hgrp := hGr.grp
  rw [hes] at hgrp
  refine ⟨⟨by decide, by omega⟩, ?_⟩
  have hF2d : Frm none_ w1 w2.drew := hF2.drew
  have hs2 := hs.modN hF2d
  have hg2 : Grp (fun k => w1.heap.size ≤ k ∧ k < w2.heap.size) w2.drew t (nmL 121) := hgrp.mod (F := none_) ⟨rfl, rfl, rfl, Nat.le_refl _, fun _ _ _ => rfl⟩ (fun _ _ h => h)
  have hdis : ∀ k, (w1.heap.size ≤ k ∧ k < w2.heap.size) → ¬ Rg w.heap.size hi k := fun k hk hr => by have := hs.hi; have := hr.2; omega
  have hrng : ∀ n, n ≤ 121 → ∀ p ∈ nmL n, -9223372036854775808 ≤ p.1 ∧ p.1 ≤ 9223372036854775807 := fun n hn p hp => by have := nmL_mem hp; omega
  refine (hs2.do hg2 hdis (fun k hk => hk.2) (hrng 121 (Nat.le_refl _)) (by omega)).mono ?_
  rintro _ w3 ⟨d3, r, rfl, hdo, hw3, hh3, hF3⟩
  have hck : chkD 512 (nmL 121) = 3 := chk_full (by rw [nmL_len]; omega)
  rcases hdo with ⟨_, rfl, rfl, hs3⟩ | ⟨h1, _⟩ | ⟨h1, _⟩
  rotate_left
  · rw [hck] at h1; cases h1
  · rw [hck] at h1; cases h1
  rw [hck]
  refine ⟨3, rfl, ?_⟩
  have hF03 : Frm none_ w w3 := trRg (trN hF1 hF2d) hF3 (Nat.le_refl _)
  have hz3 : w2.heap.size ≤ w3.heap.size := hF3.size
  have hg3 := (hg2.mod hF3 hdis).take 120 (t.c - 0) (by rw [nmL_len]; omega)
  rw [nmL_take 121 120 (by omega)] at hg3
  have e0 : slA t.a 0 t.c 2 = t.a := slA_zero _ _ _
  rw [e0]
  refine (hs3.do hg3 hdis (fun k hk => by omega) (hrng 120 (by omega)) (by omega)).mono ?_
  rintro _ w4 ⟨d4, r, rfl, hdo, hw4, hh4, hF4⟩
  rcases hdo with ⟨h1, _⟩ | ⟨_, rfl, hs4, _, _⟩ | ⟨_, _, _, _, _, h1, _⟩
  · exact absurd nmL_chk h1
  rotate_left
  · omega
  rw [nmL_len] at hw4
  refine ⟨0, rfl, ?_⟩
  have hF04 : Frm none_ w w4 := trRg hF03 hF4 (Nat.le_refl _)
  refine (hs4.readBad (i := 121) (by rintro (h | h) <;> omega)).mono ?_
  rintro _ w5 ⟨rfl, hF5⟩
  refine ⟨⟨none, 0, 0⟩, 1, rfl, ?_⟩
  have hs5 := hs4.modN hF5
  refine (full_i w5 0 (by decide) (by decide)).mono ?_
  rintro _ w6 ⟨s6, rfl, hr6, hl6, hb6, hF6⟩
  refine ⟨s6, rfl, ?_⟩
  have hs6 := hs5.modN hF6
  have hz5 := hs5.hi
  refine (hs6.raw (i := 1) (by decide) hr6.has (fun k hk hr => by have := hb6 k hk; have := hr.2; omega) (by omega)).mono ?_
  rintro _ w7 ⟨d7, r, rfl, hra, hw7, hh7, hF7⟩
  have hck1 : chkD 512 [(1, rep 0)] = 1 := by
    rw [chk_one, if_neg]
    rintro ⟨h | h, _⟩ <;> omega
  rcases hra with ⟨_, rfl, rfl, hs7⟩ | ⟨h1, _⟩ | ⟨h1, _⟩
  rotate_left
  · rw [hck1] at h1; cases h1
  · rw [hck1] at h1; cases h1
  rw [hck1]
  refine ⟨1, rfl, ?_⟩
  have hF07 : Frm none_ w w7 := trRg (trN (trN hF04 hF5) hF6) hF7 (Nat.le_refl _)
  refine (full_i w7 0 (by decide) (by decide)).mono ?_
  rintro _ w8 ⟨s8, rfl, hr8, hl8, hb8, hF8⟩
  have hcap8 := Row.cap hr8
  refine ⟨s8, rfl, ⟨by decide, by omega⟩, ?_⟩
  have hs8 := hs7.modN hF8
  have hz7 := hs7.hi
  have e8 : slA s8.a 0 s8.c 1 = s8.a := slA_zero _ _ _
  rw [e8]
  have hh8 := hr8.has.head 255 (s8.c - 0) (by omega)
  rw [bv_take] at hh8
  refine (hs8.raw (i := 122) (by decide) hh8 (fun k hk hr => by have := hb8 k hk; have := hr.2; omega) (by omega)).mono ?_
  rintro _ w9 ⟨d9, r, rfl, hra, hw9, hh9, hF9⟩
  have hck2 : chkD 512 [(122, (rep 0).take 255)] = 1 := by
    rw [chk_one, if_neg]
    rintro ⟨_, h⟩
    rw [List.length_take, rep_len] at h
    omega
  rcases hra with ⟨_, rfl, rfl, hs9⟩ | ⟨h1, _⟩ | ⟨h1, _⟩
  rotate_left
  · rw [hck2] at h1; cases h1
  · rw [hck2] at h1; cases h1
  rw [hck2]
  refine ⟨1, rfl, ?_⟩
  have hF09 : Frm none_ w w9 := trRg (trN hF07 hF8) hF9 (Nat.le_refl _)
  refine (hs9.do (Grp.nil none_ w9) (fun k hk => hk.elim) (fun k hk => hk.elim) (by simp) (by omega)).mono ?_
  rintro _ w10 ⟨d10, r, rfl, hdo, hw10, hh10, hF10⟩
  have hck3 : chkD 512 [] = 0 := chk_ok (by simp) ⟨by simp, by simp⟩
  rcases hdo with ⟨h1, _⟩ | ⟨_, rfl, hs10, _, _⟩ | ⟨_, _, _, _, _, _, _, h1, _⟩
  · exact absurd hck3 h1
  rotate_left
  · simp at h1
  refine ⟨0, rfl, ?_⟩
  have hF010 : Frm none_ w w10 := trRg hF09 hF10 (Nat.le_refl _)
  refine (hs10.cut 0 (by decide) (by decide)).mono ?_
  rintro _ w11 ⟨rfl, hs11, hF11⟩
  refine ⟨0, rfl, ?_⟩
  have hF011 : Frm none_ w w11 := trRg hF010 hF11 (Nat.le_refl _)
  refine (full_i w11 9 (by decide) (by decide)).mono ?_
  rintro _ w12 ⟨s12, rfl, hr12, hl12, hb12, hF12⟩
  refine ⟨s12, rfl, ?_⟩
  have hs12 := hs11.modN hF12
  have hz11 := hs11.hi
  simp only [List.length_nil] at hw10
  refine (hs12.raw (i := 122) (by decide) hr12.has (fun k hk hr => by have := hb12 k hk; have := hr.2; omega) (by simp only; omega)).mono ?_
  rintro _ w13 ⟨d13, r, rfl, hra, hw13, hh13, hF13⟩
  have hck4 : chkD 512 [(122, rep 9)] = 0 := by
    rw [chk_one, if_pos ⟨.inr (by omega), rep_len _⟩]
  rcases hra with ⟨h1, _⟩ | ⟨_, _, _, h1⟩ | ⟨_, rfl, hj13, hd13, _⟩
  · exact absurd hck4 h1
  · exact absurd rfl h1
  refine ⟨20, rfl, ?_⟩
  have hF013 : Frm none_ w w13 := trRg (trN hF011 hF12) hF13 (Nat.le_refl _)
  refine (openDead_calls _ w13 x d13 hj13.dk hd13 (rg_lt hh13)).mono ?_
  rintro _ w14 ⟨rfl, hF14⟩
  refine ⟨none, 20, rfl, IfB.t rfl (IfB.t rfl ?_)⟩
  refine (rawNil_calls w14 0 ⟨none, 0, 0⟩).mono ?_
  rintro _ _ ⟨rfl, rfl⟩
  refine ⟨2, rfl, IfB.t rfl ?_⟩
  refine (doNil_calls w14 t).mono ?_
  rintro _ _ ⟨rfl, rfl⟩
  refine ⟨2, rfl, IfB.t rfl (IfB.t rfl (IfB.t rfl (IfB.t rfl (IfB.t rfl (IfB.t rfl (IfB.t rfl (IfB.t rfl (IfB.t rfl (IfB.t rfl ?_)))))))))⟩
  refine (awake_calls w14).mono ?_
  rintro _ w15 ⟨rfl, hF15⟩
  exact ⟨_, rfl, rfl, trN (trN hF013 hF14) hF15⟩
end Go.Proofs.Ytlbipbepeeopaaa

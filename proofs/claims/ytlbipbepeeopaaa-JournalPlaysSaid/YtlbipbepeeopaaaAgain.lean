/- JournalAgain: to open twice is to open once. -/
import Derived.Test.YtlbipbepeeopaaaAw
set_option linter.unusedVariables false
set_option linter.unusedSimpArgs false
set_option maxRecDepth 20000
namespace Go.Proofs.Ytlbipbepeeopaaa
open Go Go.Proofs.YtlbipbepeeopaaaV
theorem op3 (w : World) : Opens prog w 3 (fun n : Int => [.int .i64 n]) (fun n => -9223372036854775808 ≤ n ∧ n ≤ 9223372036854775807) :=
  (opens_int (by kernel_rfl)).map (fun n => n) fun n h => by
    have e1 : IntKind.min .i64 = -9223372036854775808 := by decide
    have e2 : IntKind.max .i64 = 9223372036854775807 := by decide
    rw [e1, e2] at h
    exact ⟨rfl, h⟩
theorem op22 (w : World) : Opens prog w 22 (fun p : Sl × List Int => [.slice p.1.a p.1.l p.1.c]) (fun p => HasL w p.1 1 (fun n : Int => [Value.int .i64 n]) p.2 ∧ (∀ a ∈ p.2, -9223372036854775808 ≤ a ∧ a ≤ 9223372036854775807) ∧ p.1.l ≤ p.1.c ∧ p.1.c ≤ maxLen ∧ p.1.c * 8 ≤ 140737488351232) :=
  opens_slice (by kernel_rfl) (by kernel_rfl) (by kernel_rfl) (op3 w)
def iv (l : List Int) : List Value := l.map fun n => .int .i64 n
theorem iv_length (l : List Int) : (iv l).length = l.length := by simp [iv]
theorem wrapU (a : Int) : 0 ≤ IntKind.wrap .u64 a := by
  have : IntKind.wrap .u64 a = a % 18446744073709551616 := by simp [IntKind.wrap, IntKind.signed, IntKind.bits]
  omega
theorem wrap8 (a : Int) : 0 ≤ IntKind.wrap .u8 a ∧ IntKind.wrap .u8 a < 256 := by
  have : IntKind.wrap .u8 a = a % 256 := by simp [IntKind.wrap, IntKind.signed, IntKind.bits]
  omega
/-- A number brought below a bound. -/
theorem tmodU (a m : Int) (hm : 0 < m) (hm' : m ≤ 1000000) : 0 ≤ IntKind.wrap .i64 (Int.tmod (IntKind.wrap .u64 a) m) ∧ IntKind.wrap .i64 (Int.tmod (IntKind.wrap .u64 a) m) < m := by
  have h0 := wrapU a
  have h1 : Int.tmod (IntKind.wrap .u64 a) m = (IntKind.wrap .u64 a) % m := Int.tmod_eq_emod_of_nonneg h0
  have h2 := Int.emod_nonneg (IntKind.wrap .u64 a) (by omega : m ≠ 0)
  have h3 := Int.emod_lt_of_pos (IntKind.wrap .u64 a) hm
  rw [h1, wi _ (by omega)]
  exact ⟨h2, h3⟩
theorem chk_vals (n : Nat) (l : List Wt) : chkD n l = 0 ∨ chkD n l = 1 ∨ chkD n l = 3 := by
  unfold chkD
  split
  · exact .inr (.inr rfl)
  · split
    · exact .inl rfl
    · exact .inr (.inl rfl)
theorem Ses.stand {n lo hi : Nat} {w : World} {y x : Option Addr} {d : Dk} {f : Int → List UInt8} (h : Ses n lo hi w y x d f) : Stand d f := .inl ⟨h.zero, by rw [h.len]; exact h.is⟩
theorem copyR_calls (G : Nat → Prop) (w : World) (x : Option Addr) (d : Dk) (h : DkQ G w x d) : Calls prog 16 #[.pointer x] w fun e w' => ∃ x', e = .returned (.pointer x') ∧ DkQ (Rg w.heap.size w'.heap.size) w' x' d ∧ Frm none_ w w' := by
  refine (copy_calls G w x d h).mono ?_
  rintro _ w' ⟨b, G', rfl, hd, hG, hf⟩
  exact ⟨_, rfl, hd.wide hG, hf⟩
/-- A group of blocks with a plain number each. -/
theorem grp_rng {es : List (Wt × Sl)} (h : ∀ q ∈ es, 122 ≤ q.1.1 ∧ q.1.1 < 512) : ∀ p ∈ es.map (·.1), -9223372036854775808 ≤ p.1 ∧ p.1 ≤ 9223372036854775807 := by
  intro p hp
  obtain ⟨q, hq, rfl⟩ := List.mem_map.1 hp
  have := h q hq
  omega
set_option maxHeartbeats 2000000 in
theorem again_calls (w : World) (s : Sl) (l : List Int) (x1 : Int) (hs0 : Has w s 1 (iv l)) : Calls prog 4 #[.slice s.a s.l s.c, .int .i64 x1] w fun e w' => e = .returned (.bool true) ∧ Frm none_ w w' := by
  refine calls_ret (W4 (Q := fun v w' => v = .bool true ∧ Frm none_ w w') ?_) (fun v w' ⟨h, h'⟩ => ⟨by rw [h], h'⟩)
  unfold F4
  have hll : l.length = s.l := by have := hs0.len; rw [iv_length] at this; omega
  refine ⟨fun v w' => Frm none_ w w' ∧ (v = false → s.l ≤ 100), ?_, ?_⟩
  · refine IfB.intro (fun h => ?_) (fun h => ?_)
    · exact ⟨Frm.refl _ _, fun h => by cases h⟩
    · have h := of_decide_eq_false h
      refine (awake_calls w).mono ?_
      rintro _ w1 ⟨rfl, hm⟩
      exact ⟨true, rfl, hm, fun _ => by omega⟩
  rintro u v w0 ⟨hF0, hv⟩
  refine IfB.intro (fun h => ?_) (fun h => ?_)
  · refine (awake_calls w0).mono ?_
    rintro _ w1 ⟨rfl, hm⟩
    exact ⟨true, rfl, rfl, trN hF0 hm⟩
  have hlen : s.l ≤ 100 := hv h
  clear hv h
  refine (fresh_calls w0).mono ?_
  rintro _ w1 ⟨x, y, d, hi, rfl, hs, hcut, hwr, hF1⟩
  obtain ⟨b, hy⟩ := hs.y
  subst hy
  refine ⟨x, _, rfl, _, some_eql32 _ b, IfB.f rfl ?_⟩
  have hF01 := trN hF0 hF1
  refine ⟨fun n t i w2 => ∃ (j : Nat) (es : List (Wt × Sl)), i = (j : Int) ∧ j ≤ l.length ∧ n = l.length - j ∧ es.length = j ∧ (∀ q ∈ es, 122 ≤ q.1.1 ∧ q.1.1 < 512) ∧ GrpR 30 w1.heap.size w2 t es ∧ Frm none_ w1 w2, l.length, ⟨0, [], rfl, by omega, by omega, rfl, by simp, GrpR.nil _ _ _, Frm.refl _ _⟩, ?_⟩
  rintro n u t i w2 ⟨j, es, rfl, hj, rfl, hesl, hesr, hGr, hF2⟩
  have hz2 := hF2.size
  refine IfB.intro (fun hc => ?_) (fun hc => ?_)
  · have hc := of_decide_eq_true hc
    have hj' : j < l.length := by omega
    obtain ⟨p, hp, hld⟩ := hs0.ex (j := j) (by rw [iv_length]; exact hj')
    have ev : (iv l)[j]'(by rw [iv_length]; exact hj') = .int .i64 (l[j]'hj') := by simp [iv]
    refine ⟨fun w' => Frm none_ w w', (trN hF01 hF2).drew, p, hp, by omega, by omega, l[j]'hj', ?_, by decide, ?_⟩
    · intro w' hw'
      rw [Int.toNat_natCast, Nat.mul_one, ← ev]
      obtain ⟨p', hp', hld'⟩ := (hs0.mod hw' (fun _ _ h => h)).ex (j := j) (by rw [iv_length]; exact hj')
      rw [hp] at hp'; cases hp'
      exact hld'
    have h8 := wrap8 (j : Int)
    refine (full_i w2.drew _ h8.1 h8.2).mono ?_
    rintro _ w3 ⟨r, rfl, hr3, hl3, hb3, hF3⟩
    have hF23 : Frm none_ w2 w3 := hF3.ofDrew
    have hz3 := hF23.size
    have hb3' : ∀ k, r.blk = some k → w2.heap.size ≤ k ∧ k < w3.heap.size := hb3
    have htm := tmodU (l[j]'hj') 390 (by decide) (by decide)
    rw [wi (122 + _) (by omega)]
    refine ⟨r, rfl, trN (trN hF01 hF2) hF23, _, b30s _ r, ?_⟩
    refine GrpR.push (p := (122 + IntKind.wrap .i64 (Int.tmod (IntKind.wrap .u64 (l[j]'hj')) 390), rep (IntKind.wrap .u8 (j : Int)))) st25 (hGr.mod hF23 (fun _ _ _ h => h)) hr3.has (fun k hk => ⟨by have := hb3' k hk; omega, (hb3' k hk).2, fun hkt => by have := hb3' k hk; have := hGr.row.lt k hkt; omega⟩) (by omega) (by omega) ?_
    intro t' w4 hGr4 hF4 _
    refine ⟨l.length - (j + 1), by omega, j + 1, _, by rw [wi _ (by omega)]; omega, by omega, rfl, by simp [hesl], ?_, hGr4, (trN hF2 hF23).trans hF4 (fun _ _ h => h) (fun k hk he => by have := hGr.lo k he; omega)⟩
    intro q hq
    rcases List.mem_append.1 hq with hq | hq
    · exact hesr q hq
    · rw [List.mem_singleton] at hq
      subst hq
      simp only
      omega
  have hc := of_decide_eq_false hc
  have hj' : j = l.length := by omega
  subst hj'
  have hgrp := hGr.grp
  have hs2 := hs.modN hF2
  have hcm := tmodU x1 300 (by decide) (by decide)
  refine ⟨by decide, (hs2.cut _ hcm.1 (by omega)).mono ?_⟩
  rintro _ w3 ⟨rfl, hs3, hF3⟩
  refine ⟨0, rfl, ?_⟩
  have hlo : w.heap.size ≤ w0.heap.size := hF0.size
  have hF03 : Frm none_ w w3 := Frm.rg (trN hF01 hF2) hF3 hlo
  have hz3 := hF3.size
  have hdis : ∀ k, (w1.heap.size ≤ k ∧ k < w2.heap.size) → ¬ Rg w0.heap.size hi k := fun k hk hr => by have := hs.hi; have := hr.2; omega
  refine ⟨fun x5 w' => ∃ lo' hi' d' f', DkQ (Rg lo' hi') w' x5 d' ∧ hi' ≤ w'.heap.size ∧ d'.dead = false ∧ d'.bl.length = 512 ∧ Stand d' f' ∧ d'.wr < 1000 ∧ w.heap.size ≤ lo' ∧ (d'.cut < 0 ∨ Zero d') ∧ Frm none_ w w', ?_, ?_⟩
  · refine (hs3.do (hgrp.mod hF3 hdis) hdis (fun k hk => by omega) (grp_rng hesr) (by simp only; omega)).mono ?_
    rintro _ w4 ⟨d4, r, rfl, hdo, hw4, hh4, hF4⟩
    have hF04 : Frm none_ w w4 := Frm.rg hF03 hF4 hlo
    simp only [List.length_map] at hw4
    refine ⟨r, rfl, ?_⟩
    have alive : ∀ (d4 : Dk) f4, d4.wr < 1000 → Ses 512 w0.heap.size hi w4 (some ⟨b, 0, none⟩) x d4 f4 → Calls prog 11 #[.pointer x, .int .i64 10000] w4 fun en w1_5 => ∃ t75 : Int, en = .returned (.int .i64 t75) ∧ (∃ lo' hi' d' f', DkQ (Rg lo' hi') w1_5 x d' ∧ hi' ≤ w1_5.heap.size ∧ d'.dead = false ∧ d'.bl.length = 512 ∧ Stand d' f' ∧ d'.wr < 1000 ∧ w.heap.size ≤ lo' ∧ (d'.cut < 0 ∨ Zero d') ∧ Frm none_ w w1_5) := by
      intro d4 f4 hwr4 hs4
      refine (hs4.cut 10000 (by decide) (by decide)).mono ?_
      rintro _ w5 ⟨rfl, hs5, hF5⟩
      exact ⟨0, rfl, _, _, _, f4, hs5.jr.dk, hs5.hi, hs5.live, hs5.len, hs5.stand, hwr4, hlo, .inr hs5.zero, Frm.rg hF04 hF5 hlo⟩
    rcases hdo with ⟨h1, rfl, rfl, hs4⟩ | ⟨_, rfl, hs4, _, _⟩ | ⟨_, rfl, hj4, hd4, hl4, _, _, _, h1⟩
    · refine IfB.f ?_ (alive _ _ (by simp only; omega) hs4)
      have := chk_vals 512 (es.map (·.1))
      rw [beq_eq_false_iff_ne]
      omega
    · exact IfB.f rfl (alive _ _ (by omega) hs4)
    · refine IfB.t rfl ?_
      refine (reopenR_calls _ w4 x d4 hj4.dk hd4).mono ?_
      rintro _ w5 ⟨x5, rfl, hd5, hF5⟩
      obtain ⟨f5, hS5⟩ : ∃ f5, Stand d4 f5 := by
        rcases h1 with ⟨_, h1⟩ | ⟨_, h1⟩
        · exact ⟨_, h1⟩
        · exact ⟨_, h1⟩
      exact ⟨x5, 0, rfl, IfB.f rfl ⟨_, _, _, f5, hd5, Nat.le_refl _, rfl, hl4, hS5.bl rfl, by simp only; omega, by have := hF04.size; omega, .inl (show (-1 : Int) < 0 by decide), trN hF04 hF5⟩⟩
  clear hs hs2 hs3 hgrp hGr hF1 hF2 hF3 hF03 hdis hz2 hz3 hF01 hlo hc hesr hwr hcut
  rintro u x5 w1 ⟨lo', hi', d5, f5, hd5, hh5, hl5, hn5, hS5, hw5, hlo5, hc5, hF5⟩
  refine (openR_calls hd5 hh5 hl5 hn5 hS5 (by omega)).mono ?_
  rintro _ w6 ⟨d6, hF6, hh6, hw6, ho⟩
  rcases ho with ⟨y6, rfl, hs6, _⟩ | ⟨_, _, _, _, _, h1, h2⟩
  rotate_left
  · rcases hc5 with h | h
    · omega
    · exact absurd h h2
  have hF06 : Frm none_ w w6 := Frm.rg hF5 hF6 hlo5
  refine ⟨y6, 0, rfl, ?_⟩
  refine (copyR_calls _ w6 x5 d6 hs6.jr.dk).mono ?_
  rintro _ w7 ⟨x7, rfl, hd7, hF7⟩
  refine ⟨x7, rfl, ?_⟩
  refine (Ses.open0 hd7 (Nat.le_refl _) hs6.live hs6.zero hs6.len hs6.is).mono ?_
  rintro _ w8 ⟨y8, rfl, hs8, hF8⟩
  refine ⟨y8, 0, rfl, fun v w' => v = false ∧ w8 = w', IfB.f rfl ⟨rfl, rfl⟩, ?_⟩
  rintro u v _ ⟨rfl, rfl⟩
  refine IfB.f rfl ?_
  have hs68 := hs6.modN (trN hF7 hF8)
  have hF08 := trN hF06 (trN hF7 hF8)
  refine ⟨fun n i w9 => ∃ j : Nat, i = (122 + j : Int) ∧ j ≤ 390 ∧ n = 390 - j ∧ Frm none_ w8 w9, 390, ⟨0, rfl, by omega, by omega, Frm.refl _ _⟩, ?_⟩
  rintro n u i w9 ⟨j, rfl, hj, rfl, hF9⟩
  refine IfB.intro (fun hc => ?_) (fun hc => ?_)
  · have hc := of_decide_eq_true hc
    have hpl : PlN 512 (122 + (j : Int)) := .inr (by omega)
    refine ((hs68.modN hF9).read hpl).mono ?_
    rintro _ w10 ⟨b10, rfl, hB10, hl10, _, hF10⟩
    refine ⟨⟨some ⟨b10, 0, none⟩, 256, 256⟩, 0, rfl, ?_⟩
    refine ((hs8.modN (trN hF9 hF10)).read hpl).mono ?_
    rintro _ w11 ⟨b11, rfl, hB11, hl11, _, hF11⟩
    refine ⟨⟨some ⟨b11, 0, none⟩, 256, 256⟩, 0, rfl, IfB.f rfl (IfB.f rfl ?_)⟩
    refine runT_str un23 un5 un9 ((Blk.hasB hB10 hl10).mod hF11 (fun _ _ h => h)) (runT_str un23 un5 un9 (Blk.hasB hB11 hl11) ?_)
    rw [str_toList, beq_self_eq_true]
    exact IfB.f rfl ⟨390 - (j + 1), by omega, j + 1, by rw [wi _ (by omega)]; omega, by omega, rfl, trN (trN hF9 hF10) hF11⟩
  · exact ⟨rfl, trN hF08 hF9⟩
theorem again_law (W : World) (s : Sl) (l : List Int) (hl : HasL W s 1 (fun n : Int => [Value.int .i64 n]) l ∧ (∀ a ∈ l, -9223372036854775808 ≤ a ∧ a ≤ 9223372036854775807) ∧ s.l ≤ s.c ∧ s.c ≤ maxLen ∧ s.c * 8 ≤ 140737488351232) (n : Int) (hn : -9223372036854775808 ≤ n ∧ n ≤ 9223372036854775807) :
    Calls prog 4 #[.slice s.a s.l s.c, .int .i64 n] W fun e w' => e = .returned (.bool true) ∧ Frm none_ W w' := again_calls W s l n hl.1.one
end Go.Proofs.Ytlbipbepeeopaaa

/- awake: the examples. -/
import Derived.Test.YtlbipbepeeopaaaSe
set_option linter.unusedVariables false
set_option linter.unusedSimpArgs false
set_option maxRecDepth 20000
namespace Go.Proofs.Ytlbipbepeeopaaa
open Go Go.Proofs.YtlbipbepeeopaaaV
theorem chk_two {n : Nat} {a b c e : Int} (ha : PlN n a) (hb : PlN n b) (hab : a ≠ b) : chkD n [(a, rep c), (b, rep e)] = 0 := by
  refine chk_ok (by simp) ⟨?_, by simpa using hab⟩
  intro p hp
  simp only [List.mem_cons, List.not_mem_nil, or_false] at hp
  rcases hp with rfl | rfl
  · exact ⟨ha, rep_len _⟩
  · exact ⟨hb, rep_len _⟩
theorem in2 {a b : Int} {p q : List UInt8} (ha : 0 ≤ a ∧ a ≤ 1000000) (hb : 0 ≤ b ∧ b ≤ 1000000) : ∀ r ∈ [((a, p) : Wt), (b, q)], -9223372036854775808 ≤ r.1 ∧ r.1 ≤ 9223372036854775807 := by
  intro r hr
  simp only [List.mem_cons, List.not_mem_nil, or_false] at hr
  rcases hr with rfl | rfl <;> simp only <;> omega
theorem over2 (a b : Int) (hab : a ≠ b) (p q : List UInt8) (f : Int → List UInt8) : over [(a, p), (b, q)] f a = p ∧ over [(a, p), (b, q)] f b = q ∧ ∀ i, i ≠ a → i ≠ b → over [(a, p), (b, q)] f i = f i := by
  refine ⟨?_, ?_, fun i h1 h2 => ?_⟩
  · unfold over over over upd; simp [hab]
  · unfold over over over upd; simp
  · unfold over over over upd; simp [h1, h2]
theorem frmTr {lo hi : Nat} {W w w' : World} (h : Frm (Rg lo hi) W w) (k : Frm (Rg lo hi) w w') : Frm (Rg lo hi) W w' := h.trans k (fun _ _ h => h) (fun _ _ h => h)
theorem frmRN {hi : Nat} {W w w' : World} (h : Frm none_ W w) (k : Frm (Rg W.heap.size hi) w w') : Frm none_ W w' := Frm.rg h k (Nat.le_refl _)
set_option maxHeartbeats 2000000 in
theorem awake_calls (w : World) : Calls prog 7 #[] w fun e w' => e = .returned (.bool true) ∧ Frm none_ w w' := by
  refine calls_ret (W7 (Q := fun v w' => v = .bool true ∧ Frm none_ w w') ?_) (fun v w' ⟨h, h'⟩ => ⟨by rw [h], h'⟩)
  unfold F7
  have p200 : PlN 512 200 := .inr (by omega)
  have p300 : PlN 512 300 := .inr (by omega)
  have p122 : PlN 512 122 := .inr (by omega)
  have p0 : PlN 512 0 := .inl rfl
  have hov := over2 200 300 (by decide) (rep 97) (rep 98) (fun _ => rep 0)
  generalize hf1 : over [(200, rep 97), (300, rep 98)] (fun _ => rep 0) = f1 at hov
  refine (fresh_calls w).mono ?_
  rintro _ w1 ⟨x, y, d, hi, rfl, hs, hcut, hwr, hF1⟩
  obtain ⟨b, hy⟩ := hs.y
  subst hy
  refine ⟨x, _, rfl, fun v w' => v = false ∧ ∃ d', Ses 512 w.heap.size hi w' (some ⟨b, 0, none⟩) x d' f1 ∧ d'.wr ≤ 6 ∧ Frm none_ w w', ?_, ?_⟩
  · refine ⟨_, some_eql32 _ b, IfB.f rfl ?_⟩
    refine (full_i w1 97 (by decide) (by decide)).mono ?_
    rintro _ w2 ⟨s, rfl, hr2, hl2, hb2, hF2⟩
    refine ⟨s, rfl, _, b30s 200 s, ?_⟩
    refine (full_i w2 98 (by decide) (by decide)).mono ?_
    rintro _ w3 ⟨t, rfl, hr3, hl3, hb3, hF3⟩
    refine ⟨t, rfl, _, b30s 300 t, ?_⟩
    have hz2 := hF2.size
    have hz3 := hF3.size
    refine lit2_grp (p := (200, rep 97)) (q := (300, rep 98)) (B := w1.heap.size) (hr2.has.mod hF3 (fun _ _ h => h)) hr3.has (fun k hk => by have := hb2 k hk; omega) (fun k hk => by have := hb3 k hk; omega) (by omega) ?_
    intro g w4 hg hF4
    have hs4 := ((hs.modN hF2).modN hF3).modN hF4
    refine (hs4.do hg (fun k hk hr => by have := hs.hi; have := hr.2; omega) (fun k hk => hk.2) (in2 (by decide) (by decide)) (by omega)).mono ?_
    rintro _ w5 ⟨d5, r, rfl, hdo, hw5, hh5, hF5⟩
    have hck := chk_two (c := 97) (e := 98) p200 p300 (by decide)
    rcases hdo with ⟨h1, _⟩ | ⟨_, rfl, hs5, _, _⟩ | ⟨_, _, _, _, _, h1, _⟩
    · exact absurd hck h1
    rotate_left
    · omega
    rw [hf1] at hs5
    simp only [List.length_cons, List.length_nil] at hw5
    refine ⟨0, rfl, IfB.f rfl ?_⟩
    refine (writes_calls _ w5 x d5 hs5.jr.dk).mono ?_
    rintro _ _ ⟨rfl, rfl⟩
    refine ⟨_, rfl, IfB.f (decide_eq_false (by omega)) ?_⟩
    refine (hs5.holds (c := 97) p200 (by decide) (by decide)).mono ?_
    rintro _ w6 ⟨rfl, hF6⟩
    refine ⟨_, rfl, ?_⟩
    rw [decide_eq_true hov.1]
    refine IfB.f rfl ?_
    have hs6 := hs5.modN hF6
    refine (hs6.holds (c := 98) p300 (by decide) (by decide)).mono ?_
    rintro _ w7 ⟨rfl, hF7⟩
    refine ⟨_, rfl, ?_⟩
    rw [decide_eq_true hov.2.1]
    exact ⟨rfl, d5, hs6.modN hF7, by omega, trN (trN (frmRN (trN (trN (trN hF1 hF2) hF3) hF4) hF5) hF6) hF7⟩
  clear hs hF1 hwr hcut
  rintro u v w1 ⟨rfl, d1, hs, hwr, hF1⟩
  refine IfB.f rfl ?_
  refine ⟨fun v w' => v = false ∧ ∃ d', Ses 512 w.heap.size hi w' (some ⟨b, 0, none⟩) x d' f1 ∧ d'.wr ≤ 6 ∧ d'.cut = 1 ∧ Frm none_ w w', ?_, ?_⟩
  · refine (full_i w1 97 (by decide) (by decide)).mono ?_
    rintro _ w2 ⟨s, rfl, hr2, hl2, hb2, hF2⟩
    refine ⟨s, rfl, _, b30s 5 s, ?_⟩
    have hz2 := hF2.size
    refine lit1_grp (p := (5, rep 97)) (B := w1.heap.size) hr2.has (fun k hk => by have := hb2 k hk; omega) (by omega) ?_
    intro g w3 hg hF3
    have hs3 := (hs.modN hF2).modN hF3
    refine (hs3.do hg (fun k hk hr => by have := hs.hi; have := hr.2; omega) (fun k hk => hk.2) (fun r hr => by rw [List.mem_singleton] at hr; subst hr; simp only; omega) (by omega)).mono ?_
    rintro _ w4 ⟨d4, r, rfl, hdo, hw4, hh4, hF4⟩
    have hck : chkD 512 [(5, rep 97)] = 1 := by
      rw [chk_one, if_neg]
      rintro ⟨h | h, _⟩ <;> omega
    rcases hdo with ⟨h1, rfl, rfl, hs4⟩ | ⟨h1, _⟩ | ⟨h1, _⟩
    rotate_left
    · rw [hck] at h1; cases h1
    · rw [hck] at h1; cases h1
    rw [hck]
    refine ⟨1, rfl, IfB.f rfl ?_⟩
    refine (full_i w4 97 (by decide) (by decide)).mono ?_
    rintro _ w5 ⟨s5, rfl, hr5, hl5, hb5, hF5⟩
    refine ⟨s5, rfl, _, b30s 0 s5, ?_⟩
    refine (full_i w5 98 (by decide) (by decide)).mono ?_
    rintro _ w6 ⟨s6, rfl, hr6, hl6, hb6, hF6⟩
    refine ⟨s6, rfl, _, b30s 0 s6, ?_⟩
    have hz5 := hF5.size
    have hz6 := hF6.size
    refine lit2_grp (p := (0, rep 97)) (q := (0, rep 98)) (B := w4.heap.size) (hr5.has.mod hF6 (fun _ _ h => h)) hr6.has (fun k hk => by have := hb5 k hk; omega) (fun k hk => by have := hb6 k hk; omega) (by omega) ?_
    intro g7 w7 hg7 hF7
    have hs7 := ((hs4.modN hF5).modN hF6).modN hF7
    refine (hs7.do hg7 (fun k hk hr => by have := hs4.hi; have := hr.2; omega) (fun k hk => hk.2) (in2 (by decide) (by decide)) (by omega)).mono ?_
    rintro _ w8 ⟨d8, r, rfl, hdo, hw8, hh8, hF8⟩
    have hck8 : chkD 512 [(0, rep 97), (0, rep 98)] = 1 := chk_bad (by simp) (fun h => by have := h.2; simp at this)
    rcases hdo with ⟨h1, rfl, rfl, hs8⟩ | ⟨h1, _⟩ | ⟨h1, _⟩
    rotate_left
    · rw [hck8] at h1; cases h1
    · rw [hck8] at h1; cases h1
    rw [hck8]
    refine ⟨1, rfl, IfB.f rfl ?_⟩
    have hF08 : Frm none_ w w8 := frmRN (trN (trN (trN (frmRN (trN (trN hF1 hF2) hF3) hF4) hF5) hF6) hF7) hF8
    have h122 : f1 122 = rep 0 := hov.2.2 122 (by decide) (by decide)
    have h00 : f1 0 = rep 0 := hov.2.2 0 (by decide) (by decide)
    refine (hs8.holds (c := 0) p122 (by decide) (by decide)).mono ?_
    rintro _ w9 ⟨rfl, hF9⟩
    refine ⟨_, rfl, ?_⟩
    rw [decide_eq_true h122]
    refine IfB.f rfl ?_
    have hs9 := hs8.modN hF9
    refine (hs9.holds (c := 0) p0 (by decide) (by decide)).mono ?_
    rintro _ w10 ⟨rfl, hF10⟩
    refine ⟨_, rfl, ?_⟩
    rw [decide_eq_true h00]
    refine IfB.f rfl ?_
    have hs10 := hs9.modN hF10
    refine (hs10.cut 1 (by decide) (by decide)).mono ?_
    rintro _ w11 ⟨rfl, hs11, hF11⟩
    exact ⟨0, rfl, rfl, _, hs11, by simp only; omega, rfl, frmRN (trN (trN hF08 hF9) hF10) hF11⟩
  clear hs hwr hF1
  rintro u v w1 ⟨rfl, d1, hs, hwr, hcut, hF1⟩
  refine IfB.f rfl ?_
  refine (full_i w1 98 (by decide) (by decide)).mono ?_
  rintro _ w2 ⟨s, rfl, hr2, hl2, hb2, hF2⟩
  refine ⟨s, rfl, _, b30s 200 s, ?_⟩
  refine (full_i w2 97 (by decide) (by decide)).mono ?_
  rintro _ w3 ⟨t, rfl, hr3, hl3, hb3, hF3⟩
  refine ⟨t, rfl, _, b30s 300 t, ?_⟩
  have hz2 := hF2.size
  have hz3 := hF3.size
  refine lit2_grp (p := (200, rep 98)) (q := (300, rep 97)) (B := w1.heap.size) (hr2.has.mod hF3 (fun _ _ h => h)) hr3.has (fun k hk => by have := hb2 k hk; omega) (fun k hk => by have := hb3 k hk; omega) (by omega) ?_
  intro g w4 hg hF4
  have hs4 := ((hs.modN hF2).modN hF3).modN hF4
  refine (hs4.do hg (fun k hk hr => by have := hs.hi; have := hr.2; omega) (fun k hk => hk.2) (in2 (by decide) (by decide)) (by omega)).mono ?_
  rintro _ w5 ⟨d5, r, rfl, hdo, hw5, hh5, hF5⟩
  have hck := chk_two (c := 98) (e := 97) p200 p300 (by decide)
  rcases hdo with ⟨h1, _⟩ | ⟨_, _, _, _, h1⟩ | ⟨_, rfl, hj5, hd5, hl5, _, _, _, h1⟩
  · exact absurd hck h1
  · simp only [List.length_cons, List.length_nil] at h1; omega
  simp only [List.length_cons, List.length_nil] at h1
  have hS5 : Stand d5 f1 := by
    rcases h1 with ⟨_, h1⟩ | ⟨h1, _⟩
    · exact h1
    · omega
  refine ⟨20, rfl, IfB.f rfl ?_⟩
  refine (reopenR_calls _ w5 x d5 hj5.dk hd5).mono ?_
  rintro _ w6 ⟨x6, rfl, hd6, hF6⟩
  refine ⟨x6, 0, rfl, IfB.f rfl ?_⟩
  refine (openR_calls (d := ⟨d5.bl, 0, -1, false⟩) (f := f1) hd6 (Nat.le_refl _) rfl hl5 (hS5.bl rfl) (show (0 : Nat) < 900000 by decide)).mono ?_
  rintro _ w7 ⟨d7, hF7, hh7, hw7, ho⟩
  rcases ho with ⟨y7, rfl, hs7, _⟩ | ⟨_, _, _, _, _, h1, _⟩
  rotate_left
  · simp at h1
  have hF07 : Frm none_ w w7 := Frm.rg (trN (frmRN (trN (trN (trN hF1 hF2) hF3) hF4) hF5) hF6) hF7 (by
    have := hF1.size
    have := hF4.size
    have := hF5.size
    omega)
  refine ⟨y7, 0, rfl, IfB.t rfl ?_⟩
  refine (hs7.holds (c := 97) p200 (by decide) (by decide)).mono ?_
  rintro _ w8 ⟨rfl, hF8⟩
  refine ⟨_, rfl, ?_⟩
  rw [decide_eq_true hov.1]
  refine IfB.t rfl ?_
  have hs8 := hs7.modN hF8
  refine (hs8.holds (c := 98) p300 (by decide) (by decide)).mono ?_
  rintro _ w9 ⟨rfl, hF9⟩
  refine ⟨_, rfl, ?_⟩
  rw [decide_eq_true hov.2.1]
  exact ⟨rfl, trN (trN hF07 hF8) hF9⟩
end Go.Proofs.Ytlbipbepeeopaaa

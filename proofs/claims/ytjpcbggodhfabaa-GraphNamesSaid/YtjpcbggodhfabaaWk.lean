/- What each law of the graph asks first; the law GraphCycles. -/
import Derived.Test.YtjpcbggodhfabaaCy
set_option linter.unusedVariables false
set_option linter.unusedSimpArgs false
namespace Go.Proofs.Ytjpcbggodhfabaa
open Go Go.Proofs.YtjpcbggodhfabaaV
theorem lit_iv {l : List Int} {n : Nat} {parts : Array (Nat × Value)} (h0 : 0 < n) (hn : n ≤ 1000)
    (hf : Instr.fill (fun i => some (i * 1, 1)) ((Array.range (n * 1)).map fun j => (Value.int .i64 0).cells[j % (Value.int .i64 0).cells.size]!) parts.toList = some (iv l).toArray) (hl : l.length = n) {w : World} {K : Sl → World → Prop}
    (hk : ∀ t w', Has w' t 1 (iv l) → Frm none_ w w' → K t w') : RunT prog .slice (Instr.buildSlice 25 n parts) w K :=
  runT_lit st25 h0 (by omega) hf (by simp [iv, hl]) fun w' hr f z => hk _ _ hr.has f
theorem lit0_iv {w : World} {K : Sl → World → Prop} (hk : ∀ t w', Has w' t 1 (iv []) → Frm none_ w w' → K t w') : RunT prog .slice (Instr.buildSlice 25 0 #[]) w K :=
  runT_lit0 st25 fun w' hr f z => hk _ _ hr.has f
theorem lit_gv {ps : List (Sl × List Int)} {n : Nat} {parts : Array (Nat × Value)} (h0 : 0 < n) (hn : n ≤ 1000)
    (hf : Instr.fill (fun i => some (i * 1, 1)) ((Array.range (n * 1)).map fun j => (Value.slice none 0 0).cells[j % (Value.slice none 0 0).cells.size]!) parts.toList = some (gv ps).toArray) (hl : ps.length = n) {w : World} (he : ∀ p ∈ ps, Has w p.1 1 (iv p.2)) {K : Sl → World → Prop}
    (hk : ∀ t w', Gw w' t ps → Frm none_ w w' → K t w') : RunT prog .slice (Instr.buildSlice 22 n parts) w K :=
  runT_lit st22 h0 (by omega) hf (by simp [gv, hl]) fun w' hr f z => hk _ _ ⟨hr.has, fun p hp => (he p hp).mod f (fun _ _ h => h)⟩ f
theorem below_eq {g : List (List Int)} {i : Nat} (S : Nat → Bool) (h : ∀ k, k < g.length → (TC g i k ↔ S k = true)) : below g i = outF S g.length := by
  unfold below
  refine outF_congr fun k hk => ?_
  rw [Bool.eq_iff_iff, ← h k hk]; simp
theorem above_eq {g : List (List Int)} {i : Nat} (S : Nat → Bool) (h : ∀ k, k < g.length → (TC g k i ↔ S k = true)) : above g i = outF S g.length := by
  unfold above
  refine outF_congr fun k hk => ?_
  rw [Bool.eq_iff_iff, ← h k hk]; simp
theorem sort_ok {g : List (List Int)} (hm : May g) (hl : (srow g).length = g.length) : sortC g = 0 ∧ sortL g = srow g ∧ levL g = lvF g (srow g) := by
  have hs : scode g = 0 := by rw [scode, if_neg (by omega)]
  exact ⟨by rw [sortC, if_pos hm, hs], by rw [sortL, if_pos ⟨hm, hs⟩], by rw [levL, if_pos ⟨hm, hs⟩]⟩
theorem sort_cyc {g : List (List Int)} (hm : May g) (hl : (srow g).length < g.length) : sortC g = 64 := by
  rw [sortC, if_pos hm, scode, if_pos hl]
theorem sort_bad {g : List (List Int)} (hm : ¬ May g) : sortC g = 1 := by rw [sortC, if_neg hm]
instance (g : List (List Int)) : Decidable (May g) := by unfold May; infer_instance
def gw : List (List Int) := [[2], [], [1], [0, 2]]
theorem gwE {a b : Nat} : E gw a b ↔ (a = 0 ∧ b = 2) ∨ (a = 2 ∧ b = 1) ∨ (a = 3 ∧ b = 0) ∨ (a = 3 ∧ b = 2) := by
  unfold E gw
  match a with
  | 0 => simp; omega
  | 1 => simp
  | 2 => simp; omega
  | 3 => simp; omega
  | a + 4 => simp
theorem gw_may : May gw := by decide +kernel
theorem gw_row : srow gw = [1, 2, 0, 3] := by decide +kernel
theorem gw_sort : sortC gw = 0 ∧ sortL gw = [1, 2, 0, 3] ∧ levL gw = [2, 0, 1, 3] := by
  obtain ⟨h1, h2, h3⟩ := sort_ok gw_may (by rw [gw_row]; rfl)
  rw [gw_row] at h2 h3
  exact ⟨h1, h2, by rw [h3]; decide +kernel⟩
theorem gw_below : below gw 3 = [0, 1, 2] := by
  rw [below_eq (fun k => k != 3) ?_]
  · rfl
  intro k hk
  have hk : k < 4 := hk
  have h0 : TC gw 3 0 := TC.one (gwE.2 (by omega))
  have h2 : TC gw 3 2 := TC.one (gwE.2 (by omega))
  have h1 : TC gw 3 1 := h2.more (gwE.2 (by omega))
  have h3 : ¬ TC gw 3 3 := fun h => by
    have := TC.all (M := fun k => k ≠ 3) (fun y hy => by have := gwE.1 hy; omega) (fun x hx y hy => by have := gwE.1 hy; omega) h
    exact this rfl
  match k with
  | 0 => simp [h0]
  | 1 => simp [h1]
  | 2 => simp [h2]
  | 3 => simp [h3]
  | k + 4 => omega
theorem gw_above : above gw 1 = [0, 2, 3] := by
  rw [above_eq (fun k => k != 1) ?_]
  · rfl
  intro k hk
  have hk : k < 4 := hk
  have h2 : TC gw 2 1 := TC.one (gwE.2 (by omega))
  have h0 : TC gw 0 1 := (TC.one (gwE.2 (by omega)) : TC gw 0 2).more (gwE.2 (by omega))
  have h3 : TC gw 3 1 := (TC.one (gwE.2 (by omega)) : TC gw 3 2).more (gwE.2 (by omega))
  have h1 : ¬ TC gw 1 1 := fun h => TC.all (M := fun k => False) (fun y hy => by have := gwE.1 hy; omega) (fun x hx => hx.elim) h
  match k with
  | 0 => simp [h0]
  | 1 => simp [h1]
  | 2 => simp [h2]
  | 3 => simp [h3]
  | k + 4 => omega
theorem small4 {ps : List (Sl × List Int)} {g : List (List Int)} (h : gOf ps = g) (h1 : g.length ≤ 100000) (h2 : ∀ l ∈ g, l.length ≤ 1000000) : Small ps := by
  subst h
  exact ⟨by rw [← gOf_len]; exact h1, fun p hp => h2 p.2 (by simp only [gOf, List.mem_map]; exact ⟨p, hp, rfl⟩)⟩
set_option maxRecDepth 20000 in
theorem works_calls (w : World) : Calls prog 22 #[] w fun e w' => e = .returned (.bool true) ∧ Frm none_ w w' := by
  refine callsRet (W22 (Q := fun v w' => v = .bool true ∧ Frm none_ w w') ?_) (fun v w' ⟨h, h'⟩ => ⟨by rw [h], h'⟩)
  unfold F22
  refine lit_iv (l := [2]) (by decide) (by decide) (by kernel_rfl) rfl ?_
  intro t1 w1 h1 f1
  refine lit0_iv ?_
  intro t2 w2 h2 f2
  refine lit_iv (l := [1]) (by decide) (by decide) (by kernel_rfl) rfl ?_
  intro t3 w3 h3 f3
  refine lit_iv (l := [0, 2]) (by decide) (by decide) (by kernel_rfl) rfl ?_
  intro t4 w4 h4 f4
  have h1 := h1.mod (f2.n (f3.n f4)) (fun _ _ h => h)
  have h2 := h2.mod (f3.n f4) (fun _ _ h => h)
  have h3 := h3.mod f4 (fun _ _ h => h)
  refine lit_gv (n := 4) (ps := [(t1, [2]), (t2, []), (t3, [1]), (t4, [0, 2])]) (by decide) (by decide) (by kernel_rfl) rfl (by
    intro p hp
    simp only [List.mem_cons, List.not_mem_nil, or_false] at hp
    rcases hp with rfl | rfl | rfl | rfl <;> assumption) ?_
  intro t w5 hG f5
  generalize hps : [(t1, [(2 : Int)]), (t2, []), (t3, [1]), (t4, [0, 2])] = ps at hG
  have hg : gOf ps = gw := by rw [← hps]; rfl
  have hpl : ps.length = 4 := by rw [← hps]; rfl
  have hsm : Small ps := small4 hg (by decide) (by decide)
  have htt : tot (gOf ps) ≤ 1000000000 := by rw [hg]; decide
  obtain ⟨e1, e2, e3⟩ := gw_sort
  have f05 := f1.n (f2.n (f3.n (f4.n f5)))
  refine (sort_calls w5 t ps hG hsm htt).mono ?_
  rintro _ w6 ⟨ta, rfl, hta, f6⟩
  rw [hg, e2] at hta
  refine ⟨ta, _, rfl, (levels_calls w6 t ps (hG.mod f6) hsm htt).mono ?_⟩
  rintro _ w7 ⟨tb, rfl, htb, f7⟩
  rw [hg, e3] at htb
  refine ⟨tb, _, rfl, (below_calls w7 t ps (hG.mod (f6.n f7)) hsm htt 3).mono ?_⟩
  rintro _ w8 ⟨tc, cc, rfl, hc1, _, f8⟩
  obtain ⟨rfl, htc⟩ := hc1 ⟨by rw [hg]; exact gw_may, by decide, by rw [hpl]; decide⟩
  rw [hg, show (3 : Int).toNat = 3 from rfl, gw_below] at htc
  refine ⟨tc, _, rfl, (above_calls w8 t ps (hG.mod (f6.n (f7.n f8))) hsm htt 1).mono ?_⟩
  rintro _ w9 ⟨td, cd, rfl, hd1, _, f9⟩
  obtain ⟨rfl, htd⟩ := hd1 ⟨by rw [hg]; exact gw_may, by decide, by rw [hpl]; decide⟩
  rw [hg, show (1 : Int).toNat = 1 from rfl, gw_above] at htd
  rw [hg, e1]
  refine ⟨td, _, rfl, IfB.t rfl (IfB.t rfl (IfB.t rfl (IfB.t rfl ?_)))⟩
  refine lit_iv (l := [1, 2, 0, 3]) (by decide) (by decide) (by kernel_rfl) rfl ?_
  intro u1 w10 k1 f10
  refine (ints_calls w10 ta u1 _ _ (hta.mod (f7.n (f8.n (f9.n f10))) (fun _ _ h => h)) k1 (by rw [has_iv hta]; decide)).mono ?_
  rintro _ w11 ⟨b1, rfl, hb1, f11⟩
  obtain rfl : b1 = true := hb1.2 rfl
  refine ⟨_, rfl, IfB.t rfl ?_⟩
  refine lit_iv (l := [2, 0, 1, 3]) (by decide) (by decide) (by kernel_rfl) rfl ?_
  intro u2 w12 k2 f12
  have f912 := f9.n (f10.n (f11.n f12))
  refine (ints_calls w12 tb u2 _ _ (htb.mod (f8.n f912) (fun _ _ h => h)) k2 (by rw [has_iv htb]; decide)).mono ?_
  rintro _ w13 ⟨b2, rfl, hb2, f13⟩
  obtain rfl : b2 = true := hb2.2 rfl
  refine ⟨_, rfl, IfB.t rfl ?_⟩
  refine lit_iv (l := [0, 1, 2]) (by decide) (by decide) (by kernel_rfl) rfl ?_
  intro u3 w14 k3 f14
  refine (ints_calls w14 tc u3 _ _ (htc.mod (f912.n (f13.n f14)) (fun _ _ h => h)) k3 (by rw [has_iv htc]; decide)).mono ?_
  rintro _ w15 ⟨b3, rfl, hb3, f15⟩
  obtain rfl : b3 = true := hb3.2 rfl
  refine ⟨_, rfl, IfB.t rfl ?_⟩
  refine lit_iv (l := [0, 2, 3]) (by decide) (by decide) (by kernel_rfl) rfl ?_
  intro u4 w16 k4 f16
  have f1016 := f10.n (f11.n (f12.n (f13.n (f14.n (f15.n f16)))))
  refine (ints_calls w16 td u4 _ _ (htd.mod f1016 (fun _ _ h => h)) k4 (by rw [has_iv htd]; decide)).mono ?_
  rintro _ w17 ⟨b4, rfl, hb4, f17⟩
  obtain rfl : b4 = true := hb4.2 rfl
  exact ⟨_, rfl, rfl, f05.n (f6.n (f7.n (f8.n (f9.n (f1016.n f17)))))⟩
theorem bool_eql (i j : Nat) (a b : Bool) : BinIs prog .eql 4 (.tmp i) (.tmp j) (.bool a) (.bool b) (a == b) := fun w => by
  cases a <;> cases b <;> kernel_rfl
theorem sortC_may {g : List (List Int)} (h : sortC g ≠ 1) : May g := by
  refine Classical.byContradiction fun hn => h (sort_bad hn)
theorem sortC_cases {g : List (List Int)} (h : May g) : (sortC g = 0 ∧ (srow g).length = g.length) ∨ (sortC g = 64 ∧ (srow g).length < g.length) := by
  have := srow_le g
  by_cases e : (srow g).length < g.length
  · exact .inr ⟨sort_cyc h e, e⟩
  · exact .inl ⟨(sort_ok h (by omega)).1, by omega⟩
theorem cycles_calls (w : World) (s : Sl) (ps : List (Sl × List Int)) (h : Gw w s ps) (hok : PsOk s ps) : Calls prog 7 #[.slice s.a s.l s.c] w fun e w' => e = .returned (.bool true) ∧ Frm none_ w w' := by
  refine callsRet (W7 (Q := fun v w' => v = .bool true ∧ Frm none_ w w') ?_) (fun v w' ⟨h, h'⟩ => ⟨by rw [h], h'⟩)
  unfold F7
  have hl := h.len
  refine ⟨fun b w' => Frm none_ w w' ∧ (b = false → Small ps ∧ tot (gOf ps) ≤ 1000000000), ?_, ?_⟩
  · refine (works_calls w).mono ?_
    rintro _ w1 ⟨rfl, f1⟩
    refine ⟨_, rfl, IfB.f rfl ((large_calls w1 s ps 60 (by decide) (h.mod f1) hok.1 hok.2).mono ?_)⟩
    rintro _ _ ⟨b, rfl, hb, rfl⟩
    exact ⟨_, rfl, f1, fun e => ⟨small_of (by decide) (hb e).1 (hb e).2, by have := (hb e).2; omega⟩⟩
  rintro u b w1 ⟨f1, hb⟩
  refine IfB.intro (fun _ => (works_calls w1).mono ?_) (fun hbf => ?_)
  · rintro _ w2 ⟨rfl, f2⟩
    exact ⟨_, rfl, rfl, f1.n f2⟩
  obtain ⟨hsm, htt⟩ := hb hbf
  have hsl := hsm.len
  have hgl := gOf_len ps
  refine (sort_calls w1 s ps (h.mod f1) hsm htt).mono ?_
  rintro _ w2 ⟨ta, rfl, hta, f2⟩
  have f12 := f1.n f2
  refine ⟨ta, _, rfl, IfB.intro (fun _ => ⟨rfl, f12⟩) (fun hc => ?_)⟩
  have hmay := sortC_may (ne_of_beq_false hc)
  refine ⟨fun n x5 x6 w' => ∃ i : Nat, x6 = (i : Int) ∧ i ≤ s.l ∧ n = s.l - i ∧ (x5 = true ↔ ∃ j, j < i ∧ TC (gOf ps) j j) ∧ Frm none_ w w', s.l, ⟨0, rfl, Nat.zero_le _, by omega, by simp, f12⟩, ?_⟩
  rintro n u1 x5 x6 w3 ⟨i, rfl, hi, rfl, hx5, f3⟩
  refine IfB.intro (fun hd => ?_) (fun hd => ?_)
  · have hlt := of_decide_eq_true hd
    refine (below_calls w3 s ps (h.mod f3) hsm htt (i : Int)).mono ?_
    rintro _ w4 ⟨tb, cb, rfl, hb1, _, f4⟩
    obtain ⟨rfl, htb⟩ := hb1 ⟨hmay, by omega, by omega⟩
    rw [Int.toNat_natCast] at htb
    have hbl := below_len (gOf ps) i
    have htl := has_iv htb
    refine ⟨tb, _, rfl, IfB.f rfl ?_⟩
    refine ⟨fun n x5 x9 w' => ∃ k : Nat, x9 = (k : Int) ∧ k ≤ tb.l ∧ n = tb.l - k ∧ (x5 = true ↔ (∃ j, j < i ∧ TC (gOf ps) j j) ∨ (i : Int) ∈ (below (gOf ps) i).take k) ∧ w' = w4, tb.l, ⟨0, rfl, Nat.zero_le _, by omega, by simpa using hx5, rfl⟩, ?_⟩
    clear hx5 x5
    rintro n u2 x5 x9 w5 ⟨k, rfl, hk, rfl, hx5, rfl⟩
    refine IfB.intro (fun he => ?_) (fun he => ?_)
    · have hkl := of_decide_eq_true he
      obtain ⟨q, z, hq, hz, hld⟩ := has_at htb (i := k) (by omega)
      have htake : (below (gOf ps) i).take (k + 1) = (below (gOf ps) i).take k ++ [z] := by rw [List.take_add_one, hz]; rfl
      refine IfB.intro (fun hf => ?_) (fun hf => ?_)
      · refine ⟨tb.l - (k + 1), by omega, k + 1, by rw [wrap64 _ (by omega)]; omega, by omega, rfl, ?_, rfl⟩
        simp only [true_iff]
        rcases hx5.1 hf with h | h
        · exact .inl h
        · exact .inr (by rw [htake]; simp [h])
      · refine ⟨q, hq, by omega, by omega, z, by rw [Int.toNat_natCast]; exact hld, tb.l - (k + 1), by omega, k + 1, by rw [wrap64 _ (by omega)]; omega, by omega, rfl, ?_, rfl⟩
        rw [htake, beq_iff_eq]
        constructor
        · intro e; exact .inr (by simp [e])
        · rintro (h | h)
          · rw [hx5.2 (.inl h)] at hf; cases hf
          · rcases List.mem_append.1 h with h | h
            · rw [hx5.2 (.inr h)] at hf; cases hf
            · simp at h; exact h.symm
    · have hkg := of_decide_eq_false he
      refine ⟨s.l - (i + 1), by omega, i + 1, by rw [wrap64 _ (by omega)]; omega, by omega, rfl, ?_, f3.n f4⟩
      rw [hx5, List.take_of_length_le (by omega), below_mem (by omega)]
      constructor
      · rintro (⟨j, hj, h⟩ | h)
        · exact ⟨j, by omega, h⟩
        · exact ⟨i, by omega, h⟩
      · rintro ⟨j, hj, h⟩
        by_cases e : j = i
        · subst e; exact .inr h
        · exact .inl ⟨j, by omega, h⟩
  · have hge := of_decide_eq_false hd
    have hil : i = ps.length := by omega
    refine ⟨_, bool_eql _ _ _ _, ?_⟩
    rcases sortC_cases hmay with ⟨hc0, hfull⟩ | ⟨hc64, hshort⟩
    · have hx : x5 = false := by
        cases hx : x5 with
        | false => rfl
        | true =>
          obtain ⟨j, hj, ht⟩ := hx5.1 hx
          exact absurd ht (nocyc_of_full hfull (by omega))
      subst hx
      rw [hc0]
      exact IfB.t rfl (IfB.f rfl ⟨rfl, f3⟩)
    · obtain ⟨j, hj, ht⟩ := cyc_of_short hmay.2.2 hshort
      have hx : x5 = true := hx5.2 ⟨j, by omega, ht⟩
      subst hx
      rw [hc64]
      exact IfB.t rfl (IfB.t rfl ⟨rfl, f3⟩)
theorem cycles_law (W : World) (s : Sl) (ps : List (Sl × List Int)) (h : Gw W s ps ∧ PsOk s ps) : Calls prog 7 #[.slice s.a s.l s.c] W fun e w' => e = .returned (.bool true) ∧ Frm none_ W w' := cycles_calls W s ps h.1 h.2
end Go.Proofs.Ytjpcbggodhfabaa

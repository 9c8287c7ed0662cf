/- The law CodeBehind walked: it returns true, and turns nothing that was there. -/
import Derived.Test.YtmkennapbebbmaaApart
set_option linter.unusedVariables false
set_option linter.unusedSimpArgs false
namespace Go.Proofs.Ytmkennapbebbmaa
open Go Go.Proofs.YtmkennapbebbmaaV
theorem toldOne (x : Told) : ∀ y, y ∈ (toldV x).toList → y.oneCell' = true := by
  intro y hy
  simp only [toldV, List.mem_cons, List.not_mem_nil, or_false] at hy
  rcases hy with rfl | rfl <;> rfl
theorem behind_law_calls (w : World) (b c : Sl) (lb lc : List UInt8) (s : Sl) (l : List Th) (hb : Has w b 1 (bv lb)) (hc : Has w c 1 (bv lc)) (hl : HasL w s 3 tc l) (hok : ∀ t ∈ l, OkT t) (hs : s.l ≤ 140737488351232) :
    Calls prog 9 #[.slice b.a b.l b.c, .slice c.a c.l c.c, .slice s.a s.l s.c] w fun e w' => e = .returned (.bool true) ∧ Frm none_ w w' := by
  refine calls_ret (W9 (Q := fun v w' => v = .bool true ∧ Frm none_ w w') ?_) (fun v w' ⟨h, h'⟩ => ⟨by rw [h], h'⟩)
  unfold F9
  have hbl : lb.length = b.l := by have := hb.len; rw [bv_length] at this; omega
  have hcl : lc.length = c.l := by have := hc.len; rw [bv_length] at this; omega
  refine ⟨fun v w' => Frm none_ w w' ∧ (v = false → b.l ≤ 20000 ∧ c.l ≤ 20000 ∧ wt l < 20000), ?_, ?_⟩
  · refine (works_calls w).mono ?_
    rintro _ w1 ⟨rfl, hm⟩
    refine ⟨true, rfl, IfB.f rfl (IfB.intro (fun h => ⟨hm, by simp⟩) (fun h => IfB.intro (fun h' => ⟨hm, by simp⟩) (fun h' => ?_)))⟩
    have h := of_decide_eq_false h
    have h' := of_decide_eq_false h'
    refine (long_calls w1 s l (hl.mod hm (fun _ _ h => h)) hok hs).mono ?_
    rintro _ _ ⟨v, rfl, rfl, hv⟩
    exact ⟨v, rfl, hm, fun e => ⟨by omega, by omega, hv e⟩⟩
  rintro u x26 w1 ⟨hm1, hv⟩
  refine IfB.intro (fun h => ?_) (fun h => ?_)
  · refine (works_calls w1).mono ?_
    rintro _ w2 ⟨rfl, hm⟩
    exact ⟨true, rfl, rfl, trN hm1 hm⟩
  obtain ⟨hb2, hc2, hwt⟩ := hv h
  have hlen : s.l ≤ 1000 := by have := wt_len l; have := hl.len; omega
  refine (newReader_calls w1 b lb (hb.mod hm1 (fun _ _ h => h)) (by omega)).mono ?_
  rintro _ w2 ⟨k1, rfl, hk1, hR1, hm2⟩
  have f2 := trN hm1 hm2
  refine ⟨_, rfl, runT_lit0 st22 ?_⟩
  intro w3 hr3 hm3 hs3
  have f3 := trN f2 hm3
  refine runT_append st22 hr3 (hb.mod f3 (fun _ _ h => h)) (bv_one lb) (by simp; omega) (by simp [maxLen]; omega) ?_
  intro t32 w4 hr4 hl4 hn4 hm4
  rw [List.nil_append] at hr4
  have hl4 : t32.l = 0 + b.l := hl4
  have hm4' : Frm none_ w2 w4 := hm3.trans hm4 (fun _ _ h => h) (fun x hx hf => by simp [Sl.blk] at hf; omega)
  have f4 := trN f2 hm4'
  have hN32 : ∀ k, t32.blk = some k → w2.heap.size ≤ k := by
    intro k hk
    rcases hn4.cases hk with h | h
    · simp [Sl.blk] at h; omega
    · have := hm3.size; omega
  refine runT_append st22 hr4 (hc.mod f4 (fun _ _ h => h)) (bv_one lc) (by omega) (by simp only [maxLen]; omega) ?_
  intro t34 w5 hr5 hl5 hn5 hm5
  have hl5 : t34.l = t32.l + c.l := hl5
  have hm5' : Frm none_ w2 w5 := hm4'.trans hm5 (fun _ _ h => h) (fun x hx hf => by have := hN32 x hf; omega)
  have f5 := trN f2 hm5'
  rw [← bv_append] at hr5
  refine (newReader_calls w5 t34 _ hr5.has (by omega)).mono ?_
  rintro _ w6 ⟨k2, rfl, hk2, hR2, hm6⟩
  have f6 := trN f5 hm6
  have hR1' := hR1.mod (trN hm5' hm6) (fun h => h)
  have hk1w : w.heap.size ≤ k1 := Nat.le_trans hm1.size hk1
  have hk12 : k1 < k2 := by
    have h1 : k1 < w2.heap.size := by obtain ⟨_, _, hB, _⟩ := hR1; exact hB.lt
    have := hm5'.size
    omega
  have hk2w : w.heap.size ≤ k2 := by omega
  refine ⟨_, rfl, fun n x9 w' => ∃ (i : Nat) (m : List UInt8), x9 = (i : Int) ∧ i ≤ s.l ∧ n = s.l - i ∧ m.length ≤ b.l ∧ RdQ w' (some ⟨k1, 0, none⟩) (some m) ∧ RdQ w' (some ⟨k2, 0, none⟩) (some (m ++ lc)) ∧ Frm none_ w w', s.l,
    ⟨0, lb, rfl, by omega, by omega, by omega, .inr ⟨k1, rfl, hR1'⟩, .inr ⟨k2, rfl, hR2⟩, f6⟩, ?_⟩
  rintro n u1 x9 w7 ⟨i, m, rfl, hi, rfl, hm, h1, h2, f7⟩
  refine IfB.intro (fun h => ?_) (fun h => ?_)
  · have hlt := of_decide_eq_true h
    have hl7 := hl.mod f7 (fun _ _ h => h)
    obtain ⟨p, t, hp, ht, htm, _, hla⟩ := hl7.at (by omega) (i := (i : Int)) (by omega) hlt
    refine ⟨p, hp, by omega, hlt, _, hla, (ask_calls w7 t _ _ h1).mono ?_⟩
    rintro _ w8 ⟨rfl, h8, hm8⟩
    have f8 := frmOf f7 hk1w hm8
    have h2' := h2.mod hm8 (fun k hk hf => by simp at hk hf; omega)
    refine ⟨_, rfl, ?_⟩
    intro b10 w9 hnb
    have hm9 := hnb.mod none_
    have hb10 : w8.heap.size ≤ b10 := by obtain ⟨h, _⟩ := hnb; omega
    obtain ⟨hwr, hset⟩ := two_cells hnb.blk rfl (.int .i64 (askR t (some m)).1.1) (.string (str (askR t (some m)).1.2))
    refine ⟨rfl, toldOne _, hwr, ?_⟩
    intro w10 hw10
    obtain ⟨hla10, hm10⟩ := hset w10 hw10
    have hm9' : Frm none_ w8 w10 := hm9.trans hm10 (fun _ _ h => h) (fun x hx he => by omega)
    have f10 := trN f8 hm9'
    have h10 := h8.mod hm9' (fun _ _ h => h)
    have h210 := h2'.mod hm9' (fun _ _ h => h)
    refine (ok_calls w10 _ _ h10).mono ?_
    rintro _ w11 ⟨rfl, hm11⟩
    have f11 := trN f10 hm11
    have hx : askR t (some m) = ((askR t (some m)).1, (askR t (some m)).2) := rfl
    refine ⟨_, rfl, ?_⟩
    cases hr' : (askR t (some m)).2 with
    | none => exact IfB.t rfl ⟨rfl, f11⟩
    | some m' =>
      refine IfB.f rfl ?_
      rw [hr'] at hx h10
      have hmore := ask_more (m := lc) hx
      have hmle : m'.length ≤ m.length := by
        have h0 := (hok t htm).k0
        have := congrArg List.length (ask_took h0 hx).1
        rw [List.length_append] at this
        omega
      have hb10lt : b10 ≠ k2 := by
        have : k2 < w8.heap.size := h2'.lt k2 rfl
        omega
      have hB10 : Blk w10 b10 (toldV (askR t (some m)).1) 36 := by
        subst hw10
        exact two_blk hnb.blk rfl _
      refine ⟨fun w' => Frm (Of (some ⟨k2, 0, none⟩)) w11 w', (Frm.refl _ _).drew, p, hp, by omega, hlt, (tc t).toArray, ?_, toldV (askR t (some m)).1, ?_, ?_⟩
      · intro w' hw'
        obtain ⟨p', t', hp', ht', _, _, hla'⟩ := (hl.mod (frmOf f11 hk2w hw') (fun _ _ h => h)).at (by omega) (i := (i : Int)) (by omega) hlt
        rw [hp] at hp'; cases hp'
        rw [ht] at ht'; cases ht'
        exact hla'
      · intro w' hw'
        exact ((hB10.mod hm11 (fun h => h)).mod hw' (fun h => by simp at h; omega)).ldA rfl
      have h1' := h10.mod hm11 (fun _ _ h => h)
      have h2' := h210.mod hm11 (fun _ _ h => h)
      have h2'' : RdQ w11.drew (some ⟨k2, 0, none⟩) (some (m ++ lc)) := h2'.mod (frm_drew (F := none_) w11) (fun _ _ h => h)
      refine (ask_calls w11.drew t _ _ h2'').mono ?_
      rintro _ w12 ⟨rfl, h12, hm12⟩
      have hm12 : Frm (Of (some ⟨k2, 0, none⟩)) w11 w12 := hm12.ofDrew
      rw [hmore] at h12 ⊢
      have f12 := frmOf f11 hk2w hm12
      have h112 := h1'.mod hm12 (fun k hk hf => by simp at hk hf; omega)
      refine ⟨_, rfl, hm12, _, toldV_neq _ _ _ _, IfB.f (by simp) ?_⟩
      refine (ok_calls w12 _ _ h12).mono ?_
      rintro _ w13 ⟨rfl, hm13⟩
      refine ⟨_, rfl, IfB.f rfl ?_⟩
      have h113 := h112.mod hm13 (fun _ _ h => h)
      have h213 := h12.mod hm13 (fun _ _ h => h)
      refine (left_calls w13 _ _ h213).mono ?_
      rintro _ w14 ⟨rfl, hm14⟩
      have h114 := h113.mod hm14 (fun _ _ h => h)
      have h214 := h213.mod hm14 (fun _ _ h => h)
      refine ⟨_, rfl, (left_calls w14 _ _ h114).mono ?_⟩
      rintro _ w15 ⟨rfl, hm15⟩
      refine ⟨_, rfl, IfB.f ?_ ?_⟩
      · simp only [leftR, List.length_append]
        rw [wi _ (by omega), bne_eq_false_iff_eq]
        omega
      · exact ⟨s.l - (i + 1), by omega, i + 1, m', by rw [wi _ (by omega)]; omega, by omega, rfl, by omega, h114.mod hm15 (fun _ _ h => h), h214.mod hm15 (fun _ _ h => h), trN (trN (trN f12 hm13) hm14) hm15⟩
  · refine (done_calls w7 _ _ h1).mono ?_
    rintro _ w8 ⟨rfl, hm8⟩
    refine ⟨_, rfl, (left_calls w8 _ _ (h2.mod hm8 (fun _ _ h => h))).mono ?_⟩
    rintro _ w9 ⟨rfl, hm9⟩
    refine ⟨_, rfl, _, bool_eql _ _ _ _, ?_, trN (trN f7 hm8) hm9⟩
    congr 1
    simp only [leftR, doneR, List.length_append]
    by_cases hm0 : m = []
    · subst hm0; simp [hcl]
    · have : m.length ≠ 0 := fun h => hm0 (List.eq_nil_of_length_eq_zero h)
      have e1 : (some m == some ([] : List UInt8)) = false := by rw [beq_eq_false_iff_ne]; intro h; cases h; exact hm0 rfl
      have e2 : (((m.length + lc.length : Nat) : Int) == ((c.l : Nat) : Int)) = false := beq_eq_false_iff_ne.2 (by omega)
      rw [e1, e2]; rfl
theorem behind_law (W : World) (b : Sl) (lb : List UInt8) (hb : HasL W b 1 (fun b : UInt8 => [Value.int .u8 (b.toNat : Int)]) lb ∧ (∀ a ∈ lb, True) ∧ b.l ≤ b.c ∧ b.c ≤ maxLen ∧ b.c * 1 ≤ 140737488351232)
    (c : Sl) (lc : List UInt8) (hc : HasL W c 1 (fun b : UInt8 => [Value.int .u8 (b.toNat : Int)]) lc ∧ (∀ a ∈ lc, True) ∧ c.l ≤ c.c ∧ c.c ≤ maxLen ∧ c.c * 1 ≤ 140737488351232)
    (s : Sl) (l : List Th) (hl : HasL W s 3 tc l ∧ (∀ a ∈ l, OkT a) ∧ s.l ≤ s.c ∧ s.c ≤ maxLen ∧ s.c * 32 ≤ 140737488351232) :
    Calls prog 9 #[.slice b.a b.l b.c, .slice c.a c.l c.c, .slice s.a s.l s.c] W fun e w' => e = .returned (.bool true) ∧ Frm none_ W w' :=
  behind_law_calls W b c lb lc s l hb.1.bytes hc.1.bytes hl.1 hl.2.1 (by omega)
end Go.Proofs.Ytmkennapbebbmaa

/- The law DiskNames walked: it returns true, and turns nothing that was there. -/
import Derived.Test.YtlmnnofghimneaaApart
import Derived.Test.YtlmnnofghimneaaG
set_option linter.unusedVariables false
set_option linter.unusedSimpArgs false
namespace Go.Proofs.Ytlmnnofghimneaa
open Go Go.Proofs.YtlmnnofghimneaaV
theorem new_no (w : World) (n : Int) (h0 : n < 512 ∨ n > 32768) : Calls prog 8 #[.int .i64 n] w fun e w' => e = .returned (.tuple #[.pointer none, .int .i64 1]) ∧ w = w' := by
  refine calls_ret (W8 (Q := fun v w' => v = .tuple #[.pointer none, .int .i64 1] ∧ w = w') ?_) (fun v w' ⟨h, h'⟩ => ⟨by rw [h], h'⟩)
  unfold F8
  refine IfB.intro (fun h => ⟨rfl, rfl⟩) (fun h => ?_)
  have h := of_decide_eq_false h
  exact IfB.t (decide_eq_true (by omega)) ⟨rfl, rfl⟩
theorem reopen_no (G : Nat → Prop) (w : World) (x : Option Addr) (d : Dk) (h : DkQ G w x d) (hd : d.dead = false) : Calls prog 13 #[.pointer x] w fun e w' => e = .returned (.tuple #[.pointer none, .int .i64 50]) ∧ w = w' := by
  refine calls_ret (W13 (Q := fun v w' => v = .tuple #[.pointer none, .int .i64 50] ∧ w = w') ?_) (fun v w' ⟨h, h'⟩ => ⟨by rw [h], h'⟩)
  unfold F13
  obtain ⟨b, s, rfl, h⟩ := h
  exact ⟨_, some_eql _ b, IfB.f rfl ⟨_, rfl, d.dead, by rw [addr_add]; exact h.blk.ld rfl, IfB.t (by rw [hd]; rfl) ⟨rfl, rfl⟩⟩⟩
theorem read_arg (G : Nat → Prop) (w : World) (x : Option Addr) (d : Dk) (i : Int) (h : DkQ G w x d) (hd : d.dead = false) (hi : i < 0 ∨ i ≥ d.bl.length) : Calls prog 14 #[.pointer x, .int .i64 i] w fun e w' => e = .returned (.tuple #[.slice none 0 0, .int .i64 1]) ∧ w = w' := by
  refine calls_ret (W14 (Q := fun v w' => v = .tuple #[.slice none 0 0, .int .i64 1] ∧ w = w') ?_) (fun v w' ⟨h, h'⟩ => ⟨by rw [h], h'⟩)
  unfold F14
  refine (lives_calls G w x d h).mono ?_
  rintro _ _ ⟨rfl, rfl⟩
  obtain ⟨b, s, rfl, h⟩ := h
  have e2 : livesD d = 0 := by unfold livesD; rw [hd]; rfl
  rw [e2]
  have hsl := h.len
  refine ⟨_, rfl, IfB.f rfl (IfB.intro (fun hc => ⟨rfl, rfl⟩) (fun hc => ?_))⟩
  have hc := of_decide_eq_false hc
  exact ⟨_, rfl, s, by rw [addr_add]; exact h.blk.ld rfl, IfB.t (decide_eq_true (by omega)) ⟨rfl, rfl⟩⟩
theorem read_dead (G : Nat → Prop) (w : World) (x : Option Addr) (d : Dk) (i : Int) (h : DkQ G w x d) (hd : d.dead = true) : Calls prog 14 #[.pointer x, .int .i64 i] w fun e w' => e = .returned (.tuple #[.slice none 0 0, .int .i64 20]) ∧ w = w' := by
  refine calls_ret (W14 (Q := fun v w' => v = .tuple #[.slice none 0 0, .int .i64 20] ∧ w = w') ?_) (fun v w' ⟨h, h'⟩ => ⟨by rw [h], h'⟩)
  unfold F14
  refine (lives_calls G w x d h).mono ?_
  rintro _ _ ⟨rfl, rfl⟩
  have e2 : livesD d = 20 := by unfold livesD; rw [hd]; rfl
  rw [e2]
  exact ⟨_, rfl, IfB.t rfl ⟨rfl, rfl⟩⟩
theorem lives_nil (w : World) : Calls prog 26 #[.pointer none] w fun e w' => e = .returned (.int .i64 2) ∧ w = w' := by
  refine calls_ret (W26 (Q := fun v w' => v = .int .i64 2 ∧ w = w') ?_) (fun v w' ⟨h, h'⟩ => ⟨by rw [h], h'⟩)
  unfold F26
  exact ⟨_, nil_eql _, IfB.t rfl ⟨rfl, rfl⟩⟩
theorem read_nil (w : World) (i : Int) : Calls prog 14 #[.pointer none, .int .i64 i] w fun e w' => e = .returned (.tuple #[.slice none 0 0, .int .i64 2]) ∧ w = w' := by
  refine calls_ret (W14 (Q := fun v w' => v = .tuple #[.slice none 0 0, .int .i64 2] ∧ w = w') ?_) (fun v w' ⟨h, h'⟩ => ⟨by rw [h], h'⟩)
  unfold F14
  refine (lives_nil w).mono ?_
  rintro _ _ ⟨rfl, rfl⟩
  exact ⟨_, rfl, IfB.t rfl ⟨rfl, rfl⟩⟩
theorem reopen_nil (w : World) : Calls prog 13 #[.pointer none] w fun e w' => e = .returned (.tuple #[.pointer none, .int .i64 2]) ∧ w = w' := by
  refine calls_ret (W13 (Q := fun v w' => v = .tuple #[.pointer none, .int .i64 2] ∧ w = w') ?_) (fun v w' ⟨h, h'⟩ => ⟨by rw [h], h'⟩)
  unfold F13
  exact ⟨_, nil_eql _, IfB.t rfl ⟨rfl, rfl⟩⟩
theorem len_nil (w : World) : Calls prog 17 #[.pointer none] w fun e w' => e = .returned (.int .i64 0) ∧ w = w' := by
  refine calls_ret (W17 (Q := fun v w' => v = .int .i64 0 ∧ w = w') ?_) (fun v w' ⟨h, h'⟩ => ⟨by rw [h], h'⟩)
  unfold F17
  exact ⟨_, nil_eql _, IfB.t rfl ⟨rfl, rfl⟩⟩
theorem writes_nil (w : World) : Calls prog 16 #[.pointer none] w fun e w' => e = .returned (.int .i64 0) ∧ w = w' := by
  refine calls_ret (W16 (Q := fun v w' => v = .int .i64 0 ∧ w = w') ?_) (fun v w' ⟨h, h'⟩ => ⟨by rw [h], h'⟩)
  unfold F16
  exact ⟨_, nil_eql _, IfB.t rfl ⟨rfl, rfl⟩⟩
theorem dead_nil (w : World) : Calls prog 12 #[.pointer none] w fun e w' => e = .returned (.bool false) ∧ w = w' := by
  refine calls_ret (W12 (Q := fun v w' => v = .bool false ∧ w = w') ?_) (fun v w' ⟨h, h'⟩ => ⟨by rw [h], h'⟩)
  unfold F12
  exact ⟨_, nil_neq _, IfB.f rfl ⟨rfl, rfl⟩⟩
theorem copy_nil (w : World) : Calls prog 15 #[.pointer none] w fun e w' => e = .returned (.pointer none) ∧ w = w' := by
  refine calls_ret (W15 (Q := fun v w' => v = .pointer none ∧ w = w') ?_) (fun v w' ⟨h, h'⟩ => ⟨by rw [h], h'⟩)
  unfold F15
  exact ⟨_, nil_eql _, IfB.t rfl ⟨rfl, rfl⟩⟩
theorem cut_nil (w : World) (n : Int) : Calls prog 9 #[.pointer none, .int .i64 n] w fun e w' => e = .returned (.int .i64 2) ∧ w = w' := by
  refine calls_ret (W9 (Q := fun v w' => v = .int .i64 2 ∧ w = w') ?_) (fun v w' ⟨h, h'⟩ => ⟨by rw [h], h'⟩)
  unfold F9
  refine (lives_nil w).mono ?_
  rintro _ _ ⟨rfl, rfl⟩
  exact ⟨_, rfl, IfB.t rfl ⟨rfl, rfl⟩⟩
theorem write_nil (w : World) (i : Int) (t : Sl) : Calls prog 10 #[.pointer none, .int .i64 i, .slice t.a t.l t.c] w fun e w' => e = .returned (.int .i64 2) ∧ w = w' := by
  refine calls_ret (W10 (Q := fun v w' => v = .int .i64 2 ∧ w = w') ?_) (fun v w' ⟨h, h'⟩ => ⟨by rw [h], h'⟩)
  unfold F10
  refine (lives_nil w).mono ?_
  rintro _ _ ⟨rfl, rfl⟩
  exact ⟨_, rfl, IfB.t rfl ⟨rfl, rfl⟩⟩
theorem writeD_arg {i : Int} {l : List UInt8} {d : Dk} (hd : d.dead = false) (h : i < 0 ∨ i ≥ d.bl.length ∨ l.length ≠ 256) : writeD i l d = (1, d) := by
  unfold writeD; rw [hd]; simp only [Bool.false_eq_true, if_false]; rw [if_pos h]
theorem writeD_die {i : Int} {l : List UInt8} {d : Dk} (hd : d.dead = false) (h : ¬ (i < 0 ∨ i ≥ d.bl.length ∨ l.length ≠ 256)) (hc : d.cut = 0) : writeD i l d = (20, { d with dead := true }) := by
  unfold writeD; rw [hd]; simp only [Bool.false_eq_true, if_false]; rw [if_neg h, if_pos hc]
theorem cutD_neg {n : Int} {d : Dk} (hd : d.dead = false) (h : n < 0) : cutD n d = (1, d) := by unfold cutD; rw [hd]; simp [h]
theorem cutD_ok {n : Int} {d : Dk} (hd : d.dead = false) (h : ¬ n < 0) : cutD n d = (0, { d with cut := n }) := by unfold cutD; rw [hd]; simp [h]
theorem cutD_dead {n : Int} {d : Dk} (hd : d.dead = true) : cutD n d = (20, d) := by unfold cutD; rw [hd]; simp
set_option maxRecDepth 20000 in
theorem names_law (w : World) : Calls prog 5 #[] w fun e w' => e = .returned (.bool true) ∧ Frm none_ w w' := by
  refine calls_ret (W5 (Q := fun v w' => v = .bool true ∧ Frm none_ w w') ?_) (fun v w' ⟨h, h'⟩ => ⟨by rw [h], h'⟩)
  unfold F5
  refine (works_calls w).mono ?_
  rintro _ w1 ⟨rfl, f1⟩
  refine ⟨_, rfl, IfB.f rfl ((new_no w1 511 (by decide)).mono ?_)⟩
  rintro _ _ ⟨rfl, rfl⟩
  refine ⟨_, _, rfl, (new_no w1 32769 (by decide)).mono ?_⟩
  rintro _ _ ⟨rfl, rfl⟩
  refine ⟨_, _, rfl, (new_calls w1 32768 (by decide) (by decide)).mono ?_⟩
  rintro _ w2 ⟨b, G, rfl, hq, hg, f2⟩
  generalize hd : (⟨List.replicate (32768 : Int).toNat zeroB, 0, -1, false⟩ : Dk) = d at hq
  have hbl : d.bl.length = 32768 := by rw [← hd]; show (List.replicate ((32768 : Int).toNat) zeroB).length = 32768; rw [List.length_replicate]; rfl
  have hde : d.dead = false := by rw [← hd]
  have hcu : d.cut = -1 := by rw [← hd]
  have hwr : d.wr = 0 := by rw [← hd]
  clear hd
  refine ⟨_, _, rfl, (reopen_no G w2 _ d hq hde).mono ?_⟩
  rintro _ _ ⟨rfl, rfl⟩
  refine ⟨_, _, rfl, (read_arg G w2 _ d 32768 hq hde (by omega)).mono ?_⟩
  rintro _ _ ⟨rfl, rfl⟩
  refine ⟨⟨none, 0, 0⟩, _, rfl, (read_arg G w2 _ d (-1) hq hde (by omega)).mono ?_⟩
  rintro _ _ ⟨rfl, rfl⟩
  have fG : ∀ {w3 w4 : World}, Frm none_ w2 w3 → Frm G w3 w4 → Frm none_ w1 w4 := fun f g => (trN f2 f).trans g (fun _ _ h => h) (fun k hk h => by have := hg k h; omega)
  refine ⟨⟨none, 0, 0⟩, _, rfl, fun c w' => c = false ∧ Frm none_ w1 w', ?_, ?_⟩
  · refine IfB.f rfl (IfB.f rfl (IfB.f rfl ((len_calls G w2 _ d hq).mono ?_)))
    rintro _ _ ⟨rfl, rfl⟩
    rw [hbl]
    refine ⟨_, rfl, IfB.f rfl (IfB.f rfl (IfB.f rfl (IfB.f rfl ((full_calls w2 1).mono ?_))))⟩
    -- a place too far
    rintro _ w3 ⟨t3, rfl, ht3, hb3, f3⟩
    have q3 := hq.mod f3 (fun _ _ h => h)
    have apart : ∀ {t : Sl} {wa : World}, Frm none_ w2 wa → (∀ k, t.blk = some k → wa.heap.size ≤ k) → ∀ k, t.blk = some k → ¬ G k := fun f h k hk hgk => by have := (hg k hgk).2; have := h k hk; have := f.size; omega
    refine ⟨t3, rfl, (write_calls G w3 _ d 32768 t3 _ (by decide) ht3.has (fun k hk hgk => by have := (hg k hgk).2; have := hb3 k hk; omega) q3 (by omega)).mono ?_⟩
    rw [writeD_arg hde (by omega)]
    rintro _ w4 ⟨rfl, q4, f4⟩
    -- too short
    refine ⟨_, rfl, IfB.f rfl ((full_calls w4 1).mono ?_)⟩
    rintro _ w5 ⟨t5, rfl, ht5, hb5, f5⟩
    have q5 := q4.mod f5 (fun _ _ h => h)
    have z34 := f3.size; have z4 := f4.size; have z5 := f5.size
    have hl5 : t5.l = 256 := by have := ht5.len; rw [bv_length, List.length_replicate] at this; omega
    have hlc5 : t5.l ≤ t5.c := by
      rcases ht5.cases with ⟨rfl, _⟩ | ⟨_, _, _, _, h, _⟩
      · exact Nat.le_refl _
      · exact h
    have hcut := ht5.has.cut 1 (by omega) hlc5
    rw [bv_drop] at hcut
    refine ⟨t5, rfl, by omega, (write_calls G w5 _ d 0 ⟨slA t5.a 1 t5.c 1, t5.l - 1, t5.c - 1⟩ _ (by decide) hcut (fun k hk hgk => ?_) q5 (by omega)).mono ?_⟩
    · have h2 : (slA t5.a 1 t5.c 1).map (·.block) = some k := hk
      rw [slA_blk] at h2
      have := (hg k hgk).2; have := hb5 k h2; omega
    rw [writeD_arg hde (.inr (.inr (by rw [List.length_drop, List.length_replicate]; decide)))]
    rintro _ w6 ⟨rfl, q6, f6⟩
    -- too long
    refine ⟨_, rfl, IfB.f rfl ((full_calls w6 1).mono ?_)⟩
    rintro _ w7 ⟨t7, rfl, ht7, hb7, f7⟩
    have q7 := q6.mod f7 (fun _ _ h => h)
    have z6 := f6.size; have z7 := f7.size
    refine ⟨t7, rfl, runT_lit1 st31 (by decide) rfl ?_⟩
    intro w8 hr8 f8 z8
    have ht8 := ht7.mod f8 (fun _ _ h => h)
    have hl7 : t7.l = 256 := by have := ht7.len; rw [bv_length, List.length_replicate] at this; omega
    refine runT_append st31 ht8 hr8.has (by intro u hu; simp [Value.cells] at hu; subst hu; rfl) (by simp only; omega) (by simp only [maxLen]; omega) ?_
    intro t9 w9 hr9 hl9 hn9 f9
    have e9 : bv (List.replicate 256 1) ++ (Value.int .u8 1).cells.toList = bv (List.replicate 256 1 ++ [1]) := by rw [bv_append]; rfl
    rw [e9] at hr9
    have f9' : Frm none_ w6 w9 := (trN f7 f8).trans f9 (fun _ _ h => h) (fun k hk hs => by have := hb7 k hs; omega)
    have q9 := q6.mod f9' (fun _ _ h => h)
    have z9 := f9'.size
    refine (write_calls G w9 _ d 0 t9 _ (by decide) hr9.has (fun k hk hgk => ?_) q9 (by omega)).mono ?_
    · have := (hg k hgk).2
      rcases hn9.cases hk with h | h
      · have := hb7 k h; omega
      · omega
    rw [writeD_arg hde (.inr (.inr (by rw [List.length_append, List.length_replicate]; decide)))]
    rintro _ w10 ⟨rfl, q10, f10⟩
    refine ⟨_, rfl, IfB.f rfl ((cut_calls G w10 _ d (-1) (by decide) q10).mono ?_)⟩
    rw [cutD_neg hde (by decide)]
    rintro _ w11 ⟨rfl, q11, f11⟩
    refine ⟨_, rfl, IfB.f rfl ((cut_calls G w11 _ d 0 (by decide) q11).mono ?_)⟩
    rw [cutD_ok hde (by decide)]
    rintro _ w12 ⟨rfl, q12, f12⟩
    refine ⟨_, rfl, IfB.f rfl ((write_calls G w12 _ { d with cut := 0 } 9 ⟨none, 0, 0⟩ [] (by decide) (Has.nil _ _ _ rfl) (fun k hk => by simp [Sl.blk] at hk) q12 (by simp only; omega)).mono ?_)⟩
    rw [writeD_arg (d := { d with cut := 0 }) hde (.inr (.inr (by decide)))]
    rintro _ w13 ⟨rfl, q13, f13⟩
    refine ⟨_, rfl, IfB.f rfl ((dead_calls G w13 _ _ q13).mono ?_)⟩
    rintro _ _ ⟨rfl, rfl⟩
    refine ⟨_, rfl, IfB.f hde ((full_calls w13 1).mono ?_)⟩
    rintro _ w14 ⟨t14, rfl, ht14, hb14, f14⟩
    have q14 := q13.mod f14 (fun _ _ h => h)
    have z10 := f10.size; have z11 := f11.size; have z12 := f12.size; have z13 := f13.size
    refine ⟨t14, rfl, (write_calls G w14 _ { d with cut := 0 } 0 t14 _ (by decide) ht14.has (fun k hk hgk => by have := (hg k hgk).2; have := hb14 k hk; omega) q14 (by simp only; omega)).mono ?_⟩
    rw [writeD_die (d := { d with cut := 0 }) hde (by rw [List.length_replicate]; simp only; omega) rfl]
    rintro _ w15 ⟨rfl, q15, f15⟩
    refine ⟨_, rfl, IfB.f rfl ((cut_calls G w15 _ _ 1 (by decide) q15).mono ?_)⟩
    rw [cutD_dead rfl]
    rintro _ w16 ⟨rfl, q16, f16⟩
    refine ⟨_, rfl, rfl, ?_⟩
    have gN : ∀ {a b : World}, Frm none_ w1 a → Frm G a b → Frm none_ w1 b := fun f g => f.trans g (fun _ _ h => h) (fun k hk h => by have := hg k h; omega)
    exact gN (gN (trN (gN (gN (gN (gN (trN (gN (trN (gN (trN f2 f3) f4) f5) f6) f9') f10) f11) f12) f13) f14) f15) f16
  rintro u c w3 ⟨rfl, f3⟩
  refine IfB.f rfl ((read_nil w3 0).mono ?_)
  rintro _ _ ⟨rfl, rfl⟩
  refine ⟨⟨none, 0, 0⟩, _, rfl, (reopen_nil w3).mono ?_⟩
  rintro _ _ ⟨rfl, rfl⟩
  refine ⟨_, _, rfl, (len_nil w3).mono ?_⟩
  rintro _ _ ⟨rfl, rfl⟩
  refine ⟨_, rfl, (writes_nil w3).mono ?_⟩
  rintro _ _ ⟨rfl, rfl⟩
  refine ⟨_, rfl, IfB.t (by decide) ((dead_nil w3).mono ?_)⟩
  rintro _ _ ⟨rfl, rfl⟩
  refine ⟨_, rfl, IfB.t rfl (IfB.t rfl (IfB.t rfl ((full_calls w3 1).mono ?_)))⟩
  rintro _ w4 ⟨t4, rfl, ht4, hb4, f4⟩
  refine ⟨t4, rfl, (write_nil w4 0 t4).mono ?_⟩
  rintro _ _ ⟨rfl, rfl⟩
  refine ⟨_, rfl, IfB.t rfl ((cut_nil w4 1).mono ?_)⟩
  rintro _ _ ⟨rfl, rfl⟩
  refine ⟨_, rfl, IfB.t rfl ((copy_nil w4).mono ?_)⟩
  rintro _ _ ⟨rfl, rfl⟩
  exact ⟨_, rfl, _, nil_eql _, rfl, trN f1 (trN f3 f4)⟩
end Go.Proofs.Ytlmnnofghimneaa

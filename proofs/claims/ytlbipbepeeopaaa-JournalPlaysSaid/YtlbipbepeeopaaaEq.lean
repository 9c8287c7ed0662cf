/- bytes.Equal; what is left of a disk whose head is 0. -/
import Derived.Test.YtlbipbepeeopaaaJq
set_option linter.unusedVariables false
set_option linter.unusedSimpArgs false
set_option maxRecDepth 20000
namespace Go.Proofs.Ytlbipbepeeopaaa
open Go Go.Proofs.YtlbipbepeeopaaaV
theorem un23 : prog.underlying 23 = some (.slice 5) := by kernel_rfl
theorem equal_calls (w : World) (s t : Sl) (a b : List UInt8) (hs : Has w s 1 (bv a)) (ht : Has w t 1 (bv b)) :
    Calls prog 40 #[.slice s.a s.l s.c, .slice t.a t.l t.c] w fun e w' => e = .returned (.bool (decide (a = b))) ∧ w = w' := by
  refine calls_ret (W40 (Q := fun v w' => v = .bool (decide (a = b)) ∧ w = w') ?_) (fun v w' ⟨h, h'⟩ => ⟨by rw [h], h'⟩)
  unfold F40
  refine runT_str un23 un5 un9 hs (runT_str un23 un5 un9 ht ⟨?_, rfl⟩)
  rw [str_toList, str_toList]
  congr 1
  by_cases h : a = b
  · simp [h]
  · simp [h]
theorem zeroB_len : zeroB.length = 256 := by simp [zeroB]
theorem left0_calls (G : Nat → Prop) (w : World) (y x : Option Addr) (d : Dk) (h : JrQ G w y x d) (hd : d.dead = false) (h0 : d.bl[1]? = some zeroB) :
    Calls prog 34 #[.pointer y] w fun e w' => e = .returned (.tuple #[.slice none 0 0, .int .i64 0]) ∧ Frm none_ w w' := by
  refine calls_ret (W34 (Q := fun v w' => v = .tuple #[.slice none 0 0, .int .i64 0] ∧ Frm none_ w w') ?_) (fun v w' ⟨h, h'⟩ => ⟨by rw [h], h'⟩)
  unfold F34
  obtain ⟨b, rfl, hB, hG, hdk⟩ := h
  refine ⟨_, rfl, x, by rw [addr_add]; exact hB.ld rfl, ?_⟩
  have hn0 : 512 ≤ d.bl.length := by obtain ⟨_, _, _, hh⟩ := hdk; exact hh.ok.n0
  have hr := read_calls G w x d 1 hdk hd (by omega)
  refine hr.mono ?_
  rintro _ w1 ⟨b', l, h1, rfl, h2, h3, h4⟩
  rw [h0] at h1
  cases h1
  refine ⟨⟨some ⟨b', 0, none⟩, 256, 256⟩, 0, rfl, IfB.f rfl ⟨_, rfl, by decide, (show (0 : Int) < ((256 : Nat) : Int) by decide), 0, by rw [addr_add]; exact h2.ld (by rw [bv_zeroB]; rfl), ?_⟩⟩
  refine ⟨fun n s i w2 => s = ⟨none, 0, 0⟩ ∧ i = 0 ∧ Frm none_ w w2 ∧ Blk w2 b' (bv zeroB).toArray 74, 0, ⟨rfl, rfl, h4, h2⟩, ?_⟩
  rintro n u s i w2 ⟨rfl, rfl, hF, hB2⟩
  refine IfB.f (by decide) ?_
  refine (entry_calls none_ w2 ⟨none, 0, 0⟩ [] ⟨rfl, fun k hk => by simp [Sl.blk] at hk, fun j hj => absurd hj (by simp)⟩ (by simp) (by simp) (fun k hk => hk.elim)).mono ?_
  rintro _ w3 ⟨t, rfl, hrow, _, hf3⟩
  refine ⟨t, rfl, ?_⟩
  have hh := (hB2.mod hf3 (fun h => h)).has 256
  have e : (bv zeroB).toArray.size = 256 := by rw [List.size_toArray, bv_length, zeroB_len]
  rw [e, List.toList_toArray] at hh
  refine (equal_calls w3 t ⟨some ⟨b', 0, none⟩, 256, 256⟩ _ zeroB hrow.has hh).mono ?_
  rintro _ _ ⟨rfl, rfl⟩
  exact ⟨_, rfl, IfB.intro (fun _ => ⟨rfl, trN hF hf3⟩) (fun _ => ⟨rfl, trN hF hf3⟩)⟩
theorem leftDead_calls (G : Nat → Prop) (w : World) (y x : Option Addr) (d : Dk) (h : JrQ G w y x d) (hd : d.dead = true) :
    Calls prog 34 #[.pointer y] w fun e w' => e = .returned (.tuple #[.slice none 0 0, .int .i64 20]) ∧ Frm none_ w w' := by
  refine calls_ret (W34 (Q := fun v w' => v = .tuple #[.slice none 0 0, .int .i64 20] ∧ Frm none_ w w') ?_) (fun v w' ⟨h, h'⟩ => ⟨by rw [h], h'⟩)
  unfold F34
  obtain ⟨b, rfl, hB, hG, hdk⟩ := h
  refine ⟨_, rfl, x, by rw [addr_add]; exact hB.ld rfl, ?_⟩
  have hr : Calls prog 35 #[.pointer x, .int .i64 1] w fun e w' => e = .returned (.tuple #[.slice none 0 0, .int .i64 20]) ∧ w = w' := by
    refine calls_ret (W35 (Q := fun v w' => v = .tuple #[.slice none 0 0, .int .i64 20] ∧ w = w') ?_) (fun v w' ⟨h, h'⟩ => ⟨by rw [h], h'⟩)
    unfold F35
    refine (lives_calls G w x d hdk).mono ?_
    rintro _ _ ⟨rfl, rfl⟩
    have e2 : livesD d = 20 := by unfold livesD; rw [hd]; rfl
    rw [e2]
    exact ⟨_, rfl, IfB.t rfl ⟨rfl, rfl⟩⟩
  refine hr.mono ?_
  rintro _ _ ⟨rfl, rfl⟩
  exact ⟨⟨none, 0, 0⟩, 20, rfl, IfB.t rfl ⟨rfl, Frm.refl _ _⟩⟩
end Go.Proofs.Ytlbipbepeeopaaa

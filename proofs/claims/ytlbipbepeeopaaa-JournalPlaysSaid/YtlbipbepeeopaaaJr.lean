/- A journal in memory; alive, plain, Read, Raw. -/
import Derived.Test.YtlbipbepeeopaaaEn
set_option linter.unusedVariables false
set_option linter.unusedSimpArgs false
set_option maxRecDepth 20000
namespace Go.Proofs.Ytlbipbepeeopaaa
open Go Go.Proofs.YtlbipbepeeopaaaV
/-- A journal over the disk x, which reads as d and lies in G. -/
def JrQ (G : Nat → Prop) (w : World) (y x : Option Addr) (d : Dk) : Prop := ∃ b, y = some ⟨b, 0, none⟩ ∧ Blk w b #[.pointer x] 67 ∧ ¬ G b ∧ DkQ G w x d
theorem JrQ.mod {G F : Nat → Prop} {w w' : World} {y x : Option Addr} {d : Dk} (h : JrQ G w y x d) (hm : Frm F w w') (hF : ∀ k, k < w.heap.size → ¬ F k) : JrQ G w' y x d := by
  obtain ⟨b, rfl, hB, hG, hd⟩ := h
  have e : Frm none_ w w' := hm.mono fun k hk hf => hF k hk hf
  exact ⟨b, rfl, hB.mod e (fun h => h), hG, hd.mod e (fun _ _ h => h)⟩
/-- The disk turned. -/
theorem JrQ.turn {G : Nat → Prop} {w w' : World} {y x : Option Addr} {d d' : Dk} (h : JrQ G w y x d) (hm : Frm G w w') (hd : DkQ G w' x d') : JrQ G w' y x d' := by
  obtain ⟨b, rfl, hB, hG, _⟩ := h
  exact ⟨b, rfl, hB.mod hm hG, hG, hd⟩
theorem JrQ.dk {G : Nat → Prop} {w : World} {y x : Option Addr} {d : Dk} (h : JrQ G w y x d) : DkQ G w x d := h.choose_spec.2.2.2
theorem some_eql32 (i b : Nat) : BinIs prog .eql 32 (.tmp i) (.const (.pointer none)) (.pointer (some ⟨b, 0, none⟩)) (.pointer none) false := fun w => by kernel_rfl
theorem nil_eql32 (i : Nat) : BinIs prog .eql 32 (.tmp i) (.const (.pointer none)) (.pointer none) (.pointer none) true := fun w => by kernel_rfl
theorem alive_calls (G : Nat → Prop) (w : World) (y x : Option Addr) (d : Dk) (h : JrQ G w y x d) : Calls prog 27 #[.pointer y] w fun e w' => e = .returned (.int .i64 (livesD d)) ∧ w = w' := by
  refine calls_ret (W27 (Q := fun v w' => v = .int .i64 (livesD d) ∧ w = w') ?_) (fun v w' ⟨h, h'⟩ => ⟨by rw [h], h'⟩)
  unfold F27
  obtain ⟨b, rfl, hB, hG, hd⟩ := h
  refine ⟨_, some_eql32 _ b, IfB.f rfl ⟨_, rfl, x, by rw [addr_add]; exact hB.ld rfl, ?_⟩⟩
  refine (dead_calls G w x d hd).mono ?_
  rintro _ _ ⟨rfl, rfl⟩
  refine ⟨_, rfl, IfB.intro (fun h => ?_) (fun h => ?_)⟩
  · exact ⟨by unfold livesD; rw [h]; rfl, rfl⟩
  · exact ⟨by unfold livesD; rw [h]; rfl, rfl⟩
def PlainI (d : Dk) (i : Int) : Prop := i = 0 ∨ (121 < i ∧ i < (d.bl.length : Int))
instance (d : Dk) (i : Int) : Decidable (PlainI d i) := by unfold PlainI; infer_instance
theorem plain_calls (G : Nat → Prop) (w : World) (y x : Option Addr) (d : Dk) (i : Int) (h : JrQ G w y x d) : Calls prog 28 #[.pointer y, .int .i64 i] w fun e w' => e = .returned (.bool (decide (PlainI d i))) ∧ w = w' := by
  refine calls_ret (W28 (Q := fun v w' => v = .bool (decide (PlainI d i)) ∧ w = w') ?_) (fun v w' ⟨h, h'⟩ => ⟨by rw [h], h'⟩)
  unfold F28
  obtain ⟨b, rfl, hB, hG, hd⟩ := h
  refine IfB.intro (fun h0 => ?_) (fun h0 => ?_)
  · have h0 := eq_of_beq h0
    exact ⟨by rw [decide_eq_true (show PlainI d i from .inl h0)], rfl⟩
  · have h0 := ne_of_beq_false h0
    refine IfB.intro (fun h1 => ?_) (fun h1 => ?_)
    · have h1 := of_decide_eq_true h1
      refine ⟨_, rfl, x, by rw [addr_add]; exact hB.ld rfl, ?_⟩
      refine (len_calls G w x d hd).mono ?_
      rintro _ _ ⟨rfl, rfl⟩
      refine ⟨_, rfl, ?_, rfl⟩
      congr 1
      apply decide_eq_decide.2
      unfold PlainI
      omega
    · have h1 := of_decide_eq_false h1
      exact ⟨by rw [decide_eq_false (show ¬ PlainI d i by unfold PlainI; omega)], rfl⟩
/-- Raw, plainly. -/
def rawD (i : Int) (b : List UInt8) (d : Dk) : Int × Dk := if d.dead then (20, d) else if ¬ PlainI d i ∨ b.length ≠ 256 then (1, d) else writeD i b d
theorem raw_calls (G : Nat → Prop) (w : World) (y x : Option Addr) (d : Dk) (i : Int) (t : Sl) (lb : List UInt8) (hi : -9223372036854775808 ≤ i ∧ i ≤ 9223372036854775807) (ht : Has w t 1 (bv lb)) (htg : ∀ k, t.blk = some k → ¬ G k) (h : JrQ G w y x d) (hwr : d.wr < 1000000) :
    Calls prog 25 #[.pointer y, .int .i64 i, .slice t.a t.l t.c] w fun e w' => e = .returned (.int .i64 (rawD i lb d).1) ∧ JrQ G w' y x (rawD i lb d).2 ∧ Frm G w w' := by
  refine calls_ret (W25 (Q := fun v w' => v = .int .i64 (rawD i lb d).1 ∧ JrQ G w' y x (rawD i lb d).2 ∧ Frm G w w') ?_) (fun v w' ⟨h, h'⟩ => ⟨by rw [h], h'⟩)
  unfold F25
  have hlt : lb.length = t.l := by have := ht.len; rw [bv_length] at this; omega
  refine (alive_calls G w y x d h).mono ?_
  rintro _ _ ⟨rfl, rfl⟩
  refine ⟨_, rfl, ?_⟩
  cases hd : d.dead with
  | true =>
    have e : rawD i lb d = (20, d) := by unfold rawD; rw [hd]; rfl
    have e2 : livesD d = 20 := by unfold livesD; rw [hd]; rfl
    rw [e, e2]
    exact IfB.t rfl ⟨rfl, h, Frm.refl _ _⟩
  | false =>
    have e2 : livesD d = 0 := by unfold livesD; rw [hd]; rfl
    rw [e2]
    refine IfB.f rfl ?_
    refine (plain_calls G w y x d i h).mono ?_
    rintro _ _ ⟨rfl, rfl⟩
    refine ⟨_, rfl, ?_⟩
    by_cases hp : PlainI d i
    · rw [decide_eq_true hp]
      refine IfB.f rfl (IfB.intro (fun h1 => ?_) (fun h1 => ?_))
      · have h1 := bne_iff_ne.1 h1
        have e : rawD i lb d = (1, d) := by unfold rawD; rw [hd]; simp only [Bool.false_eq_true, if_false]; rw [if_pos (.inr (by omega))]
        rw [e]
        exact ⟨rfl, h, Frm.refl _ _⟩
      · have h1 := bne_eq_false_iff_eq.1 h1
        have e : rawD i lb d = writeD i lb d := by unfold rawD; rw [hd]; simp only [Bool.false_eq_true, if_false]; rw [if_neg (show ¬ (¬ PlainI d i ∨ lb.length ≠ 256) from fun hh => hh.elim (fun hh => hh hp) (fun hh => hh (by omega)))]
        rw [e]
        have hj := h
        obtain ⟨b, rfl, hB, hG, hdk⟩ := h
        refine ⟨_, rfl, x, by rw [addr_add]; exact hB.ld rfl, ?_⟩
        refine (write_calls G w x d i t lb hi ht htg hdk hwr).mono ?_
        rintro _ w' ⟨rfl, h1, h2⟩
        exact ⟨_, rfl, rfl, hj.turn h2 h1, h2⟩
    · rw [decide_eq_false hp]
      have e : rawD i lb d = (1, d) := by unfold rawD; rw [hd]; simp only [Bool.false_eq_true, if_false]; rw [if_pos (.inl hp)]
      rw [e]
      exact IfB.t rfl ⟨rfl, h, Frm.refl _ _⟩
end Go.Proofs.Ytlbipbepeeopaaa

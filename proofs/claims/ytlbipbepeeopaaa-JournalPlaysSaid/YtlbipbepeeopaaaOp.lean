/- Open of a disk whose head is 0, and of a dead one. -/
import Derived.Test.YtlbipbepeeopaaaEq
set_option linter.unusedVariables false
set_option linter.unusedSimpArgs false
set_option maxRecDepth 20000
namespace Go.Proofs.Ytlbipbepeeopaaa
open Go Go.Proofs.YtlbipbepeeopaaaV
theorem b67 (x : Option Addr) : BuildIs prog 67 #[(0, .pointer x)] #[.pointer x] := fun w => by kernel_rfl
theorem open0_calls (G : Nat → Prop) (w : World) (x : Option Addr) (d : Dk) (h : DkQ G w x d) (hd : d.dead = false) (h0 : d.bl[1]? = some zeroB) (hGw : ∀ k, G k → k < w.heap.size) :
    Calls prog 14 #[.pointer x] w fun e w' => e = .returned (.tuple #[.pointer (some ⟨w.heap.size, 0, none⟩), .int .i64 0]) ∧ JrQ G w' (some ⟨w.heap.size, 0, none⟩) x d ∧ Frm none_ w w' := by
  refine calls_ret (W14 (Q := fun v w' => v = .tuple #[.pointer (some ⟨w.heap.size, 0, none⟩), .int .i64 0] ∧ JrQ G w' (some ⟨w.heap.size, 0, none⟩) x d ∧ Frm none_ w w') ?_) (fun v w' ⟨h, h'⟩ => ⟨by rw [h], h'⟩)
  unfold F14
  have hx := h
  obtain ⟨b, s, rfl, _⟩ := h
  refine ⟨_, some_eql _ b, IfB.f rfl ⟨_, b67 _, ?_⟩⟩
  intro b11 w1 hnb
  have hm1 := hnb.mod none_
  have hbe : b11 = w.heap.size := hnb.b
  subst hbe
  have hJ : JrQ G w1 (some ⟨w.heap.size, 0, none⟩) (some ⟨b, 0, none⟩) d := ⟨_, rfl, hnb.blk, fun hk => by have := hGw _ hk; omega, hx.mod hm1 (fun _ _ h => h)⟩
  refine (left0_calls G w1 _ _ d hJ hd h0).mono ?_
  rintro _ w2 ⟨rfl, hf2⟩
  refine ⟨⟨none, 0, 0⟩, 0, rfl, IfB.t rfl (IfB.f (by rfl) (IfB.f rfl ⟨rfl, hJ.mod hf2 (fun _ _ h => h), trN hm1 hf2⟩))⟩
theorem openDead_calls (G : Nat → Prop) (w : World) (x : Option Addr) (d : Dk) (h : DkQ G w x d) (hd : d.dead = true) (hGw : ∀ k, G k → k < w.heap.size) :
    Calls prog 14 #[.pointer x] w fun e w' => e = .returned (.tuple #[.pointer none, .int .i64 20]) ∧ Frm none_ w w' := by
  refine calls_ret (W14 (Q := fun v w' => v = .tuple #[.pointer none, .int .i64 20] ∧ Frm none_ w w') ?_) (fun v w' ⟨h, h'⟩ => ⟨by rw [h], h'⟩)
  unfold F14
  have hx := h
  obtain ⟨b, s, rfl, _⟩ := h
  refine ⟨_, some_eql _ b, IfB.f rfl ⟨_, b67 _, ?_⟩⟩
  intro b11 w1 hnb
  have hm1 := hnb.mod none_
  have hbe : b11 = w.heap.size := hnb.b
  subst hbe
  have hJ : JrQ G w1 (some ⟨w.heap.size, 0, none⟩) (some ⟨b, 0, none⟩) d := ⟨_, rfl, hnb.blk, fun hk => by have := hGw _ hk; omega, hx.mod hm1 (fun _ _ h => h)⟩
  refine (leftDead_calls G w1 _ _ d hJ hd).mono ?_
  rintro _ w2 ⟨rfl, hf2⟩
  exact ⟨⟨none, 0, 0⟩, 20, rfl, IfB.f rfl (IfB.t rfl ⟨rfl, trN hm1 hf2⟩)⟩
theorem openNil_calls (w : World) : Calls prog 14 #[.pointer none] w fun e w' => e = .returned (.tuple #[.pointer none, .int .i64 2]) ∧ w = w' := by
  refine calls_ret (W14 (Q := fun v w' => v = .tuple #[.pointer none, .int .i64 2] ∧ w = w') ?_) (fun v w' ⟨h, h'⟩ => ⟨by rw [h], h'⟩)
  unfold F14
  exact ⟨_, nil_eql _, IfB.t rfl ⟨rfl, rfl⟩⟩
end Go.Proofs.Ytlbipbepeeopaaa

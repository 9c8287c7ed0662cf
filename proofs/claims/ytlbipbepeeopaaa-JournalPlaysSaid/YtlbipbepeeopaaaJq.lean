/- Read of a journal. -/
import Derived.Test.YtlbipbepeeopaaaJp
set_option linter.unusedVariables false
set_option linter.unusedSimpArgs false
set_option maxRecDepth 20000
namespace Go.Proofs.Ytlbipbepeeopaaa
open Go Go.Proofs.YtlbipbepeeopaaaV
/-- What Read tells: a copy of the block, or an error. -/
def ReadIs (d : Dk) (i : Int) (w w' : World) (v : Value) : Prop :=
  (d.dead = true ∧ v = .tuple #[.slice none 0 0, .int .i64 20]) ∨ (d.dead = false ∧ ¬ PlainI d i ∧ v = .tuple #[.slice none 0 0, .int .i64 1]) ∨
  (d.dead = false ∧ PlainI d i ∧ ∃ (b : Nat) (l : List UInt8), d.bl[i.toNat]? = some l ∧ v = .tuple #[.slice (some ⟨b, 0, none⟩) 256 256, .int .i64 0] ∧ Blk w' b (bv l).toArray 74 ∧ b = w.heap.size)
theorem jread_calls (G : Nat → Prop) (w : World) (y x : Option Addr) (d : Dk) (i : Int) (h : JrQ G w y x d) : Calls prog 17 #[.pointer y, .int .i64 i] w fun e w' => ∃ v, e = .returned v ∧ ReadIs d i w w' v ∧ Frm none_ w w' := by
  refine (W17 (Q := fun v w' => ReadIs d i w w' v ∧ Frm none_ w w') ?_)
  unfold F17
  refine (alive_calls G w y x d h).mono ?_
  rintro _ _ ⟨rfl, rfl⟩
  refine ⟨_, rfl, ?_⟩
  cases hd : d.dead with
  | true =>
    have e2 : livesD d = 20 := by unfold livesD; rw [hd]; rfl
    rw [e2]
    exact IfB.t rfl ⟨.inl ⟨hd, rfl⟩, Frm.refl _ _⟩
  | false =>
    have e2 : livesD d = 0 := by unfold livesD; rw [hd]; rfl
    rw [e2]
    refine IfB.f rfl ?_
    refine (plain_calls G w y x d i h).mono ?_
    rintro _ _ ⟨rfl, rfl⟩
    refine ⟨_, rfl, ?_⟩
    by_cases hp : PlainI d i
    · rw [decide_eq_true hp]
      refine IfB.f rfl ?_
      obtain ⟨b, rfl, hB, hG, hdk⟩ := h
      refine ⟨_, rfl, x, by rw [addr_add]; exact hB.ld rfl, ?_⟩
      have hn0 : 512 ≤ d.bl.length := by obtain ⟨_, _, _, hh⟩ := hdk; exact hh.ok.n0
      have hi : 0 ≤ i ∧ i < (d.bl.length : Int) := by rcases hp with h | h <;> omega
      have hii : i = (i.toNat : Int) := by omega
      have hr := read_calls G w x d i.toNat hdk hd (by omega)
      rw [← hii] at hr
      refine hr.mono ?_
      rintro _ w' ⟨b', l, h1, rfl, h2, h3, h4⟩
      exact ⟨⟨some ⟨b', 0, none⟩, 256, 256⟩, 0, rfl, .inr (.inr ⟨hd, hp, b', l, h1, rfl, h2, h3⟩), h4⟩
    · rw [decide_eq_false hp]
      exact IfB.t rfl ⟨.inr (.inl ⟨hd, hp, rfl⟩), Frm.refl _ _⟩
end Go.Proofs.Ytlbipbepeeopaaa

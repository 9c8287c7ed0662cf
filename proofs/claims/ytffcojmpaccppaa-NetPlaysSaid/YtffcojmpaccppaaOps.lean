/- What the parameters of this layer's laws read as. -/
import Derived.Test.YtffcojmpaccppaaC2
set_option linter.unusedVariables false
namespace Go.Proofs.Ytffcojmpaccppaa
open Go Go.Proofs.YtffcojmpaccppaaV
theorem op22 (w : World) : Opens prog w 22 (fun p : Sl × List UInt8 => [.slice p.1.a p.1.l p.1.c]) (fun p => HasL w p.1 1 (fun b : UInt8 => [Value.int .u8 (b.toNat : Int)]) p.2 ∧ (∀ a ∈ p.2, True) ∧ p.1.l ≤ p.1.c ∧ p.1.c ≤ maxLen ∧ p.1.c * 1 ≤ 140737488351232) :=
  opens_slice Try.underlying22 (by kernel_rfl) (by kernel_rfl) (opens_byte Try.underlying5)
theorem op3 (w : World) : Opens prog w 3 (fun n : Int => [.int .i64 n]) (fun n => -9223372036854775808 ≤ n ∧ n ≤ 9223372036854775807) :=
  (opens_int (by kernel_rfl)).map (fun n => n) fun n h => by
    have e1 : IntKind.min .i64 = -9223372036854775808 := by decide
    have e2 : IntKind.max .i64 = 9223372036854775807 := by decide
    rw [e1, e2] at h
    exact ⟨rfl, h⟩
theorem op29 (w : World) : Opens prog w 29 (fun p : Sl × List ByteArray => [.slice p.1.a p.1.l p.1.c]) (fun p => HasL w p.1 1 (fun s : ByteArray => [Value.string s]) p.2 ∧ (∀ a ∈ p.2, a.size ≤ 140737488351232) ∧ p.1.l ≤ p.1.c ∧ p.1.c ≤ maxLen ∧ p.1.c * 16 ≤ 140737488351232) :=
  opens_slice Try.underlying29 (by kernel_rfl) (by kernel_rfl) (opens_str (by kernel_rfl))
/-- A step of a play: its kind, its number, its datagram and where that one's list lies. -/
structure Stp where
  k : Int
  n : Int
  m : Ml
  s : Sl
def sc (p : Stp) : List Value := [.int .i64 p.k, .int .i64 p.n] ++ (mc p.m p.s).toList
def OkS (w : World) (p : Stp) : Prop := (-9223372036854775808 ≤ p.n ∧ p.n ≤ 9223372036854775807) ∧ Has w p.s 1 (sv p.m.tags) ∧ OkM p.m
theorem op31 (w : World) : Opens prog w 31 (fun p : Ml × Sl => (mg p.1 p.2).toList) (fun p => Has w p.2 1 (sv p.1.tags) ∧ OkM p.1) :=
  (opens_struct Try.underlying31 (by kernel_rfl) (opensF_cons (o := 0) (sz := 1) rfl (by kernel_rfl) (opens_int (k := .u8) (by kernel_rfl)) (opensF_cons (o := 1) (sz := 1) rfl (by kernel_rfl) (op3 w) (opensF_cons (o := 2) (sz := 1) rfl (by kernel_rfl) (op3 w) (opensF_cons (o := 3) (sz := 1) rfl (by kernel_rfl) (op3 w) (opensF_cons (o := 4) (sz := 1) rfl (by kernel_rfl) (op3 w) (opensF_cons (o := 5) (sz := 1) rfl (by kernel_rfl) (op3 w) (opensF_cons (o := 6) (sz := 1) rfl (by kernel_rfl) (op3 w) (opensF_cons (o := 7) (sz := 1) rfl (by kernel_rfl) (op3 w) (opensF_cons (o := 8) (sz := 1) rfl (by kernel_rfl) (op29 w) (opensF_cons (o := 9) (sz := 1) rfl (by kernel_rfl) (opens_str (by kernel_rfl)) opensF_nil))))))))))).map
    (fun p => (⟨0, 0, p.1, p.2.1, p.2.2.1, p.2.2.2.1, p.2.2.2.2.1, p.2.2.2.2.2.1, p.2.2.2.2.2.2.1, p.2.2.2.2.2.2.2.1, p.2.2.2.2.2.2.2.2.1.2, p.2.2.2.2.2.2.2.2.2.1⟩, p.2.2.2.2.2.2.2.2.1.1)) fun p hp => by
      obtain ⟨_, _, _, _, _, _, _, _, ⟨h1, _, h2, _, h3⟩, _⟩ := hp
      have hl := h1.len
      have h4 := h1.one
      exact ⟨rfl, h4, by show _ * 16 ≤ _; simp only; omega⟩
theorem op33 (w : World) : Opens prog w 33 (fun p : Ml × Sl => (mc p.1 p.2).toList) (fun p => Has w p.2 1 (sv p.1.tags) ∧ OkM p.1) :=
  (opens_struct Try.underlying33 (by kernel_rfl) (opensF_cons (o := 0) (sz := 1) rfl (by kernel_rfl) (op3 w) (opensF_cons (o := 1) (sz := 1) rfl (by kernel_rfl) (op3 w) (opensF_cons (o := 2) (sz := 10) rfl (by kernel_rfl) (op31 w) opensF_nil)))).map
    (fun p => ({ p.2.2.1.1 with fr := p.1, to := p.2.1 }, p.2.2.1.2)) fun p hp => ⟨by simp, hp.2.2.1⟩
theorem op49 (w : World) : Opens prog w 49 sc (OkS w) :=
  (opens_struct Try.underlying49 (by kernel_rfl) (opensF_cons (o := 0) (sz := 1) rfl (by kernel_rfl) (op3 w) (opensF_cons (o := 1) (sz := 1) rfl (by kernel_rfl) (op3 w) (opensF_cons (o := 2) (sz := 12) rfl (by kernel_rfl) (op33 w) opensF_nil)))).map
    (fun p => ⟨p.1, p.2.1, p.2.2.1.1, p.2.2.1.2⟩) fun p hp => ⟨by simp [sc], hp.2.1, hp.2.2.1⟩
theorem op44 (w : World) : Opens prog w 44 (fun p : Sl × List Stp => [.slice p.1.a p.1.l p.1.c]) (fun p => HasL w p.1 14 sc p.2 ∧ (∀ a ∈ p.2, OkS w a) ∧ p.1.l ≤ p.1.c ∧ p.1.c ≤ maxLen ∧ p.1.c * 136 ≤ 140737488351232) :=
  opens_slice Try.underlying44 (by kernel_rfl) (by kernel_rfl) (op49 w)
end Go.Proofs.Ytffcojmpaccppaa

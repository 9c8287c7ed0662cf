/- What the parameters of this layer's laws read as. -/
import Derived.Test.YtmcdeldjgfapbaaLoads
set_option linter.unusedVariables false
namespace Go.Proofs.Ytmcdeldjgfapbaa
open Go Go.Proofs.YtmcdeldjgfapbaaV
theorem op22 (w : World) : Opens prog w 22 (fun p : Sl × List UInt8 => [.slice p.1.a p.1.l p.1.c]) (fun p => HasL w p.1 1 (fun b : UInt8 => [Value.int .u8 (b.toNat : Int)]) p.2 ∧ (∀ a ∈ p.2, True) ∧ p.1.l ≤ p.1.c ∧ p.1.c ≤ maxLen ∧ p.1.c * 1 ≤ 140737488351232) :=
  opens_slice Try.underlying22 (by kernel_rfl) (by kernel_rfl) (opens_byte Try.underlying5)
theorem op3 (w : World) : Opens prog w 3 (fun n : Int => [.int .i64 n]) (fun n => -9223372036854775808 ≤ n ∧ n ≤ 9223372036854775807) :=
  (opens_int (by kernel_rfl)).map (fun n => n) fun n h => by
    have e1 : IntKind.min .i64 = -9223372036854775808 := by decide
    have e2 : IntKind.max .i64 = 9223372036854775807 := by decide
    rw [e1, e2] at h
    exact ⟨rfl, h⟩
theorem op9 (w : World) : Opens prog w 9 (fun s : ByteArray => [.string s]) (fun s => s.size ≤ 140737488351232) := opens_str (by kernel_rfl)
theorem op31 (w : World) : Opens prog w 31 (fun p : Sl × List ByteArray => [.slice p.1.a p.1.l p.1.c]) (fun p => HasL w p.1 1 (fun s : ByteArray => [Value.string s]) p.2 ∧ (∀ a ∈ p.2, a.size ≤ 140737488351232) ∧ p.1.l ≤ p.1.c ∧ p.1.c ≤ maxLen ∧ p.1.c * 16 ≤ 140737488351232) :=
  opens_slice Try.underlying31 (by kernel_rfl) (by kernel_rfl) (op9 w)
theorem op39 (w : World) : Opens prog w 39 (fun p : Sl × List Int => [.slice p.1.a p.1.l p.1.c]) (fun p => HasL w p.1 1 (fun n : Int => [Value.int .i64 n]) p.2 ∧ (∀ a ∈ p.2, -9223372036854775808 ≤ a ∧ a ≤ 9223372036854775807) ∧ p.1.l ≤ p.1.c ∧ p.1.c ≤ maxLen ∧ p.1.c * 8 ≤ 140737488351232) :=
  opens_slice (by kernel_rfl) (by kernel_rfl) (by kernel_rfl) (op3 w)
end Go.Proofs.Ytmcdeldjgfapbaa

/- What the parameters of this layer's laws read as. -/
import Derived.Test.YtmkennapbebbmaaLays
set_option linter.unusedVariables false
namespace Go.Proofs.Ytmkennapbebbmaa
open Go Go.Proofs.YtmkennapbebbmaaV
theorem op22 (w : World) : Opens prog w 22 (fun p : Sl × List UInt8 => [.slice p.1.a p.1.l p.1.c]) (fun p => HasL w p.1 1 (fun b : UInt8 => [Value.int .u8 (b.toNat : Int)]) p.2 ∧ (∀ a ∈ p.2, True) ∧ p.1.l ≤ p.1.c ∧ p.1.c ≤ maxLen ∧ p.1.c * 1 ≤ 140737488351232) :=
  opens_slice Try.underlying22 (by kernel_rfl) (by kernel_rfl) (opens_byte Try.underlying5)
theorem op28 (w : World) : Opens prog w 28 tc OkT :=
  (opens_struct Try.underlying28 (by kernel_rfl) (opensF_cons (o := 0) (sz := 1) rfl (by kernel_rfl) (opens_int Try.underlying5) (opensF_cons (o := 1) (sz := 1) rfl (by kernel_rfl) (opens_int Try.underlying2) (opensF_cons (o := 2) (sz := 1) rfl (by kernel_rfl) (opens_str Try.underlying9) opensF_nil)))).map
    (fun p => Th.mk p.1 p.2.1 p.2.2.1) fun p ⟨h1, h2, h3, _⟩ => by
      have e1 : IntKind.min .i64 = -9223372036854775808 := by decide
      have e2 : IntKind.max .i64 = 9223372036854775807 := by decide
      have e3 : IntKind.min .u8 = 0 := by decide
      rw [e1, e2] at h2
      rw [e3] at h1
      exact ⟨rfl, h2.1, h2.2, h3, h1.1⟩
theorem op23 (w : World) : Opens prog w 23 (fun p : Sl × List Th => [.slice p.1.a p.1.l p.1.c]) (fun p => HasL w p.1 3 tc p.2 ∧ (∀ a ∈ p.2, OkT a) ∧ p.1.l ≤ p.1.c ∧ p.1.c ≤ maxLen ∧ p.1.c * 32 ≤ 140737488351232) :=
  opens_slice Try.underlying23 (by kernel_rfl) (by kernel_rfl) (op28 w)
theorem lays_law (W : World) (b : Sl) (lb : List UInt8) (hb : HasL W b 1 (fun b : UInt8 => [Value.int .u8 (b.toNat : Int)]) lb ∧ (∀ a ∈ lb, True) ∧ b.l ≤ b.c ∧ b.c ≤ maxLen ∧ b.c * 1 ≤ 140737488351232)
    (s : Sl) (l : List Th) (hl : HasL W s 3 tc l ∧ (∀ a ∈ l, OkT a) ∧ s.l ≤ s.c ∧ s.c ≤ maxLen ∧ s.c * 32 ≤ 140737488351232) :
    Calls prog 3 #[.slice b.a b.l b.c, .slice s.a s.l s.c] W fun e w' => e = .returned (.bool true) ∧ Frm none_ W w' :=
  lays_calls W b lb s l hb.1.bytes hl.1 hl.2.1 (by omega)
end Go.Proofs.Ytmkennapbebbmaa

/- What the parameters of this layer's laws read as. -/
import Derived.Test.YtlmnnofghimneaaCut
set_option linter.unusedVariables false
namespace Go.Proofs.Ytlmnnofghimneaa
open Go Go.Proofs.YtlmnnofghimneaaV
theorem op3 (w : World) : Opens prog w 3 (fun n : Int => [.int .i64 n]) (fun n => -9223372036854775808 ≤ n ∧ n ≤ 9223372036854775807) :=
  (opens_int (by kernel_rfl)).map (fun n => n) fun n h => by
    have e1 : IntKind.min .i64 = -9223372036854775808 := by decide
    have e2 : IntKind.max .i64 = 9223372036854775807 := by decide
    rw [e1, e2] at h
    exact ⟨rfl, h⟩
theorem op22 (w : World) : Opens prog w 22 (fun p : Sl × List Int => [.slice p.1.a p.1.l p.1.c]) (fun p => HasL w p.1 1 (fun n : Int => [Value.int .i64 n]) p.2 ∧ (∀ a ∈ p.2, -9223372036854775808 ≤ a ∧ a ≤ 9223372036854775807) ∧ p.1.l ≤ p.1.c ∧ p.1.c ≤ maxLen ∧ p.1.c * 8 ≤ 140737488351232) :=
  opens_slice (by kernel_rfl) (by kernel_rfl) (by kernel_rfl) (op3 w)
theorem cut_law (W : World) (s : Sl) (l : List Int) (hl : HasL W s 1 (fun n : Int => [Value.int .i64 n]) l ∧ (∀ a ∈ l, -9223372036854775808 ≤ a ∧ a ≤ 9223372036854775807) ∧ s.l ≤ s.c ∧ s.c ≤ maxLen ∧ s.c * 8 ≤ 140737488351232) (n : Int) (hn : -9223372036854775808 ≤ n ∧ n ≤ 9223372036854775807) :
    Calls prog 3 #[.slice s.a s.l s.c, .int .i64 n] W fun e w' => e = .returned (.bool true) ∧ Frm none_ W w' := cut_law_calls W s l n hl.1.one
end Go.Proofs.Ytlmnnofghimneaa

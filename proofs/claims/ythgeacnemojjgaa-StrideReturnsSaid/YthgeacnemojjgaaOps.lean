/- What the parameters of this layer's laws read as. -/
import Derived.Test.YthgeacnemojjgaaLoads
set_option linter.unusedVariables false
set_option maxRecDepth 20000
namespace Go.Proofs.Ythgeacnemojjgaa
open Go Go.Proofs.YthgeacnemojjgaaV
theorem op31 (w : World) : Opens prog w 31 (fun p : Sl × List UInt8 => [.slice p.1.a p.1.l p.1.c]) (fun p => HasL w p.1 1 (fun b : UInt8 => [Value.int .u8 (b.toNat : Int)]) p.2 ∧ (∀ a ∈ p.2, True) ∧ p.1.l ≤ p.1.c ∧ p.1.c ≤ maxLen ∧ p.1.c * 1 ≤ 140737488351232) :=
  opens_slice Try.underlying31 (by kernel_rfl) (by kernel_rfl) (opens_byte Try.underlying5)
theorem op3 (w : World) : Opens prog w 3 (fun n : Int => [.int .i64 n]) (fun n => -9223372036854775808 ≤ n ∧ n ≤ 9223372036854775807) :=
  (opens_int (by kernel_rfl)).map (fun n => n) fun n h => by
    have e1 : IntKind.min .i64 = -9223372036854775808 := by decide
    have e2 : IntKind.max .i64 = 9223372036854775807 := by decide
    rw [e1, e2] at h
    exact ⟨rfl, h⟩
theorem op9 (w : World) : Opens prog w 9 (fun s : ByteArray => [.string s]) (fun s => s.size ≤ 140737488351232) := opens_str (by kernel_rfl)
theorem op28 (w : World) : Opens prog w 28 (fun p : Sl × List ByteArray => [.slice p.1.a p.1.l p.1.c]) (fun p => HasL w p.1 1 (fun s : ByteArray => [Value.string s]) p.2 ∧ (∀ a ∈ p.2, a.size ≤ 140737488351232) ∧ p.1.l ≤ p.1.c ∧ p.1.c ≤ maxLen ∧ p.1.c * 16 ≤ 140737488351232) :=
  opens_slice Try.underlying28 (by kernel_rfl) (by kernel_rfl) (op9 w)
theorem op59 (w : World) : Opens prog w 59 (fun p : Sl × List Int => [.slice p.1.a p.1.l p.1.c]) (fun p => HasL w p.1 1 (fun n : Int => [Value.int .i64 n]) p.2 ∧ (∀ a ∈ p.2, -9223372036854775808 ≤ a ∧ a ≤ 9223372036854775807) ∧ p.1.l ≤ p.1.c ∧ p.1.c ≤ maxLen ∧ p.1.c * 8 ≤ 140737488351232) :=
  opens_slice (e := 3) (by kernel_rfl) (by kernel_rfl) (by kernel_rfl) (op3 w)
/-- A step. -/
structure Stp where
  k : Int
  n : Int
  s : ByteArray
  l : Sl
  ns : List ByteArray
def stc (p : Stp) : List Value := [.int .i64 p.k, .int .i64 p.n, .string p.s, .slice p.l.a p.l.l p.l.c]
structure OkS (w : World) (p : Stp) : Prop where
  n0 : -9223372036854775808 ≤ p.n
  n1 : p.n ≤ 9223372036854775807
  has : HasL w p.l 1 (fun s : ByteArray => [Value.string s]) p.ns
  lc : p.l.l ≤ p.l.c
  big : p.l.c * 16 ≤ 140737488351232
theorem op45 (w : World) : Opens prog w 45 stc (OkS w) :=
  (opens_struct Try.underlying45 (by kernel_rfl) (opensF_cons (o := 0) (sz := 1) rfl (by kernel_rfl) (op3 w) (opensF_cons (o := 1) (sz := 1) rfl (by kernel_rfl) (op3 w) (opensF_cons (o := 2) (sz := 1) rfl (by kernel_rfl) (op9 w) (opensF_cons (o := 3) (sz := 1) rfl (by kernel_rfl) (op28 w) opensF_nil))))).map
    (fun p => ⟨p.1, p.2.1, p.2.2.1, p.2.2.2.1.1, p.2.2.2.1.2⟩) fun p hp => ⟨by simp [stc], hp.2.1.1, hp.2.1.2, hp.2.2.2.1.1, hp.2.2.2.1.2.2.1, hp.2.2.2.1.2.2.2.2⟩
theorem op38 (w : World) : Opens prog w 38 (fun p : Sl × List Stp => [.slice p.1.a p.1.l p.1.c]) (fun p => HasL w p.1 4 stc p.2 ∧ (∀ a ∈ p.2, OkS w a) ∧ p.1.l ≤ p.1.c ∧ p.1.c ≤ maxLen ∧ p.1.c * 56 ≤ 140737488351232) :=
  opens_slice Try.underlying38 (by kernel_rfl) (by kernel_rfl) (op45 w)
abbrev ArgS (W : World) (s : Sl) (l : List Stp) : Prop := HasL W s 4 stc l ∧ (∀ a ∈ l, OkS W a) ∧ s.l ≤ s.c ∧ s.c ≤ maxLen ∧ s.c * 56 ≤ 140737488351232
end Go.Proofs.Ythgeacnemojjgaa

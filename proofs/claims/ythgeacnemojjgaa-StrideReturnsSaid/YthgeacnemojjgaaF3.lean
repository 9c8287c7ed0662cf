/-  YthgeacnemojjgaaF3: weakest preconditions of functions, by wip/gen/gen.py; each is held against the machine's code by the kernel. -/
import Derived.Test.YthgeacnemojjgaaV
import Derived.Test.YthgeacnemojjgaaProg
import Derived.Test.YthgeacnemojjgaaGood
import Derived.KernelRfl
set_option linter.unusedVariables false
set_option maxRecDepth 1000000
namespace Go.Proofs.Ythgeacnemojjgaa
open Go Go.Proofs.YthgeacnemojjgaaV

/-- slices.Insert[[]*bastion/stride.project,*bastion/stride.project] -/
def F46 (x0 : Sl) (x1 : Int) (x2 : Sl) (w : World) (Q : Value → World → Prop) : Prop :=
 (0 ≤ x1 ∧ x1 ≤ ((x0.l : Nat) : Int)) ∧
 IfB (((x2.l : Nat) : Int) == (0 : Int))
 (Q (.slice x0.a x0.l x0.c) w)
 (IfB (x1 == ((x0.l : Nat) : Int))
 (RunT prog .slice (Builtin.append_ #[71, 71] 71 #[.slice x0.a x0.l x0.c, .slice x2.a x2.l x2.c]) w fun (t25 : Sl) w1 =>
 Q (.slice t25.a t25.l t25.c) w1)
 (RunT prog (.int .i64) (Builtin.cap_ #[71] 3 #[.slice x0.a x0.l x0.c]) w fun (t30 : Int) w1 =>
 IfB (decide (IntKind.wrap .i64 (((x0.l : Nat) : Int) + ((x2.l : Nat) : Int)) > t30))
 ((0 ≤ x1 ∧ x1 ≤ ((x0.c : Nat) : Int)) ∧
 RunT prog .slice (Builtin.append_ #[71, 3] 71 #[.slice (slA x0.a 0 x0.c 1) ((x1).toNat - 0) (x0.c - 0), .int .i64 (IntKind.wrap .i64 ((IntKind.wrap .i64 (((x0.l : Nat) : Int) + ((x2.l : Nat) : Int))) - x1))]) w1 fun (t40 : Sl) w1_1 =>
 (0 ≤ x1 ∧ x1 ≤ ((t40.l : Nat) : Int)) ∧
 RunT prog (.int .i64) (Builtin.copy_ #[71, 71] 3 #[.slice (slA t40.a ((x1).toNat) t40.c 1) (t40.l - ((x1).toNat)) (t40.c - ((x1).toNat)), .slice x2.a x2.l x2.c]) w1_1 fun (t45 : Int) w1_2 =>
 (0 ≤ IntKind.wrap .i64 (x1 + ((x2.l : Nat) : Int)) ∧ IntKind.wrap .i64 (x1 + ((x2.l : Nat) : Int)) ≤ ((t40.l : Nat) : Int)) ∧
 (0 ≤ x1 ∧ x1 ≤ ((x0.l : Nat) : Int)) ∧
 RunT prog (.int .i64) (Builtin.copy_ #[71, 71] 3 #[.slice (slA t40.a ((IntKind.wrap .i64 (x1 + ((x2.l : Nat) : Int))).toNat) t40.c 1) (t40.l - ((IntKind.wrap .i64 (x1 + ((x2.l : Nat) : Int))).toNat)) (t40.c - ((IntKind.wrap .i64 (x1 + ((x2.l : Nat) : Int))).toNat)), .slice (slA x0.a ((x1).toNat) x0.c 1) (x0.l - ((x1).toNat)) (x0.c - ((x1).toNat))]) w1_2.drew fun (t54 : Int) w1_3 =>
 Q (.slice t40.a t40.l t40.c) w1_3)
 ((0 ≤ IntKind.wrap .i64 (((x0.l : Nat) : Int) + ((x2.l : Nat) : Int)) ∧ IntKind.wrap .i64 (((x0.l : Nat) : Int) + ((x2.l : Nat) : Int)) ≤ ((x0.c : Nat) : Int)) ∧
 (0 ≤ IntKind.wrap .i64 (x1 + ((x2.l : Nat) : Int)) ∧ IntKind.wrap .i64 (x1 + ((x2.l : Nat) : Int)) ≤ (((IntKind.wrap .i64 (((x0.l : Nat) : Int) + ((x2.l : Nat) : Int))).toNat - 0 : Nat) : Int)) ∧
 RunN prog (callFunc 77 #[.slice x2.a x2.l x2.c, .slice (slA (slA x0.a 0 x0.c 1) ((IntKind.wrap .i64 (x1 + ((x2.l : Nat) : Int))).toNat) (x0.c - 0) 1) ((IntKind.wrap .i64 (((x0.l : Nat) : Int) + ((x2.l : Nat) : Int))).toNat - 0 - ((IntKind.wrap .i64 (x1 + ((x2.l : Nat) : Int))).toNat)) (x0.c - 0 - ((IntKind.wrap .i64 (x1 + ((x2.l : Nat) : Int))).toNat))]) w1 fun v67 w1_1 =>
 ∃ t67 : Bool, v67 = (.bool t67) ∧
 IfB (!t67)
 ((0 ≤ IntKind.wrap .i64 (x1 + ((x2.l : Nat) : Int)) ∧ IntKind.wrap .i64 (x1 + ((x2.l : Nat) : Int)) ≤ (((IntKind.wrap .i64 (((x0.l : Nat) : Int) + ((x2.l : Nat) : Int))).toNat - 0 : Nat) : Int)) ∧
 (0 ≤ x1 ∧ x1 ≤ (((IntKind.wrap .i64 (((x0.l : Nat) : Int) + ((x2.l : Nat) : Int))).toNat - 0 : Nat) : Int)) ∧
 RunT prog (.int .i64) (Builtin.copy_ #[71, 71] 3 #[.slice (slA (slA x0.a 0 x0.c 1) ((IntKind.wrap .i64 (x1 + ((x2.l : Nat) : Int))).toNat) (x0.c - 0) 1) ((IntKind.wrap .i64 (((x0.l : Nat) : Int) + ((x2.l : Nat) : Int))).toNat - 0 - ((IntKind.wrap .i64 (x1 + ((x2.l : Nat) : Int))).toNat)) (x0.c - 0 - ((IntKind.wrap .i64 (x1 + ((x2.l : Nat) : Int))).toNat)), .slice (slA (slA x0.a 0 x0.c 1) ((x1).toNat) (x0.c - 0) 1) ((IntKind.wrap .i64 (((x0.l : Nat) : Int) + ((x2.l : Nat) : Int))).toNat - 0 - ((x1).toNat)) (x0.c - 0 - ((x1).toNat))]) w1_1.drew fun (t77 : Int) w1_2 =>
 (0 ≤ x1 ∧ x1 ≤ (((IntKind.wrap .i64 (((x0.l : Nat) : Int) + ((x2.l : Nat) : Int))).toNat - 0 : Nat) : Int)) ∧
 RunT prog (.int .i64) (Builtin.copy_ #[71, 71] 3 #[.slice (slA (slA x0.a 0 x0.c 1) ((x1).toNat) (x0.c - 0) 1) ((IntKind.wrap .i64 (((x0.l : Nat) : Int) + ((x2.l : Nat) : Int))).toNat - 0 - ((x1).toNat)) (x0.c - 0 - ((x1).toNat)), .slice x2.a x2.l x2.c]) w1_2 fun (t82 : Int) w1_3 =>
 Q (.slice (slA x0.a 0 x0.c 1) ((IntKind.wrap .i64 (((x0.l : Nat) : Int) + ((x2.l : Nat) : Int))).toNat - 0) (x0.c - 0)) w1_3)
 ((0 ≤ ((x0.l : Nat) : Int) ∧ ((x0.l : Nat) : Int) ≤ (((IntKind.wrap .i64 (((x0.l : Nat) : Int) + ((x2.l : Nat) : Int))).toNat - 0 : Nat) : Int)) ∧
 RunT prog (.int .i64) (Builtin.copy_ #[71, 71] 3 #[.slice (slA (slA x0.a 0 x0.c 1) ((((x0.l : Nat) : Int)).toNat) (x0.c - 0) 1) ((IntKind.wrap .i64 (((x0.l : Nat) : Int) + ((x2.l : Nat) : Int))).toNat - 0 - ((((x0.l : Nat) : Int)).toNat)) (x0.c - 0 - ((((x0.l : Nat) : Int)).toNat)), .slice x2.a x2.l x2.c]) w1_1 fun (t88 : Int) w1_2 =>
 (0 ≤ x1 ∧ x1 ≤ (((IntKind.wrap .i64 (((x0.l : Nat) : Int) + ((x2.l : Nat) : Int))).toNat - 0 : Nat) : Int)) ∧
 Calls prog 78 #[.slice (slA (slA x0.a 0 x0.c 1) ((x1).toNat) (x0.c - 0) 1) ((IntKind.wrap .i64 (((x0.l : Nat) : Int) + ((x2.l : Nat) : Int))).toNat - 0 - ((x1).toNat)) (x0.c - 0 - ((x1).toNat)), .int .i64 ((x2.l : Nat) : Int)] w1_2 fun en w1_3 =>
 en = .returned (.tuple #[]) ∧
 Q (.slice (slA x0.a 0 x0.c 1) ((IntKind.wrap .i64 (((x0.l : Nat) : Int) + ((x2.l : Nat) : Int))).toNat - 0) (x0.c - 0)) w1_3))))
def an46 : Ann := { cut := fun i => none, loop := fun i => [] }
theorem eq46 (x0 : Sl) (x1 : Int) (x2 : Sl) (w : World) (Q : Value → World → Prop) : F46 x0 x1 x2 w Q = vc prog an46 (Try.f46.body.getD .skip) (envOf [.slice x0.a x0.l x0.c, .int .i64 x1, .slice x2.a x2.l x2.c]) w (retK prog Try.f46 Q) := by kernel_rfl
theorem ok46 : codeOk Try.f46.ntmps (Try.f46.body.getD .skip) = true := by kernel_rfl
theorem W46 {x0 : Sl} {x1 : Int} {x2 : Sl} {w : World} {Q : Value → World → Prop} (h : F46 x0 x1 x2 w Q) : Calls prog 46 #[.slice x0.a x0.l x0.c, .int .i64 x1, .slice x2.a x2.l x2.c] w fun en w' => ∃ v, en = .returned v ∧ Q v w' :=
  calls_of_vc good follows an46 (args := [.slice x0.a x0.l x0.c, .int .i64 x1, .slice x2.a x2.l x2.c]) Try.func46 (by kernel_rfl) ok46 (of_decide_eq_true (by kernel_rfl)) (Eq.mp (eq46 x0 x1 x2 w Q) h)
end Go.Proofs.Ythgeacnemojjgaa

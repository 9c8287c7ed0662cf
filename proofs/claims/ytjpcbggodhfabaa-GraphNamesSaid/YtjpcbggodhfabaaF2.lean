/-  YtjpcbggodhfabaaF2: weakest preconditions of functions, by wip/gen/gen.py; each is held against the machine's code by the kernel. -/
import Derived.Test.YtjpcbggodhfabaaV
import Derived.Test.YtjpcbggodhfabaaProg
import Derived.Test.YtjpcbggodhfabaaGood
import Derived.KernelRfl
set_option linter.unusedVariables false
set_option maxRecDepth 1000000
namespace Go.Proofs.Ytjpcbggodhfabaa
open Go Go.Proofs.YtjpcbggodhfabaaV

/-- (sort.IntSlice).Less -/
def F55 (x0 : Sl) (x1 : Int) (x2 : Int) (w : World) (Q : Value → World → Prop) : Prop :=
 ∃ p9, x0.a = some p9 ∧ 0 ≤ x1 ∧ x1 < ((x0.l : Nat) : Int) ∧
 ∃ t10 : Int, Ld w.drew (p9.add ((x1).toNat * 1)) (.int .i64 t10) ∧
 ∃ p13, x0.a = some p13 ∧ 0 ≤ x2 ∧ x2 < ((x0.l : Nat) : Int) ∧
 ∃ t14 : Int, Ld w.drew (p13.add ((x2).toNat * 1)) (.int .i64 t14) ∧
 Q (.bool (decide (t10 < t14))) w.drew
def an55 : Ann := { cut := fun i => none, loop := fun i => [] }
theorem eq55 (x0 : Sl) (x1 : Int) (x2 : Int) (w : World) (Q : Value → World → Prop) : F55 x0 x1 x2 w Q = vc prog an55 (Try.f55.body.getD .skip) (envOf [.slice x0.a x0.l x0.c, .int .i64 x1, .int .i64 x2]) w (retK prog Try.f55 Q) := by kernel_rfl
theorem ok55 : codeOk Try.f55.ntmps (Try.f55.body.getD .skip) = true := by kernel_rfl
theorem W55 {x0 : Sl} {x1 : Int} {x2 : Int} {w : World} {Q : Value → World → Prop} (h : F55 x0 x1 x2 w Q) : Calls prog 55 #[.slice x0.a x0.l x0.c, .int .i64 x1, .int .i64 x2] w fun en w' => ∃ v, en = .returned v ∧ Q v w' :=
  calls_of_vc good follows an55 (args := [.slice x0.a x0.l x0.c, .int .i64 x1, .int .i64 x2]) Try.func55 (by kernel_rfl) ok55 (of_decide_eq_true (by kernel_rfl)) (Eq.mp (eq55 x0 x1 x2 w Q) h)

/-- (*bastion/graph.least).Pop -/
def F56 (x0 : Option Addr) (w : World) (Q : Value → World → Prop) : Prop :=
 ∃ p6, x0 = some p6 ∧
 ∃ t8 : Sl, Ld w (p6.add 0) (.slice t8.a t8.l t8.c) ∧
 ∃ p12, x0 = some p12 ∧
 ∃ t14 : Sl, Ld w (p12.add 0) (.slice t14.a t14.l t14.c) ∧
 ∃ p16, t14.a = some p16 ∧ 0 ≤ IntKind.wrap .i64 (((t8.l : Nat) : Int) - (1 : Int)) ∧ IntKind.wrap .i64 (((t8.l : Nat) : Int) - (1 : Int)) < ((t14.l : Nat) : Int) ∧
 ∃ t17 : Int, Ld w (p16.add ((IntKind.wrap .i64 (((t8.l : Nat) : Int) - (1 : Int))).toNat * 1)) (.int .i64 t17) ∧
 ∃ p20, x0 = some p20 ∧
 ∃ t22 : Sl, Ld w (p20.add 0) (.slice t22.a t22.l t22.c) ∧
 (0 ≤ IntKind.wrap .i64 (((t8.l : Nat) : Int) - (1 : Int)) ∧ IntKind.wrap .i64 (((t8.l : Nat) : Int) - (1 : Int)) ≤ ((t22.c : Nat) : Int)) ∧
 ∃ p25, x0 = some p25 ∧
 Wr w (p25.add 0) ∧ ∀ w1, w1 = w.setCell (p25.add 0) (.slice (slA t22.a 0 t22.c 1) ((IntKind.wrap .i64 (((t8.l : Nat) : Int) - (1 : Int))).toNat - 0) (t22.c - 0)) →
 RunT prog .val (Instr.makeInterface 3 (.int .i64 t17)) w1 fun (t28 : Value) w1_1 =>
 Q t28 w1_1
def an56 : Ann := { cut := fun i => none, loop := fun i => [] }
theorem eq56 (x0 : Option Addr) (w : World) (Q : Value → World → Prop) : F56 x0 w Q = vc prog an56 (Try.f56.body.getD .skip) (envOf [.pointer x0]) w (retK prog Try.f56 Q) := by kernel_rfl
theorem ok56 : codeOk Try.f56.ntmps (Try.f56.body.getD .skip) = true := by kernel_rfl
theorem W56 {x0 : Option Addr} {w : World} {Q : Value → World → Prop} (h : F56 x0 w Q) : Calls prog 56 #[.pointer x0] w fun en w' => ∃ v, en = .returned v ∧ Q v w' :=
  calls_of_vc good follows an56 (args := [.pointer x0]) Try.func56 (by kernel_rfl) ok56 (of_decide_eq_true (by kernel_rfl)) (Eq.mp (eq56 x0 w Q) h)

/-- (*bastion/graph.least).Push -/
def F57 (x0 : Option Addr) (x1 : Value) (w : World) (Q : Value → World → Prop) : Prop :=
 ∃ S : World → Prop, S w.drew ∧
 ∃ p6, x0 = some p6 ∧
 ∃ t8 : Sl, (∀ w', S w' → Ld w' (p6.add 0) (.slice t8.a t8.l t8.c)) ∧
 RunT prog .val (Instr.typeAssert x1 20 3 false) w.drew fun (v10 : Value) w1 =>
 ∃ t10 : Int, v10 = (.int .i64 t10) ∧
 S w1 ∧
 RunT prog .slice (Instr.buildSlice 37 1 #[(0, .int .i64 t10)]) w1 fun (t11 : Sl) w1_1 =>
 S w1_1 ∧
 RunT prog .slice (Builtin.append_ #[37, 37] 37 #[.slice t8.a t8.l t8.c, .slice t11.a t11.l t11.c]) w1_1 fun (t12 : Sl) w1_2 =>
 ∃ p13, x0 = some p13 ∧
 Wr w1_2 (p13.add 0) ∧ ∀ w1_3, w1_3 = w1_2.setCell (p13.add 0) (.slice t12.a t12.l t12.c) →
 Q (.tuple #[]) w1_3
def an57 : Ann := { cut := fun i => none, loop := fun i => [] }
theorem eq57 (x0 : Option Addr) (x1 : Value) (w : World) (Q : Value → World → Prop) : F57 x0 x1 w Q = vc prog an57 (Try.f57.body.getD .skip) (envOf [.pointer x0, x1]) w (retK prog Try.f57 Q) := by kernel_rfl
theorem ok57 : codeOk Try.f57.ntmps (Try.f57.body.getD .skip) = true := by kernel_rfl
theorem W57 {x0 : Option Addr} {x1 : Value} {w : World} {Q : Value → World → Prop} (h : F57 x0 x1 w Q) : Calls prog 57 #[.pointer x0, x1] w fun en w' => ∃ v, en = .returned v ∧ Q v w' :=
  calls_of_vc good follows an57 (args := [.pointer x0, x1]) Try.func57 (by kernel_rfl) ok57 (of_decide_eq_true (by kernel_rfl)) (Eq.mp (eq57 x0 x1 w Q) h)

/-- (sort.IntSlice).Swap -/
def F59 (x0 : Sl) (x1 : Int) (x2 : Int) (w : World) (Q : Value → World → Prop) : Prop :=
 ∃ S : World → Prop, S w.drew ∧
 ∃ p12, x0.a = some p12 ∧ 0 ≤ x2 ∧ x2 < ((x0.l : Nat) : Int) ∧
 ∃ t13 : Int, (∀ w', S w' → Ld w' (p12.add ((x2).toNat * 1)) (.int .i64 t13)) ∧
 ∃ p16, x0.a = some p16 ∧ 0 ≤ x1 ∧ x1 < ((x0.l : Nat) : Int) ∧
 ∃ t17 : Int, (∀ w', S w' → Ld w' (p16.add ((x1).toNat * 1)) (.int .i64 t17)) ∧
 ∃ p18, x0.a = some p18 ∧ 0 ≤ x1 ∧ x1 < ((x0.l : Nat) : Int) ∧
 Wr w.drew (p18.add ((x1).toNat * 1)) ∧ ∀ w1, w1 = w.drew.setCell (p18.add ((x1).toNat * 1)) (.int .i64 t13) →
 ∃ p19, x0.a = some p19 ∧ 0 ≤ x2 ∧ x2 < ((x0.l : Nat) : Int) ∧
 Wr w1 (p19.add ((x2).toNat * 1)) ∧ ∀ w1_1, w1_1 = w1.setCell (p19.add ((x2).toNat * 1)) (.int .i64 t17) →
 Q (.tuple #[]) w1_1
def an59 : Ann := { cut := fun i => none, loop := fun i => [] }
theorem eq59 (x0 : Sl) (x1 : Int) (x2 : Int) (w : World) (Q : Value → World → Prop) : F59 x0 x1 x2 w Q = vc prog an59 (Try.f59.body.getD .skip) (envOf [.slice x0.a x0.l x0.c, .int .i64 x1, .int .i64 x2]) w (retK prog Try.f59 Q) := by kernel_rfl
theorem ok59 : codeOk Try.f59.ntmps (Try.f59.body.getD .skip) = true := by kernel_rfl
theorem W59 {x0 : Sl} {x1 : Int} {x2 : Int} {w : World} {Q : Value → World → Prop} (h : F59 x0 x1 x2 w Q) : Calls prog 59 #[.slice x0.a x0.l x0.c, .int .i64 x1, .int .i64 x2] w fun en w' => ∃ v, en = .returned v ∧ Q v w' :=
  calls_of_vc good follows an59 (args := [.slice x0.a x0.l x0.c, .int .i64 x1, .int .i64 x2]) Try.func59 (by kernel_rfl) ok59 (of_decide_eq_true (by kernel_rfl)) (Eq.mp (eq59 x0 x1 x2 w Q) h)
end Go.Proofs.Ytjpcbggodhfabaa

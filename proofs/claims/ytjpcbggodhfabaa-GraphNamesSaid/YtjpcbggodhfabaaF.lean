/-  YtjpcbggodhfabaaF: weakest preconditions of functions, by wip/gen/gen.py; each is held against the machine's code by the kernel. -/
import Derived.Test.YtjpcbggodhfabaaV
import Derived.Test.YtjpcbggodhfabaaProg
import Derived.Test.YtjpcbggodhfabaaGood
import Derived.KernelRfl
set_option linter.unusedVariables false
set_option maxRecDepth 1000000
namespace Go.Proofs.Ytjpcbggodhfabaa
open Go Go.Proofs.YtjpcbggodhfabaaV

/-- bastion/bastionlaw15.GraphRests -/
def F3 (x0 : Sl) (x1 : Int) (w : World) (Q : Value → World → Prop) : Prop :=
 Calls prog 9 #[.slice x0.a x0.l x0.c, .int .i64 20] w fun en w1 =>
 ∃ t11 : Bool, en = .returned (.bool t11) ∧
 IfB t11
 (Q (.bool true) w1)
 (Calls prog 10 #[.slice x0.a x0.l x0.c] w1 fun en w1_1 =>
 ∃ t13 : Sl, en = .returned (.slice t13.a t13.l t13.c) ∧
 Calls prog 11 #[.slice t13.a t13.l t13.c, .int .i64 x1] w1_1 fun en w1_2 =>
 ∃ t17a : Sl, ∃ t17b : Int, en = .returned (.tuple #[.slice t17a.a t17a.l t17a.c, .int .i64 t17b]) ∧
 Calls prog 12 #[.slice t13.a t13.l t13.c, .int .i64 x1] w1_2 fun en w1_3 =>
 ∃ t23a : Sl, ∃ t23b : Int, en = .returned (.tuple #[.slice t23a.a t23a.l t23a.c, .int .i64 t23b]) ∧
 ∃ J : Bool → World → Prop, (Calls prog 13 #[.slice x0.a x0.l x0.c] w1_3 fun en w1_4 =>
 ∃ t27 : Bool, en = .returned (.bool t27) ∧
 IfB (!t27)
 (J true w1_4)
 (IfB (decide (x1 < (0 : Int)))
 (J true w1_4)
 (J (decide (x1 ≥ ((x0.l : Nat) : Int))) w1_4))) ∧
 (∀ (u : Env) (x38 : Bool) (w1_4 : World), J x38 w1_4 →
 IfB x38
 (IfB (t17b == (1 : Int))
 (IfB (t23b == (1 : Int))
 (Q (.bool (IntKind.wrap .i64 (((t17a.l : Nat) : Int) + ((t23a.l : Nat) : Int)) == (0 : Int))) w1_4)
 (Q (.bool false) w1_4))
 (Q (.bool false) w1_4))
 (IfB (t17b == (0 : Int))
 (IfB (t23b == (0 : Int))
 (Calls prog 15 #[.slice x0.a x0.l x0.c, .int .i64 x1] w1_4 fun en w1_5 =>
 ∃ t63 : Sl, en = .returned (.slice t63.a t63.l t63.c) ∧
 Calls prog 14 #[.slice t17a.a t17a.l t17a.c, .slice t63.a t63.l t63.c] w1_5 fun en w1_6 =>
 ∃ t64 : Bool, en = .returned (.bool t64) ∧
 IfB t64
 (Calls prog 16 #[.slice x0.a x0.l x0.c, .int .i64 x1] w1_6 fun en w1_7 =>
 ∃ t70 : Sl, en = .returned (.slice t70.a t70.l t70.c) ∧
 Calls prog 14 #[.slice t23a.a t23a.l t23a.c, .slice t70.a t70.l t70.c] w1_7 fun en w1_8 =>
 ∃ t71 : Bool, en = .returned (.bool t71) ∧
 IfB t71
 (Calls prog 17 #[.slice t13.a t13.l t13.c, .slice x0.a x0.l x0.c] w1_8 fun en w1_9 =>
 ∃ t76 : Bool, en = .returned (.bool t76) ∧
 Q (.bool t76) w1_9)
 (Q (.bool false) w1_8))
 (Q (.bool false) w1_6))
 (Q (.bool false) w1_4))
 (Q (.bool false) w1_4))))
def an3 : Ann := { cut := fun i => bif Nat.beq i 7 then some [(38, .bool)] else none, loop := fun i => [] }
theorem eq3 (x0 : Sl) (x1 : Int) (w : World) (Q : Value → World → Prop) : F3 x0 x1 w Q = vc prog an3 (Try.f3.body.getD .skip) (envOf [.slice x0.a x0.l x0.c, .int .i64 x1]) w (retK prog Try.f3 Q) := by kernel_rfl
theorem ok3 : codeOk Try.f3.ntmps (Try.f3.body.getD .skip) = true := by kernel_rfl
theorem W3 {x0 : Sl} {x1 : Int} {w : World} {Q : Value → World → Prop} (h : F3 x0 x1 w Q) : Calls prog 3 #[.slice x0.a x0.l x0.c, .int .i64 x1] w fun en w' => ∃ v, en = .returned v ∧ Q v w' :=
  calls_of_vc good follows an3 (args := [.slice x0.a x0.l x0.c, .int .i64 x1]) Try.func3 (by kernel_rfl) ok3 (of_decide_eq_true (by kernel_rfl)) (Eq.mp (eq3 x0 x1 w Q) h)

/-- bastion/bastionlaw15.GraphSorts -/
def F4 (x0 : Sl) (w : World) (Q : Value → World → Prop) : Prop :=
 Calls prog 9 #[.slice x0.a x0.l x0.c, .int .i64 30] w fun en w1 =>
 ∃ t13 : Bool, en = .returned (.bool t13) ∧
 IfB t13
 (Q (.bool true) w1)
 (Calls prog 10 #[.slice x0.a x0.l x0.c] w1 fun en w1_1 =>
 ∃ t15 : Sl, en = .returned (.slice t15.a t15.l t15.c) ∧
 Calls prog 18 #[.slice t15.a t15.l t15.c] w1_1 fun en w1_2 =>
 ∃ t18a : Sl, ∃ t18b : Int, en = .returned (.tuple #[.slice t18a.a t18a.l t18a.c, .int .i64 t18b]) ∧
 Calls prog 19 #[.slice x0.a x0.l x0.c] w1_2 fun en w1_3 =>
 ∃ t23a : Sl, ∃ t23b : Int, en = .returned (.tuple #[.slice t23a.a t23a.l t23a.c, .int .i64 t23b]) ∧
 Calls prog 20 #[.slice t15.a t15.l t15.c] w1_3 fun en w1_4 =>
 ∃ t28a : Sl, ∃ t28b : Int, en = .returned (.tuple #[.slice t28a.a t28a.l t28a.c, .int .i64 t28b]) ∧
 Calls prog 21 #[.slice x0.a x0.l x0.c] w1_4 fun en w1_5 =>
 ∃ t33a : Sl, ∃ t33b : Int, en = .returned (.tuple #[.slice t33a.a t33a.l t33a.c, .int .i64 t33b]) ∧
 IfB (t18b == t23b)
 (IfB (t28b == t33b)
 (Calls prog 14 #[.slice t18a.a t18a.l t18a.c, .slice t23a.a t23a.l t23a.c] w1_5 fun en w1_6 =>
 ∃ t47 : Bool, en = .returned (.bool t47) ∧
 IfB t47
 (Calls prog 14 #[.slice t28a.a t28a.l t28a.c, .slice t33a.a t33a.l t33a.c] w1_6 fun en w1_7 =>
 ∃ t52 : Bool, en = .returned (.bool t52) ∧
 IfB t52
 (Calls prog 17 #[.slice t15.a t15.l t15.c, .slice x0.a x0.l x0.c] w1_7 fun en w1_8 =>
 ∃ t57 : Bool, en = .returned (.bool t57) ∧
 Q (.bool t57) w1_8)
 (Q (.bool false) w1_7))
 (Q (.bool false) w1_6))
 (Q (.bool false) w1_5))
 (Q (.bool false) w1_5))
def an4 : Ann := { cut := fun i => none, loop := fun i => [] }
theorem eq4 (x0 : Sl) (w : World) (Q : Value → World → Prop) : F4 x0 w Q = vc prog an4 (Try.f4.body.getD .skip) (envOf [.slice x0.a x0.l x0.c]) w (retK prog Try.f4 Q) := by kernel_rfl
theorem ok4 : codeOk Try.f4.ntmps (Try.f4.body.getD .skip) = true := by kernel_rfl
theorem W4 {x0 : Sl} {w : World} {Q : Value → World → Prop} (h : F4 x0 w Q) : Calls prog 4 #[.slice x0.a x0.l x0.c] w fun en w' => ∃ v, en = .returned v ∧ Q v w' :=
  calls_of_vc good follows an4 (args := [.slice x0.a x0.l x0.c]) Try.func4 (by kernel_rfl) ok4 (of_decide_eq_true (by kernel_rfl)) (Eq.mp (eq4 x0 w Q) h)

/-- bastion/bastionlaw15.GraphNames -/
def F5 (w : World) (Q : Value → World → Prop) : Prop :=
 Calls prog 22 #[] w fun en w1 =>
 ∃ t33 : Bool, en = .returned (.bool t33) ∧
 IfB (!t33)
 (Q (.bool false) w1)
 (RunT prog .slice (Instr.buildSlice 25 1 #[(0, .int .i64 2)]) w1 fun (t41 : Sl) w1_1 =>
 RunT prog .slice (Instr.buildSlice 25 1 #[(0, .int .i64 3)]) w1_1 fun (t42 : Sl) w1_2 =>
 RunT prog .slice (Instr.buildSlice 25 1 #[(0, .int .i64 1)]) w1_2 fun (t43 : Sl) w1_3 =>
 RunT prog .slice (Instr.buildSlice 25 2 #[(0, .int .i64 0), (1, .int .i64 2)]) w1_3 fun (t44 : Sl) w1_4 =>
 RunT prog .slice (Instr.buildSlice 22 4 #[(0, .slice t41.a t41.l t41.c), (1, .slice t42.a t42.l t42.c), (2, .slice t43.a t43.l t43.c), (3, .slice t44.a t44.l t44.c)]) w1_4 fun (t45 : Sl) w1_5 =>
 Calls prog 18 #[.slice t45.a t45.l t45.c] w1_5 fun en w1_6 =>
 ∃ t48a : Sl, ∃ t48b : Int, en = .returned (.tuple #[.slice t48a.a t48a.l t48a.c, .int .i64 t48b]) ∧
 RunT prog .slice (Instr.buildSlice 25 3 #[(0, .int .i64 1), (1, .int .i64 1), (2, .int .i64 2)]) w1_6 fun (t52 : Sl) w1_7 =>
 RunT prog .slice (Instr.buildSlice 25 0 #[]) w1_7 fun (t53 : Sl) w1_8 =>
 RunT prog .slice (Instr.buildSlice 25 0 #[]) w1_8 fun (t54 : Sl) w1_9 =>
 RunT prog .slice (Instr.buildSlice 22 3 #[(0, .slice t52.a t52.l t52.c), (1, .slice t53.a t53.l t53.c), (2, .slice t54.a t54.l t54.c)]) w1_9 fun (t55 : Sl) w1_10 =>
 Calls prog 18 #[.slice t55.a t55.l t55.c] w1_10 fun en w1_11 =>
 ∃ t56a : Sl, ∃ t56b : Int, en = .returned (.tuple #[.slice t56a.a t56a.l t56a.c, .int .i64 t56b]) ∧
 ∃ J : Bool → World → Prop, (IfB (t56b != (0 : Int))
 (J true w1_11)
 (RunT prog .slice (Instr.buildSlice 25 3 #[(0, .int .i64 1), (1, .int .i64 2), (2, .int .i64 0)]) w1_11 fun (t63 : Sl) w1_12 =>
 Calls prog 14 #[.slice t56a.a t56a.l t56a.c, .slice t63.a t63.l t63.c] w1_12 fun en w1_13 =>
 ∃ t64 : Bool, en = .returned (.bool t64) ∧
 J (!t64) w1_13)) ∧
 (∀ (u : Env) (x66 : Bool) (w1_12 : World), J x66 w1_12 →
 IfB x66
 (Q (.bool false) w1_12)
 (Calls prog 20 #[.slice t45.a t45.l t45.c] w1_12 fun en w1_13 =>
 ∃ t69a : Sl, ∃ t69b : Int, en = .returned (.tuple #[.slice t69a.a t69a.l t69a.c, .int .i64 t69b]) ∧
 Calls prog 11 #[.slice t45.a t45.l t45.c, .int .i64 1] w1_13 fun en w1_14 =>
 ∃ t74a : Sl, ∃ t74b : Int, en = .returned (.tuple #[.slice t74a.a t74a.l t74a.c, .int .i64 t74b]) ∧
 RunT prog .slice (Instr.buildSlice 25 1 #[(0, .int .i64 1)]) w1_14 fun (t78 : Sl) w1_15 =>
 RunT prog .slice (Instr.buildSlice 22 1 #[(0, .slice t78.a t78.l t78.c)]) w1_15 fun (t79 : Sl) w1_16 =>
 Calls prog 18 #[.slice t79.a t79.l t79.c] w1_16 fun en w1_17 =>
 ∃ t80a : Sl, ∃ t80b : Int, en = .returned (.tuple #[.slice t80a.a t80a.l t80a.c, .int .i64 t80b]) ∧
 RunT prog .slice (Instr.buildSlice 25 1 #[(0, .int .i64 (-1))]) w1_17 fun (t84 : Sl) w1_18 =>
 RunT prog .slice (Instr.buildSlice 22 1 #[(0, .slice t84.a t84.l t84.c)]) w1_18 fun (t85 : Sl) w1_19 =>
 Calls prog 18 #[.slice t85.a t85.l t85.c] w1_19 fun en w1_20 =>
 ∃ t86a : Sl, ∃ t86b : Int, en = .returned (.tuple #[.slice t86a.a t86a.l t86a.c, .int .i64 t86b]) ∧
 RunT prog .slice (Instr.buildSlice 25 1 #[(0, .int .i64 0)]) w1_20 fun (t90 : Sl) w1_21 =>
 RunT prog .slice (Instr.buildSlice 22 1 #[(0, .slice t90.a t90.l t90.c)]) w1_21 fun (t91 : Sl) w1_22 =>
 Calls prog 18 #[.slice t91.a t91.l t91.c] w1_22 fun en w1_23 =>
 ∃ t92a : Sl, ∃ t92b : Int, en = .returned (.tuple #[.slice t92a.a t92a.l t92a.c, .int .i64 t92b]) ∧
 Calls prog 18 #[.slice none 0 0] w1_23 fun en w1_24 =>
 ∃ t96a : Sl, ∃ t96b : Int, en = .returned (.tuple #[.slice t96a.a t96a.l t96a.c, .int .i64 t96b]) ∧
 Calls prog 11 #[.slice none 0 0, .int .i64 0] w1_24 fun en w1_25 =>
 ∃ t100a : Sl, ∃ t100b : Int, en = .returned (.tuple #[.slice t100a.a t100a.l t100a.c, .int .i64 t100b]) ∧
 RunT prog .slice (Instr.buildSlice 25 0 #[]) w1_25 fun (t104 : Sl) w1_26 =>
 RunT prog .slice (Instr.buildSlice 22 1 #[(0, .slice t104.a t104.l t104.c)]) w1_26 fun (t105 : Sl) w1_27 =>
 Calls prog 12 #[.slice t105.a t105.l t105.c, .int .i64 1] w1_27 fun en w1_28 =>
 ∃ t106a : Sl, ∃ t106b : Int, en = .returned (.tuple #[.slice t106a.a t106a.l t106a.c, .int .i64 t106b]) ∧
 RunT prog .slice (Instr.buildSlice 25 0 #[]) w1_28 fun (t110 : Sl) w1_29 =>
 RunT prog .slice (Instr.buildSlice 22 1 #[(0, .slice t110.a t110.l t110.c)]) w1_29 fun (t111 : Sl) w1_30 =>
 Calls prog 12 #[.slice t111.a t111.l t111.c, .int .i64 (-1)] w1_30 fun en w1_31 =>
 ∃ t112a : Sl, ∃ t112b : Int, en = .returned (.tuple #[.slice t112a.a t112a.l t112a.c, .int .i64 t112b]) ∧
 RunT prog .slice (Instr.makeSlice 22 (.int .i64 4097) (.int .i64 4097)) w1_31 fun (t116 : Sl) w1_32 =>
 Calls prog 18 #[.slice t116.a t116.l t116.c] w1_32 fun en w1_33 =>
 ∃ t117a : Sl, ∃ t117b : Int, en = .returned (.tuple #[.slice t117a.a t117a.l t117a.c, .int .i64 t117b]) ∧
 RunT prog .slice (Instr.makeSlice 22 (.int .i64 4096) (.int .i64 4096)) w1_33 fun (t121 : Sl) w1_34 =>
 Calls prog 18 #[.slice t121.a t121.l t121.c] w1_34 fun en w1_35 =>
 ∃ t122a : Sl, ∃ t122b : Int, en = .returned (.tuple #[.slice t122a.a t122a.l t122a.c, .int .i64 t122b]) ∧
 RunT prog .slice (Instr.makeSlice 25 (.int .i64 65537) (.int .i64 65537)) w1_35 fun (t125 : Sl) w1_36 =>
 RunT prog .slice (Instr.buildSlice 25 0 #[]) w1_36 fun (t127 : Sl) w1_37 =>
 RunT prog .slice (Instr.buildSlice 22 2 #[(0, .slice t127.a t127.l t127.c), (1, .slice t125.a t125.l t125.c)]) w1_37 fun (t129 : Sl) w1_38 =>
 Calls prog 18 #[.slice t129.a t129.l t129.c] w1_38 fun en w1_39 =>
 ∃ t130a : Sl, ∃ t130b : Int, en = .returned (.tuple #[.slice t130a.a t130a.l t130a.c, .int .i64 t130b]) ∧
 RunT prog .slice (Instr.buildSlice 25 0 #[]) w1_39 fun (t134 : Sl) w1_40 =>
 (0 ≤ (1 : Int) ∧ (1 : Int) ≤ ((t125.l : Nat) : Int)) ∧
 RunT prog .slice (Instr.buildSlice 22 2 #[(0, .slice t134.a t134.l t134.c), (1, .slice (slA t125.a 1 t125.c 1) (t125.l - 1) (t125.c - 1))]) w1_40 fun (t137 : Sl) w1_41 =>
 Calls prog 18 #[.slice t137.a t137.l t137.c] w1_41 fun en w1_42 =>
 ∃ t138a : Sl, ∃ t138b : Int, en = .returned (.tuple #[.slice t138a.a t138a.l t138a.c, .int .i64 t138b]) ∧
 IfB (t48b == (64 : Int))
 (IfB (t69b == (64 : Int))
 (IfB (t74b == (0 : Int))
 (RunT prog .slice (Instr.buildSlice 25 4 #[(0, .int .i64 0), (1, .int .i64 1), (2, .int .i64 2), (3, .int .i64 3)]) w1_42 fun (t153 : Sl) w1_43 =>
 Calls prog 14 #[.slice t74a.a t74a.l t74a.c, .slice t153.a t153.l t153.c] w1_43 fun en w1_44 =>
 ∃ t154 : Bool, en = .returned (.bool t154) ∧
 IfB t154
 (IfB (t80b == (1 : Int))
 (IfB (t86b == (1 : Int))
 (IfB (t92b == (64 : Int))
 (IfB (((t96a.l : Nat) : Int) == (0 : Int))
 (IfB (t96b == (0 : Int))
 (IfB (t100b == (1 : Int))
 (IfB (t106b == (1 : Int))
 (IfB (t112b == (1 : Int))
 (IfB (t117b == (1 : Int))
 (IfB (t122b == (0 : Int))
 (IfB (((t122a.l : Nat) : Int) == (4096 : Int))
 (IfB (t130b == (1 : Int))
 (Q (.bool (t138b == (0 : Int))) w1_44)
 (Q (.bool false) w1_44))
 (Q (.bool false) w1_44))
 (Q (.bool false) w1_44))
 (Q (.bool false) w1_44))
 (Q (.bool false) w1_44))
 (Q (.bool false) w1_44))
 (Q (.bool false) w1_44))
 (Q (.bool false) w1_44))
 (Q (.bool false) w1_44))
 (Q (.bool false) w1_44))
 (Q (.bool false) w1_44))
 (Q (.bool false) w1_44))
 (Q (.bool false) w1_44))
 (Q (.bool false) w1_42))
 (Q (.bool false) w1_42))
 (Q (.bool false) w1_42))))
def an5 : Ann := { cut := fun i => bif Nat.beq i 7 then some [(66, .bool)] else none, loop := fun i => [] }
theorem eq5 (w : World) (Q : Value → World → Prop) : F5  w Q = vc prog an5 (Try.f5.body.getD .skip) (envOf []) w (retK prog Try.f5 Q) := by kernel_rfl
theorem ok5 : codeOk Try.f5.ntmps (Try.f5.body.getD .skip) = true := by kernel_rfl
theorem W5 {w : World} {Q : Value → World → Prop} (h : F5  w Q) : Calls prog 5 #[] w fun en w' => ∃ v, en = .returned v ∧ Q v w' :=
  calls_of_vc good follows an5 (args := []) Try.func5 (by kernel_rfl) ok5 (of_decide_eq_true (by kernel_rfl)) (Eq.mp (eq5  w Q) h)

/-- bastion/bastionlaw15.GraphRow -/
def F6 (x0 : Sl) (w : World) (Q : Value → World → Prop) : Prop :=
 ∃ J : Bool → World → Prop, (Calls prog 22 #[] w fun en w1 =>
 ∃ t13 : Bool, en = .returned (.bool t13) ∧
 IfB (!t13)
 (J true w1)
 (Calls prog 9 #[.slice x0.a x0.l x0.c, .int .i64 300] w1 fun en w1_1 =>
 ∃ t17 : Bool, en = .returned (.bool t17) ∧
 J t17 w1_1)) ∧
 (∀ (u : Env) (x18 : Bool) (w1 : World), J x18 w1 →
 IfB x18
 (Calls prog 22 #[] w1 fun en w1_1 =>
 ∃ t19 : Bool, en = .returned (.bool t19) ∧
 Q (.bool t19) w1_1)
 (Calls prog 18 #[.slice x0.a x0.l x0.c] w1 fun en w1_1 =>
 ∃ t22a : Sl, ∃ t22b : Int, en = .returned (.tuple #[.slice t22a.a t22a.l t22a.c, .int .i64 t22b]) ∧
 Calls prog 20 #[.slice x0.a x0.l x0.c] w1_1 fun en w1_2 =>
 ∃ t27a : Sl, ∃ t27b : Int, en = .returned (.tuple #[.slice t27a.a t27a.l t27a.c, .int .i64 t27b]) ∧
 IfB (t22b != t27b)
 (Q (.bool false) w1_2)
 (IfB (t22b != (0 : Int))
 (Q (.bool (IntKind.wrap .i64 (((t22a.l : Nat) : Int) + ((t27a.l : Nat) : Int)) == (0 : Int))) w1_2)
 (RunT prog .slice (Instr.makeSlice 25 (.int .i64 ((x0.l : Nat) : Int)) (.int .i64 ((x0.l : Nat) : Int))) w1_2 fun (t43 : Sl) w1_3 =>
 ∃ J_1 : Bool → World → Prop, (IfB (((t22a.l : Nat) : Int) != ((x0.l : Nat) : Int))
 (J_1 true w1_3)
 (J_1 (((t27a.l : Nat) : Int) != ((x0.l : Nat) : Int)) w1_3)) ∧
 (∀ (u_1 : Env) (x55 : Bool) (w1_4 : World), J_1 x55 w1_4 →
 IfB x55
 (Q (.bool false) w1_4)
 (∃ (I : Nat → Int → World → Prop) (n0 : Nat), I n0 (0 : Int) w1_4 ∧
 ∀ (n : Nat) (u_2 : Env) (x8 : Int) (w1_5 : World), I n x8 w1_5 →
 IfB (decide (x8 < ((t22a.l : Nat) : Int)))
 (∃ p64, t22a.a = some p64 ∧ 0 ≤ x8 ∧ x8 < ((t22a.l : Nat) : Int) ∧
 ∃ t65 : Int, Ld w1_5 (p64.add ((x8).toNat * 1)) (.int .i64 t65) ∧
 IfB (decide (t65 < (0 : Int)))
 (Q (.bool false) w1_5)
 (∃ p70, t22a.a = some p70 ∧ 0 ≤ x8 ∧ x8 < ((t22a.l : Nat) : Int) ∧
 ∃ t71 : Int, Ld w1_5 (p70.add ((x8).toNat * 1)) (.int .i64 t71) ∧
 IfB (decide (t71 ≥ ((x0.l : Nat) : Int)))
 (Q (.bool false) w1_5)
 (∃ p80, t22a.a = some p80 ∧ 0 ≤ x8 ∧ x8 < ((t22a.l : Nat) : Int) ∧
 ∃ t81 : Int, Ld w1_5 (p80.add ((x8).toNat * 1)) (.int .i64 t81) ∧
 ∃ p82, t43.a = some p82 ∧ 0 ≤ t81 ∧ t81 < ((t43.l : Nat) : Int) ∧
 ∃ t83 : Int, Ld w1_5 (p82.add ((t81).toNat * 1)) (.int .i64 t83) ∧
 IfB (t83 != (0 : Int))
 (Q (.bool false) w1_5)
 (∃ p89, t22a.a = some p89 ∧ 0 ≤ x8 ∧ x8 < ((t22a.l : Nat) : Int) ∧
 ∃ t90 : Int, Ld w1_5 (p89.add ((x8).toNat * 1)) (.int .i64 t90) ∧
 ∃ p93, t43.a = some p93 ∧ 0 ≤ t90 ∧ t90 < ((t43.l : Nat) : Int) ∧
 Wr w1_5 (p93.add ((t90).toNat * 1)) ∧ ∀ w1_6, w1_6 = w1_5.setCell (p93.add ((t90).toNat * 1)) (.int .i64 (IntKind.wrap .i64 (x8 + (1 : Int)))) →
 ∃ n', n' < n ∧ I n' (IntKind.wrap .i64 (x8 + (1 : Int))) w1_6))))
 (∃ (I_1 : Nat → Int → World → Prop) (n0_1 : Nat), I_1 n0_1 (0 : Int) w1_5 ∧
 ∀ (n_1 : Nat) (u_3 : Env) (x9 : Int) (w1_6 : World), I_1 n_1 x9 w1_6 →
 IfB (decide (x9 < ((x0.l : Nat) : Int)))
 (∃ (I_2 : Nat → Int → Int → World → Prop) (n0_2 : Nat), I_2 n0_2 (-1 : Int) (0 : Int) w1_6 ∧
 ∀ (n_2 : Nat) (u_4 : Env) (x10 : Int) (x11 : Int) (w1_7 : World), I_2 n_2 x10 x11 w1_7 →
 ∃ p103, x0.a = some p103 ∧ 0 ≤ x9 ∧ x9 < ((x0.l : Nat) : Int) ∧
 ∃ t104 : Sl, Ld w1_7 (p103.add ((x9).toNat * 1)) (.slice t104.a t104.l t104.c) ∧
 IfB (decide (x11 < ((t104.l : Nat) : Int)))
 (∃ p111, x0.a = some p111 ∧ 0 ≤ x9 ∧ x9 < ((x0.l : Nat) : Int) ∧
 ∃ t112 : Sl, Ld w1_7 (p111.add ((x9).toNat * 1)) (.slice t112.a t112.l t112.c) ∧
 ∃ p114, t112.a = some p114 ∧ 0 ≤ x11 ∧ x11 < ((t112.l : Nat) : Int) ∧
 ∃ t115 : Int, Ld w1_7 (p114.add ((x11).toNat * 1)) (.int .i64 t115) ∧
 ∃ p118, t43.a = some p118 ∧ 0 ≤ t115 ∧ t115 < ((t43.l : Nat) : Int) ∧
 ∃ t119 : Int, Ld w1_7.drew (p118.add ((t115).toNat * 1)) (.int .i64 t119) ∧
 ∃ p122, t43.a = some p122 ∧ 0 ≤ x9 ∧ x9 < ((t43.l : Nat) : Int) ∧
 ∃ t123 : Int, Ld w1_7.drew (p122.add ((x9).toNat * 1)) (.int .i64 t123) ∧
 IfB (decide (t119 ≥ t123))
 (Q (.bool false) w1_7.drew)
 (∃ p127, t27a.a = some p127 ∧ 0 ≤ t115 ∧ t115 < ((t27a.l : Nat) : Int) ∧
 ∃ t128 : Int, Ld w1_7.drew (p127.add ((t115).toNat * 1)) (.int .i64 t128) ∧
 IfB (decide (t128 > x10))
 (∃ p133, t27a.a = some p133 ∧ 0 ≤ t115 ∧ t115 < ((t27a.l : Nat) : Int) ∧
 ∃ t134 : Int, Ld w1_7.drew (p133.add ((t115).toNat * 1)) (.int .i64 t134) ∧
 ∃ n', n' < n_2 ∧ I_2 n' t134 (IntKind.wrap .i64 (x11 + (1 : Int))) w1_7.drew)
 (∃ n', n' < n_2 ∧ I_2 n' x10 (IntKind.wrap .i64 (x11 + (1 : Int))) w1_7.drew)))
 (∃ p137, t27a.a = some p137 ∧ 0 ≤ x9 ∧ x9 < ((t27a.l : Nat) : Int) ∧
 ∃ t138 : Int, Ld w1_7 (p137.add ((x9).toNat * 1)) (.int .i64 t138) ∧
 IfB (t138 != IntKind.wrap .i64 (x10 + (1 : Int)))
 (Q (.bool false) w1_7)
 (∃ n', n' < n_1 ∧ I_1 n' (IntKind.wrap .i64 (x9 + (1 : Int))) w1_7)))
 (Q (.bool true) w1_6))))))))
def an6 : Ann := { cut := fun i => bif Nat.beq i 2 then some [(18, .bool)] else bif Nat.beq i 11 then some [(55, .bool)] else none, loop := fun i => bif Nat.beq i 13 then [(8, .int .i64)] else bif Nat.beq i 19 then [(9, .int .i64)] else bif Nat.beq i 23 then [(10, .int .i64), (11, .int .i64)] else [] }
theorem eq6 (x0 : Sl) (w : World) (Q : Value → World → Prop) : F6 x0 w Q = vc prog an6 (Try.f6.body.getD .skip) (envOf [.slice x0.a x0.l x0.c]) w (retK prog Try.f6 Q) := by kernel_rfl
theorem ok6 : codeOk Try.f6.ntmps (Try.f6.body.getD .skip) = true := by kernel_rfl
theorem W6 {x0 : Sl} {w : World} {Q : Value → World → Prop} (h : F6 x0 w Q) : Calls prog 6 #[.slice x0.a x0.l x0.c] w fun en w' => ∃ v, en = .returned v ∧ Q v w' :=
  calls_of_vc good follows an6 (args := [.slice x0.a x0.l x0.c]) Try.func6 (by kernel_rfl) ok6 (of_decide_eq_true (by kernel_rfl)) (Eq.mp (eq6 x0 w Q) h)

/-- bastion/bastionlaw15.GraphCycles -/
def F7 (x0 : Sl) (w : World) (Q : Value → World → Prop) : Prop :=
 ∃ J : Bool → World → Prop, (Calls prog 22 #[] w fun en w1 =>
 ∃ t10 : Bool, en = .returned (.bool t10) ∧
 IfB (!t10)
 (J true w1)
 (Calls prog 9 #[.slice x0.a x0.l x0.c, .int .i64 60] w1 fun en w1_1 =>
 ∃ t14 : Bool, en = .returned (.bool t14) ∧
 J t14 w1_1)) ∧
 (∀ (u : Env) (x15 : Bool) (w1 : World), J x15 w1 →
 IfB x15
 (Calls prog 22 #[] w1 fun en w1_1 =>
 ∃ t16 : Bool, en = .returned (.bool t16) ∧
 Q (.bool t16) w1_1)
 (Calls prog 18 #[.slice x0.a x0.l x0.c] w1 fun en w1_1 =>
 ∃ t19a : Sl, ∃ t19b : Int, en = .returned (.tuple #[.slice t19a.a t19a.l t19a.c, .int .i64 t19b]) ∧
 IfB (t19b == (1 : Int))
 (Q (.bool true) w1_1)
 (∃ (I : Nat → Bool → Int → World → Prop) (n0 : Nat), I n0 false (0 : Int) w1_1 ∧
 ∀ (n : Nat) (u_1 : Env) (x5 : Bool) (x6 : Int) (w1_2 : World), I n x5 x6 w1_2 →
 IfB (decide (x6 < ((x0.l : Nat) : Int)))
 (Calls prog 11 #[.slice x0.a x0.l x0.c, .int .i64 x6] w1_2 fun en w1_3 =>
 ∃ t33a : Sl, ∃ t33b : Int, en = .returned (.tuple #[.slice t33a.a t33a.l t33a.c, .int .i64 t33b]) ∧
 IfB (t33b != (0 : Int))
 (Q (.bool false) w1_3)
 (∃ (I_1 : Nat → Bool → Int → World → Prop) (n0_1 : Nat), I_1 n0_1 x5 (0 : Int) w1_3 ∧
 ∀ (n_1 : Nat) (u_2 : Env) (x5_1 : Bool) (x9 : Int) (w1_4 : World), I_1 n_1 x5_1 x9 w1_4 →
 IfB (decide (x9 < ((t33a.l : Nat) : Int)))
 (IfB x5_1
 (∃ n', n' < n_1 ∧ I_1 n' true (IntKind.wrap .i64 (x9 + (1 : Int))) w1_4)
 (∃ p48, t33a.a = some p48 ∧ 0 ≤ x9 ∧ x9 < ((t33a.l : Nat) : Int) ∧
 ∃ t49 : Int, Ld w1_4 (p48.add ((x9).toNat * 1)) (.int .i64 t49) ∧
 ∃ n', n' < n_1 ∧ I_1 n' (t49 == x6) (IntKind.wrap .i64 (x9 + (1 : Int))) w1_4))
 (∃ n', n' < n ∧ I n' x5_1 (IntKind.wrap .i64 (x6 + (1 : Int))) w1_4)))
 (∃ b56 : Bool, BinIs prog .eql 4 (.tmp 53) (.tmp 55) (.bool x5) (.bool (t19b == (64 : Int))) b56 ∧
 IfB b56
 (IfB x5
 (Q (.bool true) w1_2)
 (Q (.bool (t19b == (0 : Int))) w1_2))
 (Q (.bool false) w1_2)))))
def an7 : Ann := { cut := fun i => bif Nat.beq i 2 then some [(15, .bool)] else none, loop := fun i => bif Nat.beq i 8 then [(5, .bool), (6, .int .i64)] else bif Nat.beq i 14 then [(5, .bool), (9, .int .i64)] else [] }
theorem eq7 (x0 : Sl) (w : World) (Q : Value → World → Prop) : F7 x0 w Q = vc prog an7 (Try.f7.body.getD .skip) (envOf [.slice x0.a x0.l x0.c]) w (retK prog Try.f7 Q) := by kernel_rfl
theorem ok7 : codeOk Try.f7.ntmps (Try.f7.body.getD .skip) = true := by kernel_rfl
theorem W7 {x0 : Sl} {w : World} {Q : Value → World → Prop} (h : F7 x0 w Q) : Calls prog 7 #[.slice x0.a x0.l x0.c] w fun en w' => ∃ v, en = .returned v ∧ Q v w' :=
  calls_of_vc good follows an7 (args := [.slice x0.a x0.l x0.c]) Try.func7 (by kernel_rfl) ok7 (of_decide_eq_true (by kernel_rfl)) (Eq.mp (eq7 x0 w Q) h)

/-- bastion/bastionlaw15.GraphBoth -/
def F8 (x0 : Sl) (w : World) (Q : Value → World → Prop) : Prop :=
 ∃ J : Bool → World → Prop, (Calls prog 22 #[] w fun en w1 =>
 ∃ t13 : Bool, en = .returned (.bool t13) ∧
 IfB (!t13)
 (J true w1)
 (Calls prog 9 #[.slice x0.a x0.l x0.c, .int .i64 40] w1 fun en w1_1 =>
 ∃ t17 : Bool, en = .returned (.bool t17) ∧
 J t17 w1_1)) ∧
 (∀ (u : Env) (x18 : Bool) (w1 : World), J x18 w1 →
 IfB x18
 (Calls prog 22 #[] w1 fun en w1_1 =>
 ∃ t19 : Bool, en = .returned (.bool t19) ∧
 Q (.bool t19) w1_1)
 (RunT prog .slice (Instr.makeSlice 25 (.int .i64 (IntKind.wrap .i64 (((x0.l : Nat) : Int) * ((x0.l : Nat) : Int)))) (.int .i64 (IntKind.wrap .i64 (((x0.l : Nat) : Int) * ((x0.l : Nat) : Int))))) w1 fun (t25 : Sl) w1_1 =>
 ∃ (I : Nat → Int → World → Prop) (n0 : Nat), I n0 (0 : Int) w1_1 ∧
 ∀ (n : Nat) (u_1 : Env) (x5 : Int) (w1_2 : World), I n x5 w1_2 →
 IfB (decide (x5 < ((x0.l : Nat) : Int)))
 (Calls prog 11 #[.slice x0.a x0.l x0.c, .int .i64 x5] w1_2 fun en w1_3 =>
 ∃ t34a : Sl, ∃ t34b : Int, en = .returned (.tuple #[.slice t34a.a t34a.l t34a.c, .int .i64 t34b]) ∧
 Calls prog 12 #[.slice x0.a x0.l x0.c, .int .i64 x5] w1_3 fun en w1_4 =>
 ∃ t40a : Sl, ∃ t40b : Int, en = .returned (.tuple #[.slice t40a.a t40a.l t40a.c, .int .i64 t40b]) ∧
 IfB (t34b != t40b)
 (Q (.bool false) w1_4)
 (∃ (I_1 : Nat → Int → World → Prop) (n0_1 : Nat), I_1 n0_1 (0 : Int) w1_4 ∧
 ∀ (n_1 : Nat) (u_2 : Env) (x10 : Int) (w1_5 : World), I_1 n_1 x10 w1_5 →
 IfB (decide (x10 < ((t34a.l : Nat) : Int)))
 (∃ S : World → Prop, S w1_5.drew ∧
 ∃ p58, t34a.a = some p58 ∧ 0 ≤ x10 ∧ x10 < ((t34a.l : Nat) : Int) ∧
 ∃ t59 : Int, (∀ w', S w' → Ld w' (p58.add ((x10).toNat * 1)) (.int .i64 t59)) ∧
 ∃ p67, t34a.a = some p67 ∧ 0 ≤ x10 ∧ x10 < ((t34a.l : Nat) : Int) ∧
 ∃ t68 : Int, (∀ w', S w' → Ld w' (p67.add ((x10).toNat * 1)) (.int .i64 t68)) ∧
 ∃ p70, t25.a = some p70 ∧ 0 ≤ IntKind.wrap .i64 ((IntKind.wrap .i64 (x5 * ((x0.l : Nat) : Int))) + t68) ∧ IntKind.wrap .i64 ((IntKind.wrap .i64 (x5 * ((x0.l : Nat) : Int))) + t68) < ((t25.l : Nat) : Int) ∧
 ∃ t71 : Int, (∀ w', S w' → Ld w' (p70.add ((IntKind.wrap .i64 ((IntKind.wrap .i64 (x5 * ((x0.l : Nat) : Int))) + t68)).toNat * 1)) (.int .i64 t71)) ∧
 ∃ p73, t25.a = some p73 ∧ 0 ≤ IntKind.wrap .i64 ((IntKind.wrap .i64 (x5 * ((x0.l : Nat) : Int))) + t59) ∧ IntKind.wrap .i64 ((IntKind.wrap .i64 (x5 * ((x0.l : Nat) : Int))) + t59) < ((t25.l : Nat) : Int) ∧
 Wr w1_5.drew (p73.add ((IntKind.wrap .i64 ((IntKind.wrap .i64 (x5 * ((x0.l : Nat) : Int))) + t59)).toNat * 1)) ∧ ∀ w1_6, w1_6 = w1_5.drew.setCell (p73.add ((IntKind.wrap .i64 ((IntKind.wrap .i64 (x5 * ((x0.l : Nat) : Int))) + t59)).toNat * 1)) (.int .i64 (IntKind.wrap .i64 (t71 + (1 : Int)))) →
 ∃ n', n' < n_1 ∧ I_1 n' (IntKind.wrap .i64 (x10 + (1 : Int))) w1_6)
 (∃ (I_2 : Nat → Int → World → Prop) (n0_2 : Nat), I_2 n0_2 (0 : Int) w1_5 ∧
 ∀ (n_2 : Nat) (u_3 : Env) (x11 : Int) (w1_6 : World), I_2 n_2 x11 w1_6 →
 IfB (decide (x11 < ((t40a.l : Nat) : Int)))
 (∃ S : World → Prop, S w1_6.drew ∧
 ∃ p83, t40a.a = some p83 ∧ 0 ≤ x11 ∧ x11 < ((t40a.l : Nat) : Int) ∧
 ∃ t84 : Int, (∀ w', S w' → Ld w' (p83.add ((x11).toNat * 1)) (.int .i64 t84)) ∧
 ∃ p92, t40a.a = some p92 ∧ 0 ≤ x11 ∧ x11 < ((t40a.l : Nat) : Int) ∧
 ∃ t93 : Int, (∀ w', S w' → Ld w' (p92.add ((x11).toNat * 1)) (.int .i64 t93)) ∧
 ∃ p98, t25.a = some p98 ∧ 0 ≤ IntKind.wrap .i64 ((IntKind.wrap .i64 (t93 * ((x0.l : Nat) : Int))) + x5) ∧ IntKind.wrap .i64 ((IntKind.wrap .i64 (t93 * ((x0.l : Nat) : Int))) + x5) < ((t25.l : Nat) : Int) ∧
 ∃ t99 : Int, (∀ w', S w' → Ld w' (p98.add ((IntKind.wrap .i64 ((IntKind.wrap .i64 (t93 * ((x0.l : Nat) : Int))) + x5)).toNat * 1)) (.int .i64 t99)) ∧
 ∃ p101, t25.a = some p101 ∧ 0 ≤ IntKind.wrap .i64 ((IntKind.wrap .i64 (t84 * ((x0.l : Nat) : Int))) + x5) ∧ IntKind.wrap .i64 ((IntKind.wrap .i64 (t84 * ((x0.l : Nat) : Int))) + x5) < ((t25.l : Nat) : Int) ∧
 Wr w1_6.drew (p101.add ((IntKind.wrap .i64 ((IntKind.wrap .i64 (t84 * ((x0.l : Nat) : Int))) + x5)).toNat * 1)) ∧ ∀ w1_7, w1_7 = w1_6.drew.setCell (p101.add ((IntKind.wrap .i64 ((IntKind.wrap .i64 (t84 * ((x0.l : Nat) : Int))) + x5)).toNat * 1)) (.int .i64 (IntKind.wrap .i64 (t99 + (2 : Int)))) →
 ∃ n', n' < n_2 ∧ I_2 n' (IntKind.wrap .i64 (x11 + (1 : Int))) w1_7)
 (∃ n', n' < n ∧ I n' (IntKind.wrap .i64 (x5 + (1 : Int))) w1_6))))
 (∃ (I_1 : Nat → Int → World → Prop) (n0_1 : Nat), I_1 n0_1 (0 : Int) w1_2 ∧
 ∀ (n_1 : Nat) (u_2 : Env) (x12 : Int) (w1_3 : World), I_1 n_1 x12 w1_3 →
 IfB (decide (x12 < IntKind.wrap .i64 (((x0.l : Nat) : Int) * ((x0.l : Nat) : Int))))
 (∃ p111, t25.a = some p111 ∧ 0 ≤ x12 ∧ x12 < ((t25.l : Nat) : Int) ∧
 ∃ t112 : Int, Ld w1_3 (p111.add ((x12).toNat * 1)) (.int .i64 t112) ∧
 IfB (t112 != (0 : Int))
 (∃ p117, t25.a = some p117 ∧ 0 ≤ x12 ∧ x12 < ((t25.l : Nat) : Int) ∧
 ∃ t118 : Int, Ld w1_3 (p117.add ((x12).toNat * 1)) (.int .i64 t118) ∧
 IfB (t118 != (3 : Int))
 (Q (.bool false) w1_3)
 (∃ n', n' < n_1 ∧ I_1 n' (IntKind.wrap .i64 (x12 + (1 : Int))) w1_3))
 (∃ n', n' < n_1 ∧ I_1 n' (IntKind.wrap .i64 (x12 + (1 : Int))) w1_3))
 (Q (.bool true) w1_3))))
def an8 : Ann := { cut := fun i => bif Nat.beq i 2 then some [(18, .bool)] else none, loop := fun i => bif Nat.beq i 6 then [(5, .int .i64)] else bif Nat.beq i 13 then [(10, .int .i64)] else bif Nat.beq i 17 then [(11, .int .i64)] else bif Nat.beq i 21 then [(12, .int .i64)] else [] }
theorem eq8 (x0 : Sl) (w : World) (Q : Value → World → Prop) : F8 x0 w Q = vc prog an8 (Try.f8.body.getD .skip) (envOf [.slice x0.a x0.l x0.c]) w (retK prog Try.f8 Q) := by kernel_rfl
theorem ok8 : codeOk Try.f8.ntmps (Try.f8.body.getD .skip) = true := by kernel_rfl
theorem W8 {x0 : Sl} {w : World} {Q : Value → World → Prop} (h : F8 x0 w Q) : Calls prog 8 #[.slice x0.a x0.l x0.c] w fun en w' => ∃ v, en = .returned v ∧ Q v w' :=
  calls_of_vc good follows an8 (args := [.slice x0.a x0.l x0.c]) Try.func8 (by kernel_rfl) ok8 (of_decide_eq_true (by kernel_rfl)) (Eq.mp (eq8 x0 w Q) h)

/-- bastion/bastionlaw15.large -/
def F9 (x0 : Sl) (x1 : Int) (w : World) (Q : Value → World → Prop) : Prop :=
 ∃ (I : Nat → Int → Int → World → Prop) (n0 : Nat), I n0 (0 : Int) (0 : Int) w ∧
 ∀ (n : Nat) (u : Env) (x5 : Int) (x6 : Int) (w1 : World), I n x5 x6 w1 →
 IfB (decide (x6 < ((x0.l : Nat) : Int)))
 (IfB (decide (x5 ≤ IntKind.wrap .i64 ((10 : Int) * x1)))
 (∃ p23, x0.a = some p23 ∧ 0 ≤ x6 ∧ x6 < ((x0.l : Nat) : Int) ∧
 ∃ t24 : Sl, Ld w1 (p23.add ((x6).toNat * 1)) (.slice t24.a t24.l t24.c) ∧
 ∃ n', n' < n ∧ I n' (IntKind.wrap .i64 ((IntKind.wrap .i64 (x5 + (1 : Int))) + ((t24.l : Nat) : Int))) (IntKind.wrap .i64 (x6 + (1 : Int))) w1)
 (IfB (decide (((x0.l : Nat) : Int) > x1))
 (Q (.bool true) w1)
 (Q (.bool (decide (x5 > IntKind.wrap .i64 ((10 : Int) * x1)))) w1)))
 (IfB (decide (((x0.l : Nat) : Int) > x1))
 (Q (.bool true) w1)
 (Q (.bool (decide (x5 > IntKind.wrap .i64 ((10 : Int) * x1)))) w1))
def an9 : Ann := { cut := fun i => none, loop := fun i => bif Nat.beq i 3 then [(5, .int .i64), (6, .int .i64)] else [] }
theorem eq9 (x0 : Sl) (x1 : Int) (w : World) (Q : Value → World → Prop) : F9 x0 x1 w Q = vc prog an9 (Try.f9.body.getD .skip) (envOf [.slice x0.a x0.l x0.c, .int .i64 x1]) w (retK prog Try.f9 Q) := by kernel_rfl
theorem ok9 : codeOk Try.f9.ntmps (Try.f9.body.getD .skip) = true := by kernel_rfl
theorem W9 {x0 : Sl} {x1 : Int} {w : World} {Q : Value → World → Prop} (h : F9 x0 x1 w Q) : Calls prog 9 #[.slice x0.a x0.l x0.c, .int .i64 x1] w fun en w' => ∃ v, en = .returned v ∧ Q v w' :=
  calls_of_vc good follows an9 (args := [.slice x0.a x0.l x0.c, .int .i64 x1]) Try.func9 (by kernel_rfl) ok9 (of_decide_eq_true (by kernel_rfl)) (Eq.mp (eq9 x0 x1 w Q) h)

/-- bastion/bastionlaw15.copied -/
def F10 (x0 : Sl) (w : World) (Q : Value → World → Prop) : Prop :=
 ∃ (I : Nat → Sl → Int → World → Prop) (n0 : Nat), I n0 (⟨none, 0, 0⟩ : Sl) (0 : Int) w ∧
 ∀ (n : Nat) (u : Env) (x3 : Sl) (x4 : Int) (w1 : World), I n x3 x4 w1 →
 IfB (decide (x4 < ((x0.l : Nat) : Int)))
 (RunT prog .slice (Instr.buildSlice 25 0 #[]) w1 fun (t12 : Sl) w1_1 =>
 ∃ p15, x0.a = some p15 ∧ 0 ≤ x4 ∧ x4 < ((x0.l : Nat) : Int) ∧
 ∃ t16 : Sl, Ld w1_1 (p15.add ((x4).toNat * 1)) (.slice t16.a t16.l t16.c) ∧
 RunT prog .slice (Builtin.append_ #[25, 25] 25 #[.slice t12.a t12.l t12.c, .slice t16.a t16.l t16.c]) w1_1 fun (t17 : Sl) w1_2 =>
 RunT prog .slice (Instr.buildSlice 22 1 #[(0, .slice t17.a t17.l t17.c)]) w1_2 fun (t18 : Sl) w1_3 =>
 RunT prog .slice (Builtin.append_ #[22, 22] 22 #[.slice x3.a x3.l x3.c, .slice t18.a t18.l t18.c]) w1_3 fun (t19 : Sl) w1_4 =>
 ∃ n', n' < n ∧ I n' t19 (IntKind.wrap .i64 (x4 + (1 : Int))) w1_4)
 (Q (.slice x3.a x3.l x3.c) w1)
def an10 : Ann := { cut := fun i => none, loop := fun i => bif Nat.beq i 3 then [(3, .slice), (4, .int .i64)] else [] }
theorem eq10 (x0 : Sl) (w : World) (Q : Value → World → Prop) : F10 x0 w Q = vc prog an10 (Try.f10.body.getD .skip) (envOf [.slice x0.a x0.l x0.c]) w (retK prog Try.f10 Q) := by kernel_rfl
theorem ok10 : codeOk Try.f10.ntmps (Try.f10.body.getD .skip) = true := by kernel_rfl
theorem W10 {x0 : Sl} {w : World} {Q : Value → World → Prop} (h : F10 x0 w Q) : Calls prog 10 #[.slice x0.a x0.l x0.c] w fun en w' => ∃ v, en = .returned v ∧ Q v w' :=
  calls_of_vc good follows an10 (args := [.slice x0.a x0.l x0.c]) Try.func10 (by kernel_rfl) ok10 (of_decide_eq_true (by kernel_rfl)) (Eq.mp (eq10 x0 w Q) h)

/-- bastion/graph.Below -/
def F11 (x0 : Sl) (x1 : Int) (w : World) (Q : Value → World → Prop) : Prop :=
 Calls prog 23 #[.slice x0.a x0.l x0.c] w fun en w1 =>
 ∃ t7 : Bool, en = .returned (.bool t7) ∧
 IfB (!t7)
 (Q (.tuple #[.slice none 0 0, .int .i64 1]) w1)
 (IfB (decide (x1 < (0 : Int)))
 (Q (.tuple #[.slice none 0 0, .int .i64 1]) w1)
 (IfB (decide (x1 ≥ ((x0.l : Nat) : Int)))
 (Q (.tuple #[.slice none 0 0, .int .i64 1]) w1)
 (Calls prog 24 #[.slice x0.a x0.l x0.c, .int .i64 x1] w1 fun en w1_1 =>
 ∃ t21 : Sl, en = .returned (.slice t21.a t21.l t21.c) ∧
 Q (.tuple #[.slice t21.a t21.l t21.c, .int .i64 0]) w1_1)))
def an11 : Ann := { cut := fun i => none, loop := fun i => [] }
theorem eq11 (x0 : Sl) (x1 : Int) (w : World) (Q : Value → World → Prop) : F11 x0 x1 w Q = vc prog an11 (Try.f11.body.getD .skip) (envOf [.slice x0.a x0.l x0.c, .int .i64 x1]) w (retK prog Try.f11 Q) := by kernel_rfl
theorem ok11 : codeOk Try.f11.ntmps (Try.f11.body.getD .skip) = true := by kernel_rfl
theorem W11 {x0 : Sl} {x1 : Int} {w : World} {Q : Value → World → Prop} (h : F11 x0 x1 w Q) : Calls prog 11 #[.slice x0.a x0.l x0.c, .int .i64 x1] w fun en w' => ∃ v, en = .returned v ∧ Q v w' :=
  calls_of_vc good follows an11 (args := [.slice x0.a x0.l x0.c, .int .i64 x1]) Try.func11 (by kernel_rfl) ok11 (of_decide_eq_true (by kernel_rfl)) (Eq.mp (eq11 x0 x1 w Q) h)

/-- bastion/graph.Above -/
def F12 (x0 : Sl) (x1 : Int) (w : World) (Q : Value → World → Prop) : Prop :=
 Calls prog 23 #[.slice x0.a x0.l x0.c] w fun en w1 =>
 ∃ t7 : Bool, en = .returned (.bool t7) ∧
 IfB (!t7)
 (Q (.tuple #[.slice none 0 0, .int .i64 1]) w1)
 (IfB (decide (x1 < (0 : Int)))
 (Q (.tuple #[.slice none 0 0, .int .i64 1]) w1)
 (IfB (decide (x1 ≥ ((x0.l : Nat) : Int)))
 (Q (.tuple #[.slice none 0 0, .int .i64 1]) w1)
 (Calls prog 25 #[.slice x0.a x0.l x0.c] w1 fun en w1_1 =>
 ∃ t20 : Sl, en = .returned (.slice t20.a t20.l t20.c) ∧
 Calls prog 24 #[.slice t20.a t20.l t20.c, .int .i64 x1] w1_1 fun en w1_2 =>
 ∃ t22 : Sl, en = .returned (.slice t22.a t22.l t22.c) ∧
 Q (.tuple #[.slice t22.a t22.l t22.c, .int .i64 0]) w1_2)))
def an12 : Ann := { cut := fun i => none, loop := fun i => [] }
theorem eq12 (x0 : Sl) (x1 : Int) (w : World) (Q : Value → World → Prop) : F12 x0 x1 w Q = vc prog an12 (Try.f12.body.getD .skip) (envOf [.slice x0.a x0.l x0.c, .int .i64 x1]) w (retK prog Try.f12 Q) := by kernel_rfl
theorem ok12 : codeOk Try.f12.ntmps (Try.f12.body.getD .skip) = true := by kernel_rfl
theorem W12 {x0 : Sl} {x1 : Int} {w : World} {Q : Value → World → Prop} (h : F12 x0 x1 w Q) : Calls prog 12 #[.slice x0.a x0.l x0.c, .int .i64 x1] w fun en w' => ∃ v, en = .returned v ∧ Q v w' :=
  calls_of_vc good follows an12 (args := [.slice x0.a x0.l x0.c, .int .i64 x1]) Try.func12 (by kernel_rfl) ok12 (of_decide_eq_true (by kernel_rfl)) (Eq.mp (eq12 x0 x1 w Q) h)

/-- bastion/bastionref15.May -/
def F13 (x0 : Sl) (w : World) (Q : Value → World → Prop) : Prop :=
 ∃ (I : Nat → Int → Int → World → Prop) (n0 : Nat), I n0 (0 : Int) (0 : Int) w ∧
 ∀ (n : Nat) (u : Env) (x3 : Int) (x4 : Int) (w1 : World), I n x3 x4 w1 →
 IfB (decide (x4 < ((x0.l : Nat) : Int)))
 (∃ p15, x0.a = some p15 ∧ 0 ≤ x4 ∧ x4 < ((x0.l : Nat) : Int) ∧
 ∃ t16 : Sl, Ld w1 (p15.add ((x4).toNat * 1)) (.slice t16.a t16.l t16.c) ∧
 ∃ (I_1 : Nat → Int → World → Prop) (n0_1 : Nat), I_1 n0_1 (0 : Int) w1 ∧
 ∀ (n_1 : Nat) (u_1 : Env) (x5 : Int) (w1_1 : World), I_1 n_1 x5 w1_1 →
 ∃ p22, x0.a = some p22 ∧ 0 ≤ x4 ∧ x4 < ((x0.l : Nat) : Int) ∧
 ∃ t23 : Sl, Ld w1_1 (p22.add ((x4).toNat * 1)) (.slice t23.a t23.l t23.c) ∧
 IfB (decide (x5 < ((t23.l : Nat) : Int)))
 (∃ p30, x0.a = some p30 ∧ 0 ≤ x4 ∧ x4 < ((x0.l : Nat) : Int) ∧
 ∃ t31 : Sl, Ld w1_1 (p30.add ((x4).toNat * 1)) (.slice t31.a t31.l t31.c) ∧
 ∃ p33, t31.a = some p33 ∧ 0 ≤ x5 ∧ x5 < ((t31.l : Nat) : Int) ∧
 ∃ t34 : Int, Ld w1_1 (p33.add ((x5).toNat * 1)) (.int .i64 t34) ∧
 IfB (decide (t34 < (0 : Int)))
 (Q (.bool false) w1_1)
 (∃ p39, x0.a = some p39 ∧ 0 ≤ x4 ∧ x4 < ((x0.l : Nat) : Int) ∧
 ∃ t40 : Sl, Ld w1_1 (p39.add ((x4).toNat * 1)) (.slice t40.a t40.l t40.c) ∧
 ∃ p42, t40.a = some p42 ∧ 0 ≤ x5 ∧ x5 < ((t40.l : Nat) : Int) ∧
 ∃ t43 : Int, Ld w1_1 (p42.add ((x5).toNat * 1)) (.int .i64 t43) ∧
 IfB (decide (t43 ≥ ((x0.l : Nat) : Int)))
 (Q (.bool false) w1_1)
 (∃ n', n' < n_1 ∧ I_1 n' (IntKind.wrap .i64 (x5 + (1 : Int))) w1_1)))
 (∃ n', n' < n ∧ I n' (IntKind.wrap .i64 (x3 + ((t16.l : Nat) : Int))) (IntKind.wrap .i64 (x4 + (1 : Int))) w1_1))
 (IfB (decide (((x0.l : Nat) : Int) ≤ (4096 : Int)))
 (Q (.bool (decide (x3 ≤ (65536 : Int)))) w1)
 (Q (.bool false) w1))
def an13 : Ann := { cut := fun i => none, loop := fun i => bif Nat.beq i 3 then [(3, .int .i64), (4, .int .i64)] else bif Nat.beq i 7 then [(5, .int .i64)] else [] }
theorem eq13 (x0 : Sl) (w : World) (Q : Value → World → Prop) : F13 x0 w Q = vc prog an13 (Try.f13.body.getD .skip) (envOf [.slice x0.a x0.l x0.c]) w (retK prog Try.f13 Q) := by kernel_rfl
theorem ok13 : codeOk Try.f13.ntmps (Try.f13.body.getD .skip) = true := by kernel_rfl
theorem W13 {x0 : Sl} {w : World} {Q : Value → World → Prop} (h : F13 x0 w Q) : Calls prog 13 #[.slice x0.a x0.l x0.c] w fun en w' => ∃ v, en = .returned v ∧ Q v w' :=
  calls_of_vc good follows an13 (args := [.slice x0.a x0.l x0.c]) Try.func13 (by kernel_rfl) ok13 (of_decide_eq_true (by kernel_rfl)) (Eq.mp (eq13 x0 w Q) h)

/-- bastion/bastionref05.Ints -/
def F14 (x0 : Sl) (x1 : Sl) (w : World) (Q : Value → World → Prop) : Prop :=
 IfB (((x0.l : Nat) : Int) != ((x1.l : Nat) : Int))
 (Q (.bool false) w)
 (∃ (I : Nat → Int → World → Prop) (n0 : Nat), I n0 (0 : Int) w ∧
 ∀ (n : Nat) (u : Env) (x5 : Int) (w1 : World), I n x5 w1 →
 IfB (decide (x5 < ((x0.l : Nat) : Int)))
 (∃ p19, x0.a = some p19 ∧ 0 ≤ x5 ∧ x5 < ((x0.l : Nat) : Int) ∧
 ∃ t20 : Int, Ld w1.drew (p19.add ((x5).toNat * 1)) (.int .i64 t20) ∧
 ∃ p23, x1.a = some p23 ∧ 0 ≤ x5 ∧ x5 < ((x1.l : Nat) : Int) ∧
 ∃ t24 : Int, Ld w1.drew (p23.add ((x5).toNat * 1)) (.int .i64 t24) ∧
 IfB (t20 != t24)
 (Q (.bool false) w1.drew)
 (∃ n', n' < n ∧ I n' (IntKind.wrap .i64 (x5 + (1 : Int))) w1.drew))
 (Q (.bool true) w1))
def an14 : Ann := { cut := fun i => none, loop := fun i => bif Nat.beq i 4 then [(5, .int .i64)] else [] }
theorem eq14 (x0 : Sl) (x1 : Sl) (w : World) (Q : Value → World → Prop) : F14 x0 x1 w Q = vc prog an14 (Try.f14.body.getD .skip) (envOf [.slice x0.a x0.l x0.c, .slice x1.a x1.l x1.c]) w (retK prog Try.f14 Q) := by kernel_rfl
theorem ok14 : codeOk Try.f14.ntmps (Try.f14.body.getD .skip) = true := by kernel_rfl
theorem W14 {x0 : Sl} {x1 : Sl} {w : World} {Q : Value → World → Prop} (h : F14 x0 x1 w Q) : Calls prog 14 #[.slice x0.a x0.l x0.c, .slice x1.a x1.l x1.c] w fun en w' => ∃ v, en = .returned v ∧ Q v w' :=
  calls_of_vc good follows an14 (args := [.slice x0.a x0.l x0.c, .slice x1.a x1.l x1.c]) Try.func14 (by kernel_rfl) ok14 (of_decide_eq_true (by kernel_rfl)) (Eq.mp (eq14 x0 x1 w Q) h)

/-- bastion/bastionref15.Below -/
def F15 (x0 : Sl) (x1 : Int) (w : World) (Q : Value → World → Prop) : Prop :=
 RunT prog .slice (Instr.makeSlice 25 (.int .i64 ((x0.l : Nat) : Int)) (.int .i64 ((x0.l : Nat) : Int))) w fun (t14 : Sl) w1 =>
 ∃ (I : Nat → Int → World → Prop) (n0 : Nat), I n0 (0 : Int) w1 ∧
 ∀ (n : Nat) (u : Env) (x6 : Int) (w1_1 : World), I n x6 w1_1 →
 ∃ p18, x0.a = some p18 ∧ 0 ≤ x1 ∧ x1 < ((x0.l : Nat) : Int) ∧
 ∃ t19 : Sl, Ld w1_1 (p18.add ((x1).toNat * 1)) (.slice t19.a t19.l t19.c) ∧
 IfB (decide (x6 < ((t19.l : Nat) : Int)))
 (∃ p27, x0.a = some p27 ∧ 0 ≤ x1 ∧ x1 < ((x0.l : Nat) : Int) ∧
 ∃ t28 : Sl, Ld w1_1 (p27.add ((x1).toNat * 1)) (.slice t28.a t28.l t28.c) ∧
 ∃ p30, t28.a = some p30 ∧ 0 ≤ x6 ∧ x6 < ((t28.l : Nat) : Int) ∧
 ∃ t31 : Int, Ld w1_1 (p30.add ((x6).toNat * 1)) (.int .i64 t31) ∧
 ∃ p32, t14.a = some p32 ∧ 0 ≤ t31 ∧ t31 < ((t14.l : Nat) : Int) ∧
 Wr w1_1 (p32.add ((t31).toNat * 1)) ∧ ∀ w1_2, w1_2 = w1_1.setCell (p32.add ((t31).toNat * 1)) (.int .i64 1) →
 ∃ n', n' < n ∧ I n' (IntKind.wrap .i64 (x6 + (1 : Int))) w1_2)
 (∃ (I_1 : Nat → Bool → World → Prop) (n0_1 : Nat), I_1 n0_1 true w1_1 ∧
 ∀ (n_1 : Nat) (u_1 : Env) (x7 : Bool) (w1_2 : World), I_1 n_1 x7 w1_2 →
 IfB x7
 (∃ (I_2 : Nat → Bool → Int → World → Prop) (n0_2 : Nat), I_2 n0_2 false (0 : Int) w1_2 ∧
 ∀ (n_2 : Nat) (u_2 : Env) (x7_1 : Bool) (x8 : Int) (w1_3 : World), I_2 n_2 x7_1 x8 w1_3 →
 IfB (decide (x8 < ((x0.l : Nat) : Int)))
 (∃ (I_3 : Nat → Bool → Int → World → Prop) (n0_3 : Nat), I_3 n0_3 x7_1 (0 : Int) w1_3 ∧
 ∀ (n_3 : Nat) (u_3 : Env) (x7_2 : Bool) (x9 : Int) (w1_4 : World), I_3 n_3 x7_2 x9 w1_4 →
 ∃ J : World → Prop, (∃ p42, t14.a = some p42 ∧ 0 ≤ x8 ∧ x8 < ((t14.l : Nat) : Int) ∧
 ∃ t43 : Int, Ld w1_4 (p42.add ((x8).toNat * 1)) (.int .i64 t43) ∧
 IfB (decide (t43 > (0 : Int)))
 (∃ p49, x0.a = some p49 ∧ 0 ≤ x8 ∧ x8 < ((x0.l : Nat) : Int) ∧
 ∃ t50 : Sl, Ld w1_4 (p49.add ((x8).toNat * 1)) (.slice t50.a t50.l t50.c) ∧
 IfB (decide (x9 < ((t50.l : Nat) : Int)))
 (J  w1_4)
 (∃ n', n' < n_2 ∧ I_2 n' x7_2 (IntKind.wrap .i64 (x8 + (1 : Int))) w1_4))
 (∃ n', n' < n_2 ∧ I_2 n' x7_2 (IntKind.wrap .i64 (x8 + (1 : Int))) w1_4)) ∧
 (∀ (u_4 : Env) (w1_5 : World), J  w1_5 →
 ∃ p59, x0.a = some p59 ∧ 0 ≤ x8 ∧ x8 < ((x0.l : Nat) : Int) ∧
 ∃ t60 : Sl, Ld w1_5 (p59.add ((x8).toNat * 1)) (.slice t60.a t60.l t60.c) ∧
 ∃ p62, t60.a = some p62 ∧ 0 ≤ x9 ∧ x9 < ((t60.l : Nat) : Int) ∧
 ∃ t63 : Int, Ld w1_5 (p62.add ((x9).toNat * 1)) (.int .i64 t63) ∧
 ∃ p64, t14.a = some p64 ∧ 0 ≤ t63 ∧ t63 < ((t14.l : Nat) : Int) ∧
 ∃ t65 : Int, Ld w1_5 (p64.add ((t63).toNat * 1)) (.int .i64 t65) ∧
 IfB (t65 == (0 : Int))
 (∃ p70, x0.a = some p70 ∧ 0 ≤ x8 ∧ x8 < ((x0.l : Nat) : Int) ∧
 ∃ t71 : Sl, Ld w1_5 (p70.add ((x8).toNat * 1)) (.slice t71.a t71.l t71.c) ∧
 ∃ p73, t71.a = some p73 ∧ 0 ≤ x9 ∧ x9 < ((t71.l : Nat) : Int) ∧
 ∃ t74 : Int, Ld w1_5 (p73.add ((x9).toNat * 1)) (.int .i64 t74) ∧
 ∃ p75, t14.a = some p75 ∧ 0 ≤ t74 ∧ t74 < ((t14.l : Nat) : Int) ∧
 Wr w1_5 (p75.add ((t74).toNat * 1)) ∧ ∀ w1_6, w1_6 = w1_5.setCell (p75.add ((t74).toNat * 1)) (.int .i64 1) →
 ∃ n', n' < n_3 ∧ I_3 n' true (IntKind.wrap .i64 (x9 + (1 : Int))) w1_6)
 (∃ n', n' < n_3 ∧ I_3 n' x7_2 (IntKind.wrap .i64 (x9 + (1 : Int))) w1_5)))
 (∃ n', n' < n_1 ∧ I_1 n' x7_1 w1_3))
 (∃ (I_2 : Nat → Sl → Int → World → Prop) (n0_2 : Nat), I_2 n0_2 (⟨none, 0, 0⟩ : Sl) (0 : Int) w1_2 ∧
 ∀ (n_2 : Nat) (u_2 : Env) (x10 : Sl) (x11 : Int) (w1_3 : World), I_2 n_2 x10 x11 w1_3 →
 IfB (decide (x11 < ((x0.l : Nat) : Int)))
 (∃ p84, t14.a = some p84 ∧ 0 ≤ x11 ∧ x11 < ((t14.l : Nat) : Int) ∧
 ∃ t85 : Int, Ld w1_3 (p84.add ((x11).toNat * 1)) (.int .i64 t85) ∧
 IfB (decide (t85 > (0 : Int)))
 (RunT prog .slice (Instr.buildSlice 25 1 #[(0, .int .i64 x11)]) w1_3 fun (t89 : Sl) w1_4 =>
 RunT prog .slice (Builtin.append_ #[25, 25] 25 #[.slice x10.a x10.l x10.c, .slice t89.a t89.l t89.c]) w1_4 fun (t90 : Sl) w1_5 =>
 ∃ n', n' < n_2 ∧ I_2 n' t90 (IntKind.wrap .i64 (x11 + (1 : Int))) w1_5)
 (∃ n', n' < n_2 ∧ I_2 n' x10 (IntKind.wrap .i64 (x11 + (1 : Int))) w1_3))
 (Q (.slice x10.a x10.l x10.c) w1_3)))
def an15 : Ann := { cut := fun i => bif Nat.beq i 15 then some [] else none, loop := fun i => bif Nat.beq i 3 then [(6, .int .i64)] else bif Nat.beq i 7 then [(7, .bool)] else bif Nat.beq i 10 then [(7, .bool), (8, .int .i64)] else bif Nat.beq i 13 then [(7, .bool), (9, .int .i64)] else bif Nat.beq i 20 then [(10, .slice), (11, .int .i64)] else [] }
theorem eq15 (x0 : Sl) (x1 : Int) (w : World) (Q : Value → World → Prop) : F15 x0 x1 w Q = vc prog an15 (Try.f15.body.getD .skip) (envOf [.slice x0.a x0.l x0.c, .int .i64 x1]) w (retK prog Try.f15 Q) := by kernel_rfl
theorem ok15 : codeOk Try.f15.ntmps (Try.f15.body.getD .skip) = true := by kernel_rfl
theorem W15 {x0 : Sl} {x1 : Int} {w : World} {Q : Value → World → Prop} (h : F15 x0 x1 w Q) : Calls prog 15 #[.slice x0.a x0.l x0.c, .int .i64 x1] w fun en w' => ∃ v, en = .returned v ∧ Q v w' :=
  calls_of_vc good follows an15 (args := [.slice x0.a x0.l x0.c, .int .i64 x1]) Try.func15 (by kernel_rfl) ok15 (of_decide_eq_true (by kernel_rfl)) (Eq.mp (eq15 x0 x1 w Q) h)

/-- bastion/bastionref15.Above -/
def F16 (x0 : Sl) (x1 : Int) (w : World) (Q : Value → World → Prop) : Prop :=
 ∃ (I : Nat → Sl → Int → World → Prop) (n0 : Nat), I n0 (⟨none, 0, 0⟩ : Sl) (0 : Int) w ∧
 ∀ (n : Nat) (u : Env) (x5 : Sl) (x6 : Int) (w1 : World), I n x5 x6 w1 →
 IfB (decide (x6 < ((x0.l : Nat) : Int)))
 (Calls prog 15 #[.slice x0.a x0.l x0.c, .int .i64 x6] w1 fun en w1_1 =>
 ∃ t15 : Sl, en = .returned (.slice t15.a t15.l t15.c) ∧
 Calls prog 26 #[.slice t15.a t15.l t15.c, .int .i64 x1] w1_1 fun en w1_2 =>
 ∃ t17 : Bool, en = .returned (.bool t17) ∧
 IfB t17
 (RunT prog .slice (Instr.buildSlice 25 1 #[(0, .int .i64 x6)]) w1_2 fun (t20 : Sl) w1_3 =>
 RunT prog .slice (Builtin.append_ #[25, 25] 25 #[.slice x5.a x5.l x5.c, .slice t20.a t20.l t20.c]) w1_3 fun (t21 : Sl) w1_4 =>
 ∃ n', n' < n ∧ I n' t21 (IntKind.wrap .i64 (x6 + (1 : Int))) w1_4)
 (∃ n', n' < n ∧ I n' x5 (IntKind.wrap .i64 (x6 + (1 : Int))) w1_2))
 (Q (.slice x5.a x5.l x5.c) w1)
def an16 : Ann := { cut := fun i => none, loop := fun i => bif Nat.beq i 3 then [(5, .slice), (6, .int .i64)] else [] }
theorem eq16 (x0 : Sl) (x1 : Int) (w : World) (Q : Value → World → Prop) : F16 x0 x1 w Q = vc prog an16 (Try.f16.body.getD .skip) (envOf [.slice x0.a x0.l x0.c, .int .i64 x1]) w (retK prog Try.f16 Q) := by kernel_rfl
theorem ok16 : codeOk Try.f16.ntmps (Try.f16.body.getD .skip) = true := by kernel_rfl
theorem W16 {x0 : Sl} {x1 : Int} {w : World} {Q : Value → World → Prop} (h : F16 x0 x1 w Q) : Calls prog 16 #[.slice x0.a x0.l x0.c, .int .i64 x1] w fun en w' => ∃ v, en = .returned v ∧ Q v w' :=
  calls_of_vc good follows an16 (args := [.slice x0.a x0.l x0.c, .int .i64 x1]) Try.func16 (by kernel_rfl) ok16 (of_decide_eq_true (by kernel_rfl)) (Eq.mp (eq16 x0 x1 w Q) h)

/-- bastion/bastionlaw15.same -/
def F17 (x0 : Sl) (x1 : Sl) (w : World) (Q : Value → World → Prop) : Prop :=
 IfB (((x0.l : Nat) : Int) != ((x1.l : Nat) : Int))
 (Q (.bool false) w)
 (∃ (I : Nat → Int → World → Prop) (n0 : Nat), I n0 (0 : Int) w ∧
 ∀ (n : Nat) (u : Env) (x5 : Int) (w1 : World), I n x5 w1 →
 IfB (decide (x5 < ((x0.l : Nat) : Int)))
 (∃ S : World → Prop, S w1.drew ∧
 ∃ p19, x0.a = some p19 ∧ 0 ≤ x5 ∧ x5 < ((x0.l : Nat) : Int) ∧
 ∃ t20 : Sl, (∀ w', S w' → Ld w' (p19.add ((x5).toNat * 1)) (.slice t20.a t20.l t20.c)) ∧
 ∃ p23, x1.a = some p23 ∧ 0 ≤ x5 ∧ x5 < ((x1.l : Nat) : Int) ∧
 ∃ t24 : Sl, (∀ w', S w' → Ld w' (p23.add ((x5).toNat * 1)) (.slice t24.a t24.l t24.c)) ∧
 Calls prog 14 #[.slice t20.a t20.l t20.c, .slice t24.a t24.l t24.c] w1.drew fun en w1_1 =>
 ∃ t25 : Bool, en = .returned (.bool t25) ∧
 IfB (!t25)
 (Q (.bool false) w1_1)
 (∃ n', n' < n ∧ I n' (IntKind.wrap .i64 (x5 + (1 : Int))) w1_1))
 (Q (.bool true) w1))
def an17 : Ann := { cut := fun i => none, loop := fun i => bif Nat.beq i 4 then [(5, .int .i64)] else [] }
theorem eq17 (x0 : Sl) (x1 : Sl) (w : World) (Q : Value → World → Prop) : F17 x0 x1 w Q = vc prog an17 (Try.f17.body.getD .skip) (envOf [.slice x0.a x0.l x0.c, .slice x1.a x1.l x1.c]) w (retK prog Try.f17 Q) := by kernel_rfl
theorem ok17 : codeOk Try.f17.ntmps (Try.f17.body.getD .skip) = true := by kernel_rfl
theorem W17 {x0 : Sl} {x1 : Sl} {w : World} {Q : Value → World → Prop} (h : F17 x0 x1 w Q) : Calls prog 17 #[.slice x0.a x0.l x0.c, .slice x1.a x1.l x1.c] w fun en w' => ∃ v, en = .returned v ∧ Q v w' :=
  calls_of_vc good follows an17 (args := [.slice x0.a x0.l x0.c, .slice x1.a x1.l x1.c]) Try.func17 (by kernel_rfl) ok17 (of_decide_eq_true (by kernel_rfl)) (Eq.mp (eq17 x0 x1 w Q) h)

/-- bastion/graph.Sort -/
def F18 (x0 : Sl) (w : World) (Q : Value → World → Prop) : Prop :=
 Calls prog 23 #[.slice x0.a x0.l x0.c] w fun en w1 =>
 ∃ t14 : Bool, en = .returned (.bool t14) ∧
 IfB (!t14)
 (Q (.tuple #[.slice none 0 0, .int .i64 1]) w1)
 (Calls prog 25 #[.slice x0.a x0.l x0.c] w1 fun en w1_1 =>
 ∃ t17 : Sl, en = .returned (.slice t17.a t17.l t17.c) ∧
 RunT prog .slice (Instr.makeSlice 25 (.int .i64 ((x0.l : Nat) : Int)) (.int .i64 ((x0.l : Nat) : Int))) w1_1 fun (t20 : Sl) w1_2 =>
 ∃ t21 : Array Value, BuildIs prog 39 #[] t21 ∧
 ∀ b22 w1_3, NewB w1_2 (.cells t21 39) b22 w1_3 →
 ∃ (I : Nat → Int → World → Prop) (n0 : Nat), I n0 (0 : Int) w1_3 ∧
 ∀ (n : Nat) (u : Env) (x25 : Int) (w1_4 : World), I n x25 w1_4 →
 IfB (decide (x25 < ((x0.l : Nat) : Int)))
 (∃ p28, x0.a = some p28 ∧ 0 ≤ x25 ∧ x25 < ((x0.l : Nat) : Int) ∧
 ∃ t29 : Sl, Ld w1_4 (p28.add ((x25).toNat * 1)) (.slice t29.a t29.l t29.c) ∧
 ∃ p34, t20.a = some p34 ∧ 0 ≤ x25 ∧ x25 < ((t20.l : Nat) : Int) ∧
 Wr w1_4 (p34.add ((x25).toNat * 1)) ∧ ∀ w1_5, w1_5 = w1_4.setCell (p34.add ((x25).toNat * 1)) (.int .i64 ((t29.l : Nat) : Int)) →
 IfB (((t29.l : Nat) : Int) == (0 : Int))
 (RunT prog .val (Instr.makeInterface 36 (.pointer (some (⟨b22, 0, none⟩ : Addr)))) w1_5 fun (t39 : Value) w1_6 =>
 RunT prog .val (Instr.makeInterface 3 (.int .i64 x25)) w1_6 fun (t41 : Value) w1_7 =>
 Calls prog 27 #[t39, t41] w1_7 fun en w1_8 =>
 en = .returned (.tuple #[]) ∧
 ∃ n', n' < n ∧ I n' (IntKind.wrap .i64 (x25 + (1 : Int))) w1_8)
 (∃ n', n' < n ∧ I n' (IntKind.wrap .i64 (x25 + (1 : Int))) w1_5))
 (∃ (I_1 : Nat → Sl → World → Prop) (n0_1 : Nat), I_1 n0_1 (⟨none, 0, 0⟩ : Sl) w1_4 ∧
 ∀ (n_1 : Nat) (u_1 : Env) (x9 : Sl) (w1_5 : World), I_1 n_1 x9 w1_5 →
 ∃ p45, some (⟨b22, 0, none⟩ : Addr) = some p45 ∧
 ∃ t47 : Sl, Ld w1_5 (p45.add 0) (.slice t47.a t47.l t47.c) ∧
 Calls prog 28 #[.slice t47.a t47.l t47.c] w1_5 fun en w1_6 =>
 ∃ t48 : Int, en = .returned (.int .i64 t48) ∧
 IfB (decide (t48 > (0 : Int)))
 (RunT prog .val (Instr.makeInterface 36 (.pointer (some (⟨b22, 0, none⟩ : Addr)))) w1_6 fun (t51 : Value) w1_7 =>
 Calls prog 29 #[t51] w1_7 fun en w1_8 =>
 ∃ t52 : Value, en = .returned (t52) ∧
 RunT prog .val (Instr.typeAssert t52 20 3 false) w1_8 fun (v53 : Value) w1_9 =>
 ∃ t53 : Int, v53 = (.int .i64 t53) ∧
 RunT prog .slice (Instr.buildSlice 25 1 #[(0, .int .i64 t53)]) w1_9 fun (t56 : Sl) w1_10 =>
 RunT prog .slice (Builtin.append_ #[25, 25] 25 #[.slice x9.a x9.l x9.c, .slice t56.a t56.l t56.c]) w1_10 fun (t57 : Sl) w1_11 =>
 ∃ p60, t17.a = some p60 ∧ 0 ≤ t53 ∧ t53 < ((t17.l : Nat) : Int) ∧
 ∃ t61 : Sl, Ld w1_11 (p60.add ((t53).toNat * 1)) (.slice t61.a t61.l t61.c) ∧
 ∃ (I_2 : Nat → Int → World → Prop) (n0_2 : Nat), I_2 n0_2 (0 : Int) w1_11 ∧
 ∀ (n_2 : Nat) (u_2 : Env) (x63 : Int) (w1_12 : World), I_2 n_2 x63 w1_12 →
 IfB (decide (x63 < ((t61.l : Nat) : Int)))
 (∃ p65, t61.a = some p65 ∧ 0 ≤ x63 ∧ x63 < ((t61.l : Nat) : Int) ∧
 ∃ t66 : Int, Ld w1_12 (p65.add ((x63).toNat * 1)) (.int .i64 t66) ∧
 ∃ p69, t20.a = some p69 ∧ 0 ≤ t66 ∧ t66 < ((t20.l : Nat) : Int) ∧
 ∃ t70 : Int, Ld w1_12 (p69.add ((t66).toNat * 1)) (.int .i64 t70) ∧
 ∃ p72, t20.a = some p72 ∧ 0 ≤ t66 ∧ t66 < ((t20.l : Nat) : Int) ∧
 Wr w1_12 (p72.add ((t66).toNat * 1)) ∧ ∀ w1_13, w1_13 = w1_12.setCell (p72.add ((t66).toNat * 1)) (.int .i64 (IntKind.wrap .i64 (t70 - (1 : Int)))) →
 ∃ p75, t20.a = some p75 ∧ 0 ≤ t66 ∧ t66 < ((t20.l : Nat) : Int) ∧
 ∃ t76 : Int, Ld w1_13 (p75.add ((t66).toNat * 1)) (.int .i64 t76) ∧
 IfB (t76 == (0 : Int))
 (RunT prog .val (Instr.makeInterface 36 (.pointer (some (⟨b22, 0, none⟩ : Addr)))) w1_13 fun (t79 : Value) w1_14 =>
 RunT prog .val (Instr.makeInterface 3 (.int .i64 t66)) w1_14 fun (t81 : Value) w1_15 =>
 Calls prog 27 #[t79, t81] w1_15 fun en w1_16 =>
 en = .returned (.tuple #[]) ∧
 ∃ n', n' < n_2 ∧ I_2 n' (IntKind.wrap .i64 (x63 + (1 : Int))) w1_16)
 (∃ n', n' < n_2 ∧ I_2 n' (IntKind.wrap .i64 (x63 + (1 : Int))) w1_13))
 (∃ n', n' < n_1 ∧ I_1 n' t57 w1_12))
 (IfB (decide (((x9.l : Nat) : Int) < ((x0.l : Nat) : Int)))
 (Q (.tuple #[.slice none 0 0, .int .i64 64]) w1_6)
 (Q (.tuple #[.slice x9.a x9.l x9.c, .int .i64 0]) w1_6))))
def an18 : Ann := { cut := fun i => none, loop := fun i => bif Nat.beq i 7 then [(25, .int .i64)] else bif Nat.beq i 14 then [(9, .slice)] else bif Nat.beq i 18 then [(63, .int .i64)] else [] }
theorem eq18 (x0 : Sl) (w : World) (Q : Value → World → Prop) : F18 x0 w Q = vc prog an18 (Try.f18.body.getD .skip) (envOf [.slice x0.a x0.l x0.c]) w (retK prog Try.f18 Q) := by kernel_rfl
theorem ok18 : codeOk Try.f18.ntmps (Try.f18.body.getD .skip) = true := by kernel_rfl
theorem W18 {x0 : Sl} {w : World} {Q : Value → World → Prop} (h : F18 x0 w Q) : Calls prog 18 #[.slice x0.a x0.l x0.c] w fun en w' => ∃ v, en = .returned v ∧ Q v w' :=
  calls_of_vc good follows an18 (args := [.slice x0.a x0.l x0.c]) Try.func18 (by kernel_rfl) ok18 (of_decide_eq_true (by kernel_rfl)) (Eq.mp (eq18 x0 w Q) h)

/-- bastion/bastionref15.Sort -/
def F19 (x0 : Sl) (w : World) (Q : Value → World → Prop) : Prop :=
 Calls prog 13 #[.slice x0.a x0.l x0.c] w fun en w1 =>
 ∃ t10 : Bool, en = .returned (.bool t10) ∧
 IfB (!t10)
 (Q (.tuple #[.slice none 0 0, .int .i64 1]) w1)
 (∃ (I : Nat → Sl → World → Prop) (n0 : Nat), I n0 (⟨none, 0, 0⟩ : Sl) w1 ∧
 ∀ (n : Nat) (u : Env) (x4 : Sl) (w1_1 : World), I n x4 w1_1 →
 IfB (decide (((x4.l : Nat) : Int) < ((x0.l : Nat) : Int)))
 (∃ (I_1 : Nat → Int → Int → World → Prop) (n0_1 : Nat), I_1 n0_1 (-1 : Int) (IntKind.wrap .i64 (((x0.l : Nat) : Int) - (1 : Int))) w1_1 ∧
 ∀ (n_1 : Nat) (u_1 : Env) (x5 : Int) (x6 : Int) (w1_2 : World), I_1 n_1 x5 x6 w1_2 →
 IfB (decide (x6 ≥ (0 : Int)))
 (Calls prog 26 #[.slice x4.a x4.l x4.c, .int .i64 x6] w1_2 fun en w1_3 =>
 ∃ t26 : Bool, en = .returned (.bool t26) ∧
 ∃ (I_2 : Nat → Bool → Int → World → Prop) (n0_2 : Nat), I_2 n0_2 (!t26) (0 : Int) w1_3 ∧
 ∀ (n_2 : Nat) (u_2 : Env) (x7 : Bool) (x8 : Int) (w1_4 : World), I_2 n_2 x7 x8 w1_4 →
 ∃ p31, x0.a = some p31 ∧ 0 ≤ x6 ∧ x6 < ((x0.l : Nat) : Int) ∧
 ∃ t32 : Sl, Ld w1_4 (p31.add ((x6).toNat * 1)) (.slice t32.a t32.l t32.c) ∧
 IfB (decide (x8 < ((t32.l : Nat) : Int)))
 (IfB x7
 (∃ p42, x0.a = some p42 ∧ 0 ≤ x6 ∧ x6 < ((x0.l : Nat) : Int) ∧
 ∃ t43 : Sl, Ld w1_4 (p42.add ((x6).toNat * 1)) (.slice t43.a t43.l t43.c) ∧
 ∃ p45, t43.a = some p45 ∧ 0 ≤ x8 ∧ x8 < ((t43.l : Nat) : Int) ∧
 ∃ t46 : Int, Ld w1_4 (p45.add ((x8).toNat * 1)) (.int .i64 t46) ∧
 Calls prog 26 #[.slice x4.a x4.l x4.c, .int .i64 t46] w1_4 fun en w1_5 =>
 ∃ t47 : Bool, en = .returned (.bool t47) ∧
 ∃ n', n' < n_2 ∧ I_2 n' t47 (IntKind.wrap .i64 (x8 + (1 : Int))) w1_5)
 (∃ n', n' < n_2 ∧ I_2 n' false (IntKind.wrap .i64 (x8 + (1 : Int))) w1_4))
 (IfB x7
 (∃ n', n' < n_1 ∧ I_1 n' x6 (IntKind.wrap .i64 (x6 - (1 : Int))) w1_4)
 (∃ n', n' < n_1 ∧ I_1 n' x5 (IntKind.wrap .i64 (x6 - (1 : Int))) w1_4)))
 (IfB (decide (x5 < (0 : Int)))
 (Q (.tuple #[.slice none 0 0, .int .i64 64]) w1_2)
 (RunT prog .slice (Instr.buildSlice 25 1 #[(0, .int .i64 x5)]) w1_2 fun (t55 : Sl) w1_3 =>
 RunT prog .slice (Builtin.append_ #[25, 25] 25 #[.slice x4.a x4.l x4.c, .slice t55.a t55.l t55.c]) w1_3 fun (t56 : Sl) w1_4 =>
 ∃ n', n' < n ∧ I n' t56 w1_4)))
 (Q (.tuple #[.slice x4.a x4.l x4.c, .int .i64 0]) w1_1))
def an19 : Ann := { cut := fun i => none, loop := fun i => bif Nat.beq i 4 then [(4, .slice)] else bif Nat.beq i 7 then [(5, .int .i64), (6, .int .i64)] else bif Nat.beq i 11 then [(7, .bool), (8, .int .i64)] else [] }
theorem eq19 (x0 : Sl) (w : World) (Q : Value → World → Prop) : F19 x0 w Q = vc prog an19 (Try.f19.body.getD .skip) (envOf [.slice x0.a x0.l x0.c]) w (retK prog Try.f19 Q) := by kernel_rfl
theorem ok19 : codeOk Try.f19.ntmps (Try.f19.body.getD .skip) = true := by kernel_rfl
theorem W19 {x0 : Sl} {w : World} {Q : Value → World → Prop} (h : F19 x0 w Q) : Calls prog 19 #[.slice x0.a x0.l x0.c] w fun en w' => ∃ v, en = .returned v ∧ Q v w' :=
  calls_of_vc good follows an19 (args := [.slice x0.a x0.l x0.c]) Try.func19 (by kernel_rfl) ok19 (of_decide_eq_true (by kernel_rfl)) (Eq.mp (eq19 x0 w Q) h)

/-- bastion/graph.Levels -/
def F20 (x0 : Sl) (w : World) (Q : Value → World → Prop) : Prop :=
 Calls prog 18 #[.slice x0.a x0.l x0.c] w fun en w1 =>
 ∃ t13a : Sl, ∃ t13b : Int, en = .returned (.tuple #[.slice t13a.a t13a.l t13a.c, .int .i64 t13b]) ∧
 IfB (t13b != (0 : Int))
 (Q (.tuple #[.slice none 0 0, .int .i64 t13b]) w1)
 (RunT prog .slice (Instr.makeSlice 25 (.int .i64 ((x0.l : Nat) : Int)) (.int .i64 ((x0.l : Nat) : Int))) w1 fun (t21 : Sl) w1_1 =>
 ∃ (I : Nat → Int → World → Prop) (n0 : Nat), I n0 (0 : Int) w1_1 ∧
 ∀ (n : Nat) (u : Env) (x24 : Int) (w1_2 : World), I n x24 w1_2 →
 IfB (decide (x24 < ((t13a.l : Nat) : Int)))
 (∃ p26, t13a.a = some p26 ∧ 0 ≤ x24 ∧ x24 < ((t13a.l : Nat) : Int) ∧
 ∃ t27 : Int, Ld w1_2 (p26.add ((x24).toNat * 1)) (.int .i64 t27) ∧
 ∃ p30, x0.a = some p30 ∧ 0 ≤ t27 ∧ t27 < ((x0.l : Nat) : Int) ∧
 ∃ t31 : Sl, Ld w1_2 (p30.add ((t27).toNat * 1)) (.slice t31.a t31.l t31.c) ∧
 ∃ (I_1 : Nat → Int → World → Prop) (n0_1 : Nat), I_1 n0_1 (0 : Int) w1_2 ∧
 ∀ (n_1 : Nat) (u_1 : Env) (x33 : Int) (w1_3 : World), I_1 n_1 x33 w1_3 →
 IfB (decide (x33 < ((t31.l : Nat) : Int)))
 (∃ p35, t31.a = some p35 ∧ 0 ≤ x33 ∧ x33 < ((t31.l : Nat) : Int) ∧
 ∃ t36 : Int, Ld w1_3 (p35.add ((x33).toNat * 1)) (.int .i64 t36) ∧
 ∃ S : World → Prop, S w1_3.drew ∧
 ∃ p41, t21.a = some p41 ∧ 0 ≤ t27 ∧ t27 < ((t21.l : Nat) : Int) ∧
 ∃ t42 : Int, (∀ w', S w' → Ld w' (p41.add ((t27).toNat * 1)) (.int .i64 t42)) ∧
 ∃ p45, t21.a = some p45 ∧ 0 ≤ t36 ∧ t36 < ((t21.l : Nat) : Int) ∧
 ∃ t46 : Int, (∀ w', S w' → Ld w' (p45.add ((t36).toNat * 1)) (.int .i64 t46)) ∧
 ∃ p49, t21.a = some p49 ∧ 0 ≤ t27 ∧ t27 < ((t21.l : Nat) : Int) ∧
 Wr w1_3.drew (p49.add ((t27).toNat * 1)) ∧ ∀ w1_4, w1_4 = w1_3.drew.setCell (p49.add ((t27).toNat * 1)) (.int .i64 (if IntKind.wrap .i64 (t46 + (1 : Int)) > t42 then IntKind.wrap .i64 (t46 + (1 : Int)) else t42)) →
 ∃ n', n' < n_1 ∧ I_1 n' (IntKind.wrap .i64 (x33 + (1 : Int))) w1_4)
 (∃ n', n' < n ∧ I n' (IntKind.wrap .i64 (x24 + (1 : Int))) w1_3))
 (Q (.tuple #[.slice t21.a t21.l t21.c, .int .i64 0]) w1_2))
def an20 : Ann := { cut := fun i => none, loop := fun i => bif Nat.beq i 6 then [(24, .int .i64)] else bif Nat.beq i 9 then [(33, .int .i64)] else [] }
theorem eq20 (x0 : Sl) (w : World) (Q : Value → World → Prop) : F20 x0 w Q = vc prog an20 (Try.f20.body.getD .skip) (envOf [.slice x0.a x0.l x0.c]) w (retK prog Try.f20 Q) := by kernel_rfl
theorem ok20 : codeOk Try.f20.ntmps (Try.f20.body.getD .skip) = true := by kernel_rfl
theorem W20 {x0 : Sl} {w : World} {Q : Value → World → Prop} (h : F20 x0 w Q) : Calls prog 20 #[.slice x0.a x0.l x0.c] w fun en w' => ∃ v, en = .returned v ∧ Q v w' :=
  calls_of_vc good follows an20 (args := [.slice x0.a x0.l x0.c]) Try.func20 (by kernel_rfl) ok20 (of_decide_eq_true (by kernel_rfl)) (Eq.mp (eq20 x0 w Q) h)

/-- bastion/bastionref15.Levels -/
def F21 (x0 : Sl) (w : World) (Q : Value → World → Prop) : Prop :=
 Calls prog 19 #[.slice x0.a x0.l x0.c] w fun en w1 =>
 ∃ t12a : Sl, ∃ t12b : Int, en = .returned (.tuple #[.slice t12a.a t12a.l t12a.c, .int .i64 t12b]) ∧
 IfB (t12b != (0 : Int))
 (Q (.tuple #[.slice none 0 0, .int .i64 t12b]) w1)
 (RunT prog .slice (Instr.makeSlice 25 (.int .i64 ((x0.l : Nat) : Int)) (.int .i64 ((x0.l : Nat) : Int))) w1 fun (t20 : Sl) w1_1 =>
 ∃ (I : Nat → Int → World → Prop) (n0 : Nat), I n0 (0 : Int) w1_1 ∧
 ∀ (n : Nat) (u : Env) (x7 : Int) (w1_2 : World), I n x7 w1_2 →
 IfB (decide (x7 < ((t12a.l : Nat) : Int)))
 (∃ p29, t12a.a = some p29 ∧ 0 ≤ x7 ∧ x7 < ((t12a.l : Nat) : Int) ∧
 ∃ t30 : Int, Ld w1_2 (p29.add ((x7).toNat * 1)) (.int .i64 t30) ∧
 ∃ (I_1 : Nat → Int → World → Prop) (n0_1 : Nat), I_1 n0_1 (0 : Int) w1_2 ∧
 ∀ (n_1 : Nat) (u_1 : Env) (x9 : Int) (w1_3 : World), I_1 n_1 x9 w1_3 →
 ∃ p34, x0.a = some p34 ∧ 0 ≤ t30 ∧ t30 < ((x0.l : Nat) : Int) ∧
 ∃ t35 : Sl, Ld w1_3 (p34.add ((t30).toNat * 1)) (.slice t35.a t35.l t35.c) ∧
 IfB (decide (x9 < ((t35.l : Nat) : Int)))
 (∃ p43, x0.a = some p43 ∧ 0 ≤ t30 ∧ t30 < ((x0.l : Nat) : Int) ∧
 ∃ t44 : Sl, Ld w1_3.drew (p43.add ((t30).toNat * 1)) (.slice t44.a t44.l t44.c) ∧
 ∃ p46, t44.a = some p46 ∧ 0 ≤ x9 ∧ x9 < ((t44.l : Nat) : Int) ∧
 ∃ t47 : Int, Ld w1_3.drew (p46.add ((x9).toNat * 1)) (.int .i64 t47) ∧
 ∃ p48, t20.a = some p48 ∧ 0 ≤ t47 ∧ t47 < ((t20.l : Nat) : Int) ∧
 ∃ t49 : Int, Ld w1_3.drew (p48.add ((t47).toNat * 1)) (.int .i64 t49) ∧
 ∃ p52, t20.a = some p52 ∧ 0 ≤ t30 ∧ t30 < ((t20.l : Nat) : Int) ∧
 ∃ t53 : Int, Ld w1_3.drew (p52.add ((t30).toNat * 1)) (.int .i64 t53) ∧
 IfB (decide (t49 ≥ t53))
 (∃ p60, x0.a = some p60 ∧ 0 ≤ t30 ∧ t30 < ((x0.l : Nat) : Int) ∧
 ∃ t61 : Sl, Ld w1_3.drew (p60.add ((t30).toNat * 1)) (.slice t61.a t61.l t61.c) ∧
 ∃ p63, t61.a = some p63 ∧ 0 ≤ x9 ∧ x9 < ((t61.l : Nat) : Int) ∧
 ∃ t64 : Int, Ld w1_3.drew (p63.add ((x9).toNat * 1)) (.int .i64 t64) ∧
 ∃ p65, t20.a = some p65 ∧ 0 ≤ t64 ∧ t64 < ((t20.l : Nat) : Int) ∧
 ∃ t66 : Int, Ld w1_3.drew (p65.add ((t64).toNat * 1)) (.int .i64 t66) ∧
 ∃ p68, t20.a = some p68 ∧ 0 ≤ t30 ∧ t30 < ((t20.l : Nat) : Int) ∧
 Wr w1_3.drew (p68.add ((t30).toNat * 1)) ∧ ∀ w1_4, w1_4 = w1_3.drew.setCell (p68.add ((t30).toNat * 1)) (.int .i64 (IntKind.wrap .i64 (t66 + (1 : Int)))) →
 ∃ n', n' < n_1 ∧ I_1 n' (IntKind.wrap .i64 (x9 + (1 : Int))) w1_4)
 (∃ n', n' < n_1 ∧ I_1 n' (IntKind.wrap .i64 (x9 + (1 : Int))) w1_3.drew))
 (∃ n', n' < n ∧ I n' (IntKind.wrap .i64 (x7 + (1 : Int))) w1_3))
 (Q (.tuple #[.slice t20.a t20.l t20.c, .int .i64 0]) w1_2))
def an21 : Ann := { cut := fun i => none, loop := fun i => bif Nat.beq i 6 then [(7, .int .i64)] else bif Nat.beq i 10 then [(9, .int .i64)] else [] }
theorem eq21 (x0 : Sl) (w : World) (Q : Value → World → Prop) : F21 x0 w Q = vc prog an21 (Try.f21.body.getD .skip) (envOf [.slice x0.a x0.l x0.c]) w (retK prog Try.f21 Q) := by kernel_rfl
theorem ok21 : codeOk Try.f21.ntmps (Try.f21.body.getD .skip) = true := by kernel_rfl
theorem W21 {x0 : Sl} {w : World} {Q : Value → World → Prop} (h : F21 x0 w Q) : Calls prog 21 #[.slice x0.a x0.l x0.c] w fun en w' => ∃ v, en = .returned v ∧ Q v w' :=
  calls_of_vc good follows an21 (args := [.slice x0.a x0.l x0.c]) Try.func21 (by kernel_rfl) ok21 (of_decide_eq_true (by kernel_rfl)) (Eq.mp (eq21 x0 w Q) h)

/-- bastion/bastionlaw15.works -/
def F22 (w : World) (Q : Value → World → Prop) : Prop :=
 RunT prog .slice (Instr.buildSlice 25 1 #[(0, .int .i64 2)]) w fun (t10 : Sl) w1 =>
 RunT prog .slice (Instr.buildSlice 25 0 #[]) w1 fun (t11 : Sl) w1_1 =>
 RunT prog .slice (Instr.buildSlice 25 1 #[(0, .int .i64 1)]) w1_1 fun (t12 : Sl) w1_2 =>
 RunT prog .slice (Instr.buildSlice 25 2 #[(0, .int .i64 0), (1, .int .i64 2)]) w1_2 fun (t13 : Sl) w1_3 =>
 RunT prog .slice (Instr.buildSlice 22 4 #[(0, .slice t10.a t10.l t10.c), (1, .slice t11.a t11.l t11.c), (2, .slice t12.a t12.l t12.c), (3, .slice t13.a t13.l t13.c)]) w1_3 fun (t14 : Sl) w1_4 =>
 Calls prog 18 #[.slice t14.a t14.l t14.c] w1_4 fun en w1_5 =>
 ∃ t17a : Sl, ∃ t17b : Int, en = .returned (.tuple #[.slice t17a.a t17a.l t17a.c, .int .i64 t17b]) ∧
 Calls prog 20 #[.slice t14.a t14.l t14.c] w1_5 fun en w1_6 =>
 ∃ t22a : Sl, ∃ t22b : Int, en = .returned (.tuple #[.slice t22a.a t22a.l t22a.c, .int .i64 t22b]) ∧
 Calls prog 11 #[.slice t14.a t14.l t14.c, .int .i64 3] w1_6 fun en w1_7 =>
 ∃ t27a : Sl, ∃ t27b : Int, en = .returned (.tuple #[.slice t27a.a t27a.l t27a.c, .int .i64 t27b]) ∧
 Calls prog 12 #[.slice t14.a t14.l t14.c, .int .i64 1] w1_7 fun en w1_8 =>
 ∃ t32a : Sl, ∃ t32b : Int, en = .returned (.tuple #[.slice t32a.a t32a.l t32a.c, .int .i64 t32b]) ∧
 IfB (t17b == (0 : Int))
 (IfB (t22b == (0 : Int))
 (IfB (t27b == (0 : Int))
 (IfB (t32b == (0 : Int))
 (RunT prog .slice (Instr.buildSlice 25 4 #[(0, .int .i64 1), (1, .int .i64 2), (2, .int .i64 0), (3, .int .i64 3)]) w1_8 fun (t51 : Sl) w1_9 =>
 Calls prog 14 #[.slice t17a.a t17a.l t17a.c, .slice t51.a t51.l t51.c] w1_9 fun en w1_10 =>
 ∃ t52 : Bool, en = .returned (.bool t52) ∧
 IfB t52
 (RunT prog .slice (Instr.buildSlice 25 4 #[(0, .int .i64 2), (1, .int .i64 0), (2, .int .i64 1), (3, .int .i64 3)]) w1_10 fun (t56 : Sl) w1_11 =>
 Calls prog 14 #[.slice t22a.a t22a.l t22a.c, .slice t56.a t56.l t56.c] w1_11 fun en w1_12 =>
 ∃ t57 : Bool, en = .returned (.bool t57) ∧
 IfB t57
 (RunT prog .slice (Instr.buildSlice 25 3 #[(0, .int .i64 0), (1, .int .i64 1), (2, .int .i64 2)]) w1_12 fun (t61 : Sl) w1_13 =>
 Calls prog 14 #[.slice t27a.a t27a.l t27a.c, .slice t61.a t61.l t61.c] w1_13 fun en w1_14 =>
 ∃ t62 : Bool, en = .returned (.bool t62) ∧
 IfB t62
 (RunT prog .slice (Instr.buildSlice 25 3 #[(0, .int .i64 0), (1, .int .i64 2), (2, .int .i64 3)]) w1_14 fun (t66 : Sl) w1_15 =>
 Calls prog 14 #[.slice t32a.a t32a.l t32a.c, .slice t66.a t66.l t66.c] w1_15 fun en w1_16 =>
 ∃ t67 : Bool, en = .returned (.bool t67) ∧
 Q (.bool t67) w1_16)
 (Q (.bool false) w1_14))
 (Q (.bool false) w1_12))
 (Q (.bool false) w1_10))
 (Q (.bool false) w1_8))
 (Q (.bool false) w1_8))
 (Q (.bool false) w1_8))
 (Q (.bool false) w1_8)
def an22 : Ann := { cut := fun i => none, loop := fun i => [] }
theorem eq22 (w : World) (Q : Value → World → Prop) : F22  w Q = vc prog an22 (Try.f22.body.getD .skip) (envOf []) w (retK prog Try.f22 Q) := by kernel_rfl
theorem ok22 : codeOk Try.f22.ntmps (Try.f22.body.getD .skip) = true := by kernel_rfl
theorem W22 {w : World} {Q : Value → World → Prop} (h : F22  w Q) : Calls prog 22 #[] w fun en w' => ∃ v, en = .returned v ∧ Q v w' :=
  calls_of_vc good follows an22 (args := []) Try.func22 (by kernel_rfl) ok22 (of_decide_eq_true (by kernel_rfl)) (Eq.mp (eq22  w Q) h)

/-- bastion/graph.may -/
def F23 (x0 : Sl) (w : World) (Q : Value → World → Prop) : Prop :=
 ∀ b1 w1, NewB w (.cells #[.slice x0.a x0.l x0.c] 22) b1 w1 →
 ∃ t6 : Sl, Ld w1 (⟨b1, 0, none⟩ : Addr) (.slice t6.a t6.l t6.c) ∧
 ∃ (I : Nat → Int → Int → World → Prop) (n0 : Nat), I n0 (0 : Int) (0 : Int) w1 ∧
 ∀ (n : Nat) (u : Env) (x3 : Int) (x8 : Int) (w1_1 : World), I n x3 x8 w1_1 →
 IfB (decide (x8 < ((t6.l : Nat) : Int)))
 (∃ p10, t6.a = some p10 ∧ 0 ≤ x8 ∧ x8 < ((t6.l : Nat) : Int) ∧
 ∃ t11 : Sl, Ld w1_1 (p10.add ((x8).toNat * 1)) (.slice t11.a t11.l t11.c) ∧
 ∃ n', n' < n ∧ I n' (IntKind.wrap .i64 (x3 + ((t11.l : Nat) : Int))) (IntKind.wrap .i64 (x8 + (1 : Int))) w1_1)
 (∃ t17 : Sl, Ld w1_1 (⟨b1, 0, none⟩ : Addr) (.slice t17.a t17.l t17.c) ∧
 IfB (decide (((t17.l : Nat) : Int) > (4096 : Int)))
 (Q (.bool false) w1_1)
 (IfB (decide (x3 > (65536 : Int)))
 (Q (.bool false) w1_1)
 (∃ t24 : Sl, Ld w1_1 (⟨b1, 0, none⟩ : Addr) (.slice t24.a t24.l t24.c) ∧
 Calls prog 30 #[.slice t24.a t24.l t24.c, .func (.func 31) #[] #[.pointer (some (⟨b1, 0, none⟩ : Addr))]] w1_1 fun en w1_2 =>
 ∃ t26 : Bool, en = .returned (.bool t26) ∧
 Q (.bool (!t26)) w1_2)))
def an23 : Ann := { cut := fun i => none, loop := fun i => bif Nat.beq i 3 then [(3, .int .i64), (8, .int .i64)] else [] }
theorem eq23 (x0 : Sl) (w : World) (Q : Value → World → Prop) : F23 x0 w Q = vc prog an23 (Try.f23.body.getD .skip) (envOf [.slice x0.a x0.l x0.c]) w (retK prog Try.f23 Q) := by kernel_rfl
theorem ok23 : codeOk Try.f23.ntmps (Try.f23.body.getD .skip) = true := by kernel_rfl
theorem W23 {x0 : Sl} {w : World} {Q : Value → World → Prop} (h : F23 x0 w Q) : Calls prog 23 #[.slice x0.a x0.l x0.c] w fun en w' => ∃ v, en = .returned v ∧ Q v w' :=
  calls_of_vc good follows an23 (args := [.slice x0.a x0.l x0.c]) Try.func23 (by kernel_rfl) ok23 (of_decide_eq_true (by kernel_rfl)) (Eq.mp (eq23 x0 w Q) h)

/-- bastion/graph.reach -/
def F24 (x0 : Sl) (x1 : Int) (w : World) (Q : Value → World → Prop) : Prop :=
 RunT prog .slice (Instr.makeSlice 47 (.int .i64 ((x0.l : Nat) : Int)) (.int .i64 ((x0.l : Nat) : Int))) w fun (t15 : Sl) w1 =>
 RunT prog .slice (Instr.buildSlice 25 1 #[(0, .int .i64 x1)]) w1 fun (t17 : Sl) w1_1 =>
 ∃ (I : Nat → Sl → World → Prop) (n0 : Nat), I n0 t17 w1_1 ∧
 ∀ (n : Nat) (u : Env) (x6 : Sl) (w1_2 : World), I n x6 w1_2 →
 IfB (decide (((x6.l : Nat) : Int) > (0 : Int)))
 (∃ p25, x6.a = some p25 ∧ 0 ≤ IntKind.wrap .i64 (((x6.l : Nat) : Int) - (1 : Int)) ∧ IntKind.wrap .i64 (((x6.l : Nat) : Int) - (1 : Int)) < ((x6.l : Nat) : Int) ∧
 ∃ t26 : Int, Ld w1_2 (p25.add ((IntKind.wrap .i64 (((x6.l : Nat) : Int) - (1 : Int))).toNat * 1)) (.int .i64 t26) ∧
 (0 ≤ IntKind.wrap .i64 (((x6.l : Nat) : Int) - (1 : Int)) ∧ IntKind.wrap .i64 (((x6.l : Nat) : Int) - (1 : Int)) ≤ ((x6.c : Nat) : Int)) ∧
 (0 ≤ IntKind.wrap .i64 (((x6.l : Nat) : Int) - (1 : Int)) ∧ IntKind.wrap .i64 (((x6.l : Nat) : Int) - (1 : Int)) ≤ (((IntKind.wrap .i64 (((x6.l : Nat) : Int) - (1 : Int))).toNat : Nat) : Int)) ∧
 ∃ p37, x0.a = some p37 ∧ 0 ≤ t26 ∧ t26 < ((x0.l : Nat) : Int) ∧
 ∃ t38 : Sl, Ld w1_2 (p37.add ((t26).toNat * 1)) (.slice t38.a t38.l t38.c) ∧
 ∃ (I_1 : Nat → Sl → Int → World → Prop) (n0_1 : Nat), I_1 n0_1 (⟨slA x6.a 0 ((IntKind.wrap .i64 (((x6.l : Nat) : Int) - (1 : Int))).toNat) 1, (IntKind.wrap .i64 (((x6.l : Nat) : Int) - (1 : Int))).toNat - 0, (IntKind.wrap .i64 (((x6.l : Nat) : Int) - (1 : Int))).toNat - 0⟩ : Sl) (0 : Int) w1_2 ∧
 ∀ (n_1 : Nat) (u_1 : Env) (x6_1 : Sl) (x40 : Int) (w1_3 : World), I_1 n_1 x6_1 x40 w1_3 →
 IfB (decide (x40 < ((t38.l : Nat) : Int)))
 (∃ p42, t38.a = some p42 ∧ 0 ≤ x40 ∧ x40 < ((t38.l : Nat) : Int) ∧
 ∃ t43 : Int, Ld w1_3 (p42.add ((x40).toNat * 1)) (.int .i64 t43) ∧
 ∃ p46, t15.a = some p46 ∧ 0 ≤ t43 ∧ t43 < ((t15.l : Nat) : Int) ∧
 ∃ t47 : Bool, Ld w1_3 (p46.add ((t43).toNat * 1)) (.bool t47) ∧
 IfB (!t47)
 (∃ p51, t15.a = some p51 ∧ 0 ≤ t43 ∧ t43 < ((t15.l : Nat) : Int) ∧
 Wr w1_3 (p51.add ((t43).toNat * 1)) ∧ ∀ w1_4, w1_4 = w1_3.setCell (p51.add ((t43).toNat * 1)) (.bool true) →
 RunT prog .slice (Instr.buildSlice 25 1 #[(0, .int .i64 t43)]) w1_4 fun (t54 : Sl) w1_5 =>
 RunT prog .slice (Builtin.append_ #[25, 25] 25 #[.slice x6_1.a x6_1.l x6_1.c, .slice t54.a t54.l t54.c]) w1_5 fun (t55 : Sl) w1_6 =>
 ∃ n', n' < n_1 ∧ I_1 n' t55 (IntKind.wrap .i64 (x40 + (1 : Int))) w1_6)
 (∃ n', n' < n_1 ∧ I_1 n' x6_1 (IntKind.wrap .i64 (x40 + (1 : Int))) w1_3))
 (∃ n', n' < n ∧ I n' x6_1 w1_3))
 (∃ (I_1 : Nat → Sl → Int → World → Prop) (n0_1 : Nat), I_1 n0_1 (⟨none, 0, 0⟩ : Sl) (0 : Int) w1_2 ∧
 ∀ (n_1 : Nat) (u_1 : Env) (x10 : Sl) (x59 : Int) (w1_3 : World), I_1 n_1 x10 x59 w1_3 →
 IfB (decide (x59 < ((t15.l : Nat) : Int)))
 (∃ p62, t15.a = some p62 ∧ 0 ≤ x59 ∧ x59 < ((t15.l : Nat) : Int) ∧
 ∃ t63 : Bool, Ld w1_3 (p62.add ((x59).toNat * 1)) (.bool t63) ∧
 IfB t63
 (RunT prog .slice (Instr.buildSlice 25 1 #[(0, .int .i64 x59)]) w1_3 fun (t67 : Sl) w1_4 =>
 RunT prog .slice (Builtin.append_ #[25, 25] 25 #[.slice x10.a x10.l x10.c, .slice t67.a t67.l t67.c]) w1_4 fun (t68 : Sl) w1_5 =>
 ∃ n', n' < n_1 ∧ I_1 n' t68 (IntKind.wrap .i64 (x59 + (1 : Int))) w1_5)
 (∃ n', n' < n_1 ∧ I_1 n' x10 (IntKind.wrap .i64 (x59 + (1 : Int))) w1_3))
 (Q (.slice x10.a x10.l x10.c) w1_3))
def an24 : Ann := { cut := fun i => none, loop := fun i => bif Nat.beq i 3 then [(6, .slice)] else bif Nat.beq i 7 then [(6, .slice), (40, .int .i64)] else bif Nat.beq i 15 then [(10, .slice), (59, .int .i64)] else [] }
theorem eq24 (x0 : Sl) (x1 : Int) (w : World) (Q : Value → World → Prop) : F24 x0 x1 w Q = vc prog an24 (Try.f24.body.getD .skip) (envOf [.slice x0.a x0.l x0.c, .int .i64 x1]) w (retK prog Try.f24 Q) := by kernel_rfl
theorem ok24 : codeOk Try.f24.ntmps (Try.f24.body.getD .skip) = true := by kernel_rfl
theorem W24 {x0 : Sl} {x1 : Int} {w : World} {Q : Value → World → Prop} (h : F24 x0 x1 w Q) : Calls prog 24 #[.slice x0.a x0.l x0.c, .int .i64 x1] w fun en w' => ∃ v, en = .returned v ∧ Q v w' :=
  calls_of_vc good follows an24 (args := [.slice x0.a x0.l x0.c, .int .i64 x1]) Try.func24 (by kernel_rfl) ok24 (of_decide_eq_true (by kernel_rfl)) (Eq.mp (eq24 x0 x1 w Q) h)

/-- bastion/graph.users -/
def F25 (x0 : Sl) (w : World) (Q : Value → World → Prop) : Prop :=
 RunT prog .slice (Instr.makeSlice 22 (.int .i64 ((x0.l : Nat) : Int)) (.int .i64 ((x0.l : Nat) : Int))) w fun (t10 : Sl) w1 =>
 ∃ (I : Nat → Int → World → Prop) (n0 : Nat), I n0 (0 : Int) w1 ∧
 ∀ (n : Nat) (u : Env) (x13 : Int) (w1_1 : World), I n x13 w1_1 →
 IfB (decide (x13 < ((x0.l : Nat) : Int)))
 (∃ p16, x0.a = some p16 ∧ 0 ≤ x13 ∧ x13 < ((x0.l : Nat) : Int) ∧
 ∃ t17 : Sl, Ld w1_1 (p16.add ((x13).toNat * 1)) (.slice t17.a t17.l t17.c) ∧
 ∃ (I_1 : Nat → Int → World → Prop) (n0_1 : Nat), I_1 n0_1 (0 : Int) w1_1 ∧
 ∀ (n_1 : Nat) (u_1 : Env) (x20 : Int) (w1_2 : World), I_1 n_1 x20 w1_2 →
 IfB (decide (x20 < ((t17.l : Nat) : Int)))
 (∃ p22, t17.a = some p22 ∧ 0 ≤ x20 ∧ x20 < ((t17.l : Nat) : Int) ∧
 ∃ t23 : Int, Ld w1_2 (p22.add ((x20).toNat * 1)) (.int .i64 t23) ∧
 ∃ p28, t10.a = some p28 ∧ 0 ≤ t23 ∧ t23 < ((t10.l : Nat) : Int) ∧
 ∃ t29 : Sl, Ld w1_2 (p28.add ((t23).toNat * 1)) (.slice t29.a t29.l t29.c) ∧
 RunT prog .slice (Instr.buildSlice 25 1 #[(0, .int .i64 x13)]) w1_2 fun (t31 : Sl) w1_3 =>
 RunT prog .slice (Builtin.append_ #[25, 25] 25 #[.slice t29.a t29.l t29.c, .slice t31.a t31.l t31.c]) w1_3 fun (t32 : Sl) w1_4 =>
 ∃ p33, t10.a = some p33 ∧ 0 ≤ t23 ∧ t23 < ((t10.l : Nat) : Int) ∧
 Wr w1_4 (p33.add ((t23).toNat * 1)) ∧ ∀ w1_5, w1_5 = w1_4.setCell (p33.add ((t23).toNat * 1)) (.slice t32.a t32.l t32.c) →
 ∃ n', n' < n_1 ∧ I_1 n' (IntKind.wrap .i64 (x20 + (1 : Int))) w1_5)
 (∃ n', n' < n ∧ I n' (IntKind.wrap .i64 (x13 + (1 : Int))) w1_2))
 (Q (.slice t10.a t10.l t10.c) w1_1)
def an25 : Ann := { cut := fun i => none, loop := fun i => bif Nat.beq i 3 then [(13, .int .i64)] else bif Nat.beq i 6 then [(20, .int .i64)] else [] }
theorem eq25 (x0 : Sl) (w : World) (Q : Value → World → Prop) : F25 x0 w Q = vc prog an25 (Try.f25.body.getD .skip) (envOf [.slice x0.a x0.l x0.c]) w (retK prog Try.f25 Q) := by kernel_rfl
theorem ok25 : codeOk Try.f25.ntmps (Try.f25.body.getD .skip) = true := by kernel_rfl
theorem W25 {x0 : Sl} {w : World} {Q : Value → World → Prop} (h : F25 x0 w Q) : Calls prog 25 #[.slice x0.a x0.l x0.c] w fun en w' => ∃ v, en = .returned v ∧ Q v w' :=
  calls_of_vc good follows an25 (args := [.slice x0.a x0.l x0.c]) Try.func25 (by kernel_rfl) ok25 (of_decide_eq_true (by kernel_rfl)) (Eq.mp (eq25 x0 w Q) h)

/-- bastion/bastionref15.in -/
def F26 (x0 : Sl) (x1 : Int) (w : World) (Q : Value → World → Prop) : Prop :=
 ∃ (I : Nat → Int → World → Prop) (n0 : Nat), I n0 (0 : Int) w ∧
 ∀ (n : Nat) (u : Env) (x5 : Int) (w1 : World), I n x5 w1 →
 IfB (decide (x5 < ((x0.l : Nat) : Int)))
 (∃ p14, x0.a = some p14 ∧ 0 ≤ x5 ∧ x5 < ((x0.l : Nat) : Int) ∧
 ∃ t15 : Int, Ld w1 (p14.add ((x5).toNat * 1)) (.int .i64 t15) ∧
 IfB (t15 == x1)
 (Q (.bool true) w1)
 (∃ n', n' < n ∧ I n' (IntKind.wrap .i64 (x5 + (1 : Int))) w1))
 (Q (.bool false) w1)
def an26 : Ann := { cut := fun i => none, loop := fun i => bif Nat.beq i 2 then [(5, .int .i64)] else [] }
theorem eq26 (x0 : Sl) (x1 : Int) (w : World) (Q : Value → World → Prop) : F26 x0 x1 w Q = vc prog an26 (Try.f26.body.getD .skip) (envOf [.slice x0.a x0.l x0.c, .int .i64 x1]) w (retK prog Try.f26 Q) := by kernel_rfl
theorem ok26 : codeOk Try.f26.ntmps (Try.f26.body.getD .skip) = true := by kernel_rfl
theorem W26 {x0 : Sl} {x1 : Int} {w : World} {Q : Value → World → Prop} (h : F26 x0 x1 w Q) : Calls prog 26 #[.slice x0.a x0.l x0.c, .int .i64 x1] w fun en w' => ∃ v, en = .returned v ∧ Q v w' :=
  calls_of_vc good follows an26 (args := [.slice x0.a x0.l x0.c, .int .i64 x1]) Try.func26 (by kernel_rfl) ok26 (of_decide_eq_true (by kernel_rfl)) (Eq.mp (eq26 x0 x1 w Q) h)

/-- container/heap.Push -/
def F27 (x0 : Value) (x1 : Value) (w : World) (Q : Value → World → Prop) : Prop :=
 RunN prog (callMethod x0 "Push" #[x1]) w fun v6 w1 =>
 v6 = (.tuple #[]) ∧
 RunN prog (callMethod x0 "Len" #[]) w1 fun v9 w1_1 =>
 ∃ t9 : Int, v9 = (.int .i64 t9) ∧
 Calls prog 34 #[x0, .int .i64 (IntKind.wrap .i64 (t9 - (1 : Int)))] w1_1 fun en w1_2 =>
 en = .returned (.tuple #[]) ∧
 Q (.tuple #[]) w1_2
def an27 : Ann := { cut := fun i => none, loop := fun i => [] }
theorem eq27 (x0 : Value) (x1 : Value) (w : World) (Q : Value → World → Prop) : F27 x0 x1 w Q = vc prog an27 (Try.f27.body.getD .skip) (envOf [x0, x1]) w (retK prog Try.f27 Q) := by kernel_rfl
theorem ok27 : codeOk Try.f27.ntmps (Try.f27.body.getD .skip) = true := by kernel_rfl
theorem W27 {x0 : Value} {x1 : Value} {w : World} {Q : Value → World → Prop} (h : F27 x0 x1 w Q) : Calls prog 27 #[x0, x1] w fun en w' => ∃ v, en = .returned v ∧ Q v w' :=
  calls_of_vc good follows an27 (args := [x0, x1]) Try.func27 (by kernel_rfl) ok27 (of_decide_eq_true (by kernel_rfl)) (Eq.mp (eq27 x0 x1 w Q) h)

/-- (sort.IntSlice).Len -/
def F28 (x0 : Sl) (w : World) (Q : Value → World → Prop) : Prop :=
 Q (.int .i64 ((x0.l : Nat) : Int)) w
def an28 : Ann := { cut := fun i => none, loop := fun i => [] }
theorem eq28 (x0 : Sl) (w : World) (Q : Value → World → Prop) : F28 x0 w Q = vc prog an28 (Try.f28.body.getD .skip) (envOf [.slice x0.a x0.l x0.c]) w (retK prog Try.f28 Q) := by kernel_rfl
theorem ok28 : codeOk Try.f28.ntmps (Try.f28.body.getD .skip) = true := by kernel_rfl
theorem W28 {x0 : Sl} {w : World} {Q : Value → World → Prop} (h : F28 x0 w Q) : Calls prog 28 #[.slice x0.a x0.l x0.c] w fun en w' => ∃ v, en = .returned v ∧ Q v w' :=
  calls_of_vc good follows an28 (args := [.slice x0.a x0.l x0.c]) Try.func28 (by kernel_rfl) ok28 (of_decide_eq_true (by kernel_rfl)) (Eq.mp (eq28 x0 w Q) h)

/-- container/heap.Pop -/
def F29 (x0 : Value) (w : World) (Q : Value → World → Prop) : Prop :=
 RunN prog (callMethod x0 "Len" #[]) w fun v5 w1 =>
 ∃ t5 : Int, v5 = (.int .i64 t5) ∧
 RunN prog (callMethod x0 "Swap" #[.int .i64 0, .int .i64 (IntKind.wrap .i64 (t5 - (1 : Int)))]) w1 fun v9 w1_1 =>
 v9 = (.tuple #[]) ∧
 Calls prog 35 #[x0, .int .i64 0, .int .i64 (IntKind.wrap .i64 (t5 - (1 : Int)))] w1_1 fun en w1_2 =>
 ∃ t12 : Bool, en = .returned (.bool t12) ∧
 RunN prog (callMethod x0 "Pop" #[]) w1_2 fun v14 w1_3 =>
 ∃ t14 : Value, v14 = (t14) ∧
 Q t14 w1_3
def an29 : Ann := { cut := fun i => none, loop := fun i => [] }
theorem eq29 (x0 : Value) (w : World) (Q : Value → World → Prop) : F29 x0 w Q = vc prog an29 (Try.f29.body.getD .skip) (envOf [x0]) w (retK prog Try.f29 Q) := by kernel_rfl
theorem ok29 : codeOk Try.f29.ntmps (Try.f29.body.getD .skip) = true := by kernel_rfl
theorem W29 {x0 : Value} {w : World} {Q : Value → World → Prop} (h : F29 x0 w Q) : Calls prog 29 #[x0] w fun en w' => ∃ v, en = .returned v ∧ Q v w' :=
  calls_of_vc good follows an29 (args := [x0]) Try.func29 (by kernel_rfl) ok29 (of_decide_eq_true (by kernel_rfl)) (Eq.mp (eq29 x0 w Q) h)

/-- slices.ContainsFunc[[][]int,[]int] -/
def F30 (x0 : Sl) (x1 : Value) (w : World) (Q : Value → World → Prop) : Prop :=
 Calls prog 36 #[.slice x0.a x0.l x0.c, x1] w fun en w1 =>
 ∃ t7 : Int, en = .returned (.int .i64 t7) ∧
 Q (.bool (decide (t7 ≥ (0 : Int)))) w1
def an30 : Ann := { cut := fun i => none, loop := fun i => [] }
theorem eq30 (x0 : Sl) (x1 : Value) (w : World) (Q : Value → World → Prop) : F30 x0 x1 w Q = vc prog an30 (Try.f30.body.getD .skip) (envOf [.slice x0.a x0.l x0.c, x1]) w (retK prog Try.f30 Q) := by kernel_rfl
theorem ok30 : codeOk Try.f30.ntmps (Try.f30.body.getD .skip) = true := by kernel_rfl
theorem W30 {x0 : Sl} {x1 : Value} {w : World} {Q : Value → World → Prop} (h : F30 x0 x1 w Q) : Calls prog 30 #[.slice x0.a x0.l x0.c, x1] w fun en w' => ∃ v, en = .returned v ∧ Q v w' :=
  calls_of_vc good follows an30 (args := [.slice x0.a x0.l x0.c, x1]) Try.func30 (by kernel_rfl) ok30 (of_decide_eq_true (by kernel_rfl)) (Eq.mp (eq30 x0 x1 w Q) h)

/-- bastion/graph.may$1 -/
def F31 (x0 : Sl) (x1 : Addr) (w : World) (Q : Value → World → Prop) : Prop :=
 Calls prog 32 #[.slice x0.a x0.l x0.c, .func (.func 33) #[] #[.pointer (some x1)]] w fun en w1 =>
 ∃ t6 : Bool, en = .returned (.bool t6) ∧
 Q (.bool t6) w1
def an31 : Ann := { cut := fun i => none, loop := fun i => [] }
theorem eq31 (x0 : Sl) (x1 : Addr) (w : World) (Q : Value → World → Prop) : F31 x0 x1 w Q = vc prog an31 (Try.f31.body.getD .skip) (envOf [.slice x0.a x0.l x0.c, .pointer (some x1)]) w (retK prog Try.f31 Q) := by kernel_rfl
theorem ok31 : codeOk Try.f31.ntmps (Try.f31.body.getD .skip) = true := by kernel_rfl
theorem W31 {x0 : Sl} {x1 : Addr} {w : World} {Q : Value → World → Prop} (h : F31 x0 x1 w Q) : Calls prog 31 #[.slice x0.a x0.l x0.c, .pointer (some x1)] w fun en w' => ∃ v, en = .returned v ∧ Q v w' :=
  calls_of_vc good follows an31 (args := [.slice x0.a x0.l x0.c, .pointer (some x1)]) Try.func31 (by kernel_rfl) ok31 (of_decide_eq_true (by kernel_rfl)) (Eq.mp (eq31 x0 x1 w Q) h)

/-- slices.ContainsFunc[[]int,int] -/
def F32 (x0 : Sl) (x1 : Value) (w : World) (Q : Value → World → Prop) : Prop :=
 Calls prog 37 #[.slice x0.a x0.l x0.c, x1] w fun en w1 =>
 ∃ t7 : Int, en = .returned (.int .i64 t7) ∧
 Q (.bool (decide (t7 ≥ (0 : Int)))) w1
def an32 : Ann := { cut := fun i => none, loop := fun i => [] }
theorem eq32 (x0 : Sl) (x1 : Value) (w : World) (Q : Value → World → Prop) : F32 x0 x1 w Q = vc prog an32 (Try.f32.body.getD .skip) (envOf [.slice x0.a x0.l x0.c, x1]) w (retK prog Try.f32 Q) := by kernel_rfl
theorem ok32 : codeOk Try.f32.ntmps (Try.f32.body.getD .skip) = true := by kernel_rfl
theorem W32 {x0 : Sl} {x1 : Value} {w : World} {Q : Value → World → Prop} (h : F32 x0 x1 w Q) : Calls prog 32 #[.slice x0.a x0.l x0.c, x1] w fun en w' => ∃ v, en = .returned v ∧ Q v w' :=
  calls_of_vc good follows an32 (args := [.slice x0.a x0.l x0.c, x1]) Try.func32 (by kernel_rfl) ok32 (of_decide_eq_true (by kernel_rfl)) (Eq.mp (eq32 x0 x1 w Q) h)

/-- bastion/graph.may$1$1 -/
def F33 (x0 : Int) (x1 : Addr) (w : World) (Q : Value → World → Prop) : Prop :=
 IfB (decide (x0 < (0 : Int)))
 (Q (.bool true) w)
 (∃ t8 : Sl, Ld w x1 (.slice t8.a t8.l t8.c) ∧
 Q (.bool (decide (x0 ≥ ((t8.l : Nat) : Int)))) w)
def an33 : Ann := { cut := fun i => none, loop := fun i => [] }
theorem eq33 (x0 : Int) (x1 : Addr) (w : World) (Q : Value → World → Prop) : F33 x0 x1 w Q = vc prog an33 (Try.f33.body.getD .skip) (envOf [.int .i64 x0, .pointer (some x1)]) w (retK prog Try.f33 Q) := by kernel_rfl
theorem ok33 : codeOk Try.f33.ntmps (Try.f33.body.getD .skip) = true := by kernel_rfl
theorem W33 {x0 : Int} {x1 : Addr} {w : World} {Q : Value → World → Prop} (h : F33 x0 x1 w Q) : Calls prog 33 #[.int .i64 x0, .pointer (some x1)] w fun en w' => ∃ v, en = .returned v ∧ Q v w' :=
  calls_of_vc good follows an33 (args := [.int .i64 x0, .pointer (some x1)]) Try.func33 (by kernel_rfl) ok33 (of_decide_eq_true (by kernel_rfl)) (Eq.mp (eq33 x0 x1 w Q) h)

/-- container/heap.up -/
def F34 (x0 : Value) (x1 : Int) (w : World) (Q : Value → World → Prop) : Prop :=
 ∃ (I : Nat → Int → World → Prop) (n0 : Nat), I n0 x1 w ∧
 ∀ (n : Nat) (u : Env) (x1_1 : Int) (w1 : World), I n x1_1 w1 →
 (2 : Int) ≠ 0 ∧
 IfB (IntKind.wrap .i64 (Int.tdiv (IntKind.wrap .i64 (x1_1 - (1 : Int))) (2 : Int)) == x1_1)
 (Q (.tuple #[]) w1)
 (RunN prog (callMethod x0 "Less" #[.int .i64 x1_1, .int .i64 (IntKind.wrap .i64 (Int.tdiv (IntKind.wrap .i64 (x1_1 - (1 : Int))) (2 : Int)))]) w1 fun v15 w1_1 =>
 ∃ t15 : Bool, v15 = (.bool t15) ∧
 IfB (!t15)
 (Q (.tuple #[]) w1_1)
 (RunN prog (callMethod x0 "Swap" #[.int .i64 (IntKind.wrap .i64 (Int.tdiv (IntKind.wrap .i64 (x1_1 - (1 : Int))) (2 : Int))), .int .i64 x1_1]) w1_1 fun v21 w1_2 =>
 v21 = (.tuple #[]) ∧
 ∃ n', n' < n ∧ I n' (IntKind.wrap .i64 (Int.tdiv (IntKind.wrap .i64 (x1_1 - (1 : Int))) (2 : Int))) w1_2))
def an34 : Ann := { cut := fun i => none, loop := fun i => bif Nat.beq i 0 then [(1, .int .i64)] else [] }
theorem eq34 (x0 : Value) (x1 : Int) (w : World) (Q : Value → World → Prop) : F34 x0 x1 w Q = vc prog an34 (Try.f34.body.getD .skip) (envOf [x0, .int .i64 x1]) w (retK prog Try.f34 Q) := by kernel_rfl
theorem ok34 : codeOk Try.f34.ntmps (Try.f34.body.getD .skip) = true := by kernel_rfl
theorem W34 {x0 : Value} {x1 : Int} {w : World} {Q : Value → World → Prop} (h : F34 x0 x1 w Q) : Calls prog 34 #[x0, .int .i64 x1] w fun en w' => ∃ v, en = .returned v ∧ Q v w' :=
  calls_of_vc good follows an34 (args := [x0, .int .i64 x1]) Try.func34 (by kernel_rfl) ok34 (of_decide_eq_true (by kernel_rfl)) (Eq.mp (eq34 x0 x1 w Q) h)

/-- container/heap.down -/
def F35 (x0 : Value) (x1 : Int) (x2 : Int) (w : World) (Q : Value → World → Prop) : Prop :=
 ∃ (I : Nat → Int → World → Prop) (n0 : Nat), I n0 x1 w ∧
 ∀ (n : Nat) (u : Env) (x7 : Int) (w1 : World), I n x7 w1 →
 IfB (decide (IntKind.wrap .i64 ((IntKind.wrap .i64 ((2 : Int) * x7)) + (1 : Int)) ≥ x2))
 (Q (.bool (decide (x7 > x1))) w1)
 (IfB (decide (IntKind.wrap .i64 ((IntKind.wrap .i64 ((2 : Int) * x7)) + (1 : Int)) < (0 : Int)))
 (Q (.bool (decide (x7 > x1))) w1)
 (IfB (decide (IntKind.wrap .i64 ((IntKind.wrap .i64 ((IntKind.wrap .i64 ((2 : Int) * x7)) + (1 : Int))) + (1 : Int)) < x2))
 (RunN prog (callMethod x0 "Less" #[.int .i64 (IntKind.wrap .i64 ((IntKind.wrap .i64 ((IntKind.wrap .i64 ((2 : Int) * x7)) + (1 : Int))) + (1 : Int))), .int .i64 (IntKind.wrap .i64 ((IntKind.wrap .i64 ((2 : Int) * x7)) + (1 : Int)))]) w1 fun v32 w1_1 =>
 ∃ t32 : Bool, v32 = (.bool t32) ∧
 IfB t32
 (RunN prog (callMethod x0 "Less" #[.int .i64 (IntKind.wrap .i64 ((IntKind.wrap .i64 ((IntKind.wrap .i64 ((2 : Int) * x7)) + (1 : Int))) + (1 : Int))), .int .i64 x7]) w1_1 fun v38 w1_2 =>
 ∃ t38 : Bool, v38 = (.bool t38) ∧
 IfB (!t38)
 (Q (.bool (decide (x7 > x1))) w1_2)
 (RunN prog (callMethod x0 "Swap" #[.int .i64 x7, .int .i64 (IntKind.wrap .i64 ((IntKind.wrap .i64 ((IntKind.wrap .i64 ((2 : Int) * x7)) + (1 : Int))) + (1 : Int)))]) w1_2 fun v43 w1_3 =>
 v43 = (.tuple #[]) ∧
 ∃ n', n' < n ∧ I n' (IntKind.wrap .i64 ((IntKind.wrap .i64 ((IntKind.wrap .i64 ((2 : Int) * x7)) + (1 : Int))) + (1 : Int))) w1_3))
 (RunN prog (callMethod x0 "Less" #[.int .i64 (IntKind.wrap .i64 ((IntKind.wrap .i64 ((2 : Int) * x7)) + (1 : Int))), .int .i64 x7]) w1_1 fun v38 w1_2 =>
 ∃ t38 : Bool, v38 = (.bool t38) ∧
 IfB (!t38)
 (Q (.bool (decide (x7 > x1))) w1_2)
 (RunN prog (callMethod x0 "Swap" #[.int .i64 x7, .int .i64 (IntKind.wrap .i64 ((IntKind.wrap .i64 ((2 : Int) * x7)) + (1 : Int)))]) w1_2 fun v43 w1_3 =>
 v43 = (.tuple #[]) ∧
 ∃ n', n' < n ∧ I n' (IntKind.wrap .i64 ((IntKind.wrap .i64 ((2 : Int) * x7)) + (1 : Int))) w1_3)))
 (RunN prog (callMethod x0 "Less" #[.int .i64 (IntKind.wrap .i64 ((IntKind.wrap .i64 ((2 : Int) * x7)) + (1 : Int))), .int .i64 x7]) w1 fun v38 w1_1 =>
 ∃ t38 : Bool, v38 = (.bool t38) ∧
 IfB (!t38)
 (Q (.bool (decide (x7 > x1))) w1_1)
 (RunN prog (callMethod x0 "Swap" #[.int .i64 x7, .int .i64 (IntKind.wrap .i64 ((IntKind.wrap .i64 ((2 : Int) * x7)) + (1 : Int)))]) w1_1 fun v43 w1_2 =>
 v43 = (.tuple #[]) ∧
 ∃ n', n' < n ∧ I n' (IntKind.wrap .i64 ((IntKind.wrap .i64 ((2 : Int) * x7)) + (1 : Int))) w1_2))))
def an35 : Ann := { cut := fun i => none, loop := fun i => bif Nat.beq i 2 then [(7, .int .i64)] else [] }
theorem eq35 (x0 : Value) (x1 : Int) (x2 : Int) (w : World) (Q : Value → World → Prop) : F35 x0 x1 x2 w Q = vc prog an35 (Try.f35.body.getD .skip) (envOf [x0, .int .i64 x1, .int .i64 x2]) w (retK prog Try.f35 Q) := by kernel_rfl
theorem ok35 : codeOk Try.f35.ntmps (Try.f35.body.getD .skip) = true := by kernel_rfl
theorem W35 {x0 : Value} {x1 : Int} {x2 : Int} {w : World} {Q : Value → World → Prop} (h : F35 x0 x1 x2 w Q) : Calls prog 35 #[x0, .int .i64 x1, .int .i64 x2] w fun en w' => ∃ v, en = .returned v ∧ Q v w' :=
  calls_of_vc good follows an35 (args := [x0, .int .i64 x1, .int .i64 x2]) Try.func35 (by kernel_rfl) ok35 (of_decide_eq_true (by kernel_rfl)) (Eq.mp (eq35 x0 x1 x2 w Q) h)

/-- slices.IndexFunc[[][]int,[]int] -/
def F36 (x0 : Sl) (x1 : Value) (w : World) (Q : Value → World → Prop) : Prop :=
 ∃ (I : Nat → Int → World → Prop) (n0 : Nat), I n0 (0 : Int) w ∧
 ∀ (n : Nat) (u : Env) (x8 : Int) (w1 : World), I n x8 w1 →
 IfB (decide (x8 < ((x0.l : Nat) : Int)))
 (∃ p14, x0.a = some p14 ∧ 0 ≤ x8 ∧ x8 < ((x0.l : Nat) : Int) ∧
 ∃ t15 : Sl, Ld w1 (p14.add ((x8).toNat * 1)) (.slice t15.a t15.l t15.c) ∧
 CallV prog x1 #[.slice t15.a t15.l t15.c] w1 fun v16 w1_1 =>
 ∃ t16 : Bool, v16 = (.bool t16) ∧
 IfB t16
 (Q (.int .i64 x8) w1_1)
 (∃ n', n' < n ∧ I n' (IntKind.wrap .i64 (x8 + (1 : Int))) w1_1))
 (Q (.int .i64 (-1)) w1)
def an36 : Ann := { cut := fun i => none, loop := fun i => bif Nat.beq i 2 then [(8, .int .i64)] else [] }
theorem eq36 (x0 : Sl) (x1 : Value) (w : World) (Q : Value → World → Prop) : F36 x0 x1 w Q = vc prog an36 (Try.f36.body.getD .skip) (envOf [.slice x0.a x0.l x0.c, x1]) w (retK prog Try.f36 Q) := by kernel_rfl
theorem ok36 : codeOk Try.f36.ntmps (Try.f36.body.getD .skip) = true := by kernel_rfl
theorem W36 {x0 : Sl} {x1 : Value} {w : World} {Q : Value → World → Prop} (h : F36 x0 x1 w Q) : Calls prog 36 #[.slice x0.a x0.l x0.c, x1] w fun en w' => ∃ v, en = .returned v ∧ Q v w' :=
  calls_of_vc good follows an36 (args := [.slice x0.a x0.l x0.c, x1]) Try.func36 (by kernel_rfl) ok36 (of_decide_eq_true (by kernel_rfl)) (Eq.mp (eq36 x0 x1 w Q) h)

/-- slices.IndexFunc[[]int,int] -/
def F37 (x0 : Sl) (x1 : Value) (w : World) (Q : Value → World → Prop) : Prop :=
 ∃ (I : Nat → Int → World → Prop) (n0 : Nat), I n0 (0 : Int) w ∧
 ∀ (n : Nat) (u : Env) (x8 : Int) (w1 : World), I n x8 w1 →
 IfB (decide (x8 < ((x0.l : Nat) : Int)))
 (∃ p14, x0.a = some p14 ∧ 0 ≤ x8 ∧ x8 < ((x0.l : Nat) : Int) ∧
 ∃ t15 : Int, Ld w1 (p14.add ((x8).toNat * 1)) (.int .i64 t15) ∧
 CallV prog x1 #[.int .i64 t15] w1 fun v16 w1_1 =>
 ∃ t16 : Bool, v16 = (.bool t16) ∧
 IfB t16
 (Q (.int .i64 x8) w1_1)
 (∃ n', n' < n ∧ I n' (IntKind.wrap .i64 (x8 + (1 : Int))) w1_1))
 (Q (.int .i64 (-1)) w1)
def an37 : Ann := { cut := fun i => none, loop := fun i => bif Nat.beq i 2 then [(8, .int .i64)] else [] }
theorem eq37 (x0 : Sl) (x1 : Value) (w : World) (Q : Value → World → Prop) : F37 x0 x1 w Q = vc prog an37 (Try.f37.body.getD .skip) (envOf [.slice x0.a x0.l x0.c, x1]) w (retK prog Try.f37 Q) := by kernel_rfl
theorem ok37 : codeOk Try.f37.ntmps (Try.f37.body.getD .skip) = true := by kernel_rfl
theorem W37 {x0 : Sl} {x1 : Value} {w : World} {Q : Value → World → Prop} (h : F37 x0 x1 w Q) : Calls prog 37 #[.slice x0.a x0.l x0.c, x1] w fun en w' => ∃ v, en = .returned v ∧ Q v w' :=
  calls_of_vc good follows an37 (args := [.slice x0.a x0.l x0.c, x1]) Try.func37 (by kernel_rfl) ok37 (of_decide_eq_true (by kernel_rfl)) (Eq.mp (eq37 x0 x1 w Q) h)
end Go.Proofs.Ytjpcbggodhfabaa

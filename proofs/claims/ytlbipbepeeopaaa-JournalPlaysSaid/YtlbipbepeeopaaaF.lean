/-  YtlbipbepeeopaaaF: weakest preconditions of functions, by wip/gen/gen.py; each is held against the machine's code by the kernel. -/
import Derived.Test.YtlbipbepeeopaaaV
import Derived.Test.YtlbipbepeeopaaaProg
import Derived.Test.YtlbipbepeeopaaaGood
import Derived.KernelRfl
set_option linter.unusedVariables false
set_option maxRecDepth 1000000
namespace Go.Proofs.Ytlbipbepeeopaaa
open Go Go.Proofs.YtlbipbepeeopaaaV

/-- bastion/bastionlaw04.JournalCuts -/
def F3 (x0 : Sl) (x1 : Int) (x2 : Sl) (w : World) (Q : Value → World → Prop) : Prop :=
 ∃ J : Bool → World → Prop, (IfB (decide (((x0.l : Nat) : Int) > (120 : Int)))
 (J true w)
 (IfB (decide (((x2.l : Nat) : Int) > (10 : Int)))
 (J true w)
 (Calls prog 7 #[] w fun en w1 =>
 ∃ t34 : Bool, en = .returned (.bool t34) ∧
 J (!t34) w1))) ∧
 (∀ (u : Env) (x36 : Bool) (w1 : World), J x36 w1 →
 IfB x36
 (Calls prog 7 #[] w1 fun en w1_1 =>
 ∃ t37 : Bool, en = .returned (.bool t37) ∧
 Q (.bool t37) w1_1)
 (RunT prog .val (Instr.makeMap 26 none) w1 fun (t38 : Value) w1_1 =>
 ∃ (I : Nat → Sl → Sl → Int → World → Prop) (n0 : Nat), I n0 (⟨none, 0, 0⟩ : Sl) (⟨none, 0, 0⟩ : Sl) (0 : Int) w1_1 ∧
 ∀ (n : Nat) (u_1 : Env) (x7 : Sl) (x8 : Sl) (x10 : Int) (w1_2 : World), I n x7 x8 x10 w1_2 →
 IfB (decide (x10 < ((x0.l : Nat) : Int)))
 (∃ p47, x0.a = some p47 ∧ 0 ≤ x10 ∧ x10 < ((x0.l : Nat) : Int) ∧
 ∃ t48 : Int, Ld w1_2 (p47.add ((x10).toNat * 1)) (.int .i64 t48) ∧
 (390 : Int) ≠ 0 ∧
 RunT prog .val (Instr.lookup 26 t38 (.int .i64 (IntKind.wrap .i64 ((122 : Int) + (IntKind.wrap .i64 (Int.tmod (IntKind.wrap .u64 t48) (390 : Int)))))) false) w1_2 fun (v55 : Value) w1_3 =>
 ∃ t55 : Int, v55 = (.int .i64 t55) ∧
 IfB (t55 == (0 : Int))
 (RunT prog .val (Instr.lookup 26 t38 (.int .i64 (IntKind.wrap .i64 ((122 : Int) + (IntKind.wrap .i64 (Int.tmod (IntKind.wrap .u64 t48) (390 : Int)))))) false) w1_3 fun (v59 : Value) w1_4 =>
 ∃ t59 : Int, v59 = (.int .i64 t59) ∧
 RunU prog (Instr.mapUpdate 26 t38 (.int .i64 (IntKind.wrap .i64 ((122 : Int) + (IntKind.wrap .i64 (Int.tmod (IntKind.wrap .u64 t48) (390 : Int)))))) (.int .i64 (IntKind.wrap .i64 (t59 + (1 : Int))))) w1_4 fun w1_5 =>
 Calls prog 8 #[.int .u8 1] w1_5 fun en w1_6 =>
 ∃ t63 : Sl, en = .returned (.slice t63.a t63.l t63.c) ∧
 ∃ t64 : Array Value, BuildIs prog 30 #[(0, .int .i64 (IntKind.wrap .i64 ((122 : Int) + (IntKind.wrap .i64 (Int.tmod (IntKind.wrap .u64 t48) (390 : Int)))))), (1, .slice t63.a t63.l t63.c)] t64 ∧
 RunT prog .slice (Instr.buildSlice 25 1 #[(0, .agg t64)]) w1_6 fun (t65 : Sl) w1_7 =>
 RunT prog .slice (Builtin.append_ #[25, 25] 25 #[.slice x7.a x7.l x7.c, .slice t65.a t65.l t65.c]) w1_7 fun (t66 : Sl) w1_8 =>
 Calls prog 8 #[.int .u8 2] w1_8 fun en w1_9 =>
 ∃ t69 : Sl, en = .returned (.slice t69.a t69.l t69.c) ∧
 ∃ t70 : Array Value, BuildIs prog 30 #[(0, .int .i64 (IntKind.wrap .i64 ((122 : Int) + (IntKind.wrap .i64 (Int.tmod (IntKind.wrap .u64 t48) (390 : Int)))))), (1, .slice t69.a t69.l t69.c)] t70 ∧
 RunT prog .slice (Instr.buildSlice 25 1 #[(0, .agg t70)]) w1_9 fun (t71 : Sl) w1_10 =>
 RunT prog .slice (Builtin.append_ #[25, 25] 25 #[.slice x8.a x8.l x8.c, .slice t71.a t71.l t71.c]) w1_10 fun (t72 : Sl) w1_11 =>
 ∃ n', n' < n ∧ I n' t66 t72 (IntKind.wrap .i64 (x10 + (1 : Int))) w1_11)
 (∃ n', n' < n ∧ I n' x7 x8 (IntKind.wrap .i64 (x10 + (1 : Int))) w1_3))
 (Calls prog 9 #[] w1_2 fun en w1_3 =>
 ∃ t74a : Option Addr, ∃ t74b : Option Addr, en = .returned (.tuple #[.pointer t74a, .pointer t74b]) ∧
 ∃ J_1 : Bool → World → Prop, (∃ b78 : Bool, BinIs prog .eql 32 (.tmp 77) (.const (.pointer none)) (.pointer t74b) (.pointer none) b78 ∧
 IfB b78
 (J_1 true w1_3)
 (Calls prog 10 #[.pointer t74b, .slice x7.a x7.l x7.c] w1_3 fun en w1_4 =>
 ∃ t82 : Int, en = .returned (.int .i64 t82) ∧
 J_1 (t82 != (0 : Int)) w1_4)) ∧
 (∀ (u_2 : Env) (x84 : Bool) (w1_4 : World), J_1 x84 w1_4 →
 IfB x84
 (Q (.bool false) w1_4)
 ((300 : Int) ≠ 0 ∧
 Calls prog 11 #[.pointer t74a, .int .i64 (IntKind.wrap .i64 (Int.tmod (IntKind.wrap .u64 x1) (300 : Int)))] w1_4 fun en w1_5 =>
 ∃ t91 : Int, en = .returned (.int .i64 t91) ∧
 IfB (t91 != (0 : Int))
 (Q (.bool false) w1_5)
 (Calls prog 10 #[.pointer t74b, .slice x8.a x8.l x8.c] w1_5 fun en w1_6 =>
 ∃ t95 : Int, en = .returned (.int .i64 t95) ∧
 ∃ J_2 : Bool → World → Prop, (IfB (decide (IntKind.wrap .i64 (Int.tmod (IntKind.wrap .u64 x1) (300 : Int)) ≥ IntKind.wrap .i64 ((IntKind.wrap .i64 ((2 : Int) * ((x8.l : Nat) : Int))) + (2 : Int))))
 (IfB (t95 != (0 : Int))
 (J_2 true w1_6)
 (IfB (t95 != (0 : Int))
 (J_2 (t95 != (20 : Int)) w1_6)
 (J_2 false w1_6)))
 (IfB (t95 != (0 : Int))
 (J_2 (t95 != (20 : Int)) w1_6)
 (J_2 false w1_6))) ∧
 (∀ (u_3 : Env) (x113 : Bool) (w1_7 : World), J_2 x113 w1_7 →
 IfB x113
 (Q (.bool false) w1_7)
 (∃ J_3 : Option Addr → World → Prop, (∃ (I_1 : Nat → Option Addr → Int → World → Prop) (n0_1 : Nat), I_1 n0_1 t74a (0 : Int) w1_7 ∧
 ∀ (n_1 : Nat) (u_4 : Env) (x12 : Option Addr) (x16 : Int) (w1_8 : World), I_1 n_1 x12 x16 w1_8 →
 ∃ J_4 : World → Prop, (IfB (decide (x16 < ((x2.l : Nat) : Int)))
 (Calls prog 12 #[.pointer x12] w1_8 fun en w1_9 =>
 ∃ t120 : Bool, en = .returned (.bool t120) ∧
 IfB t120
 (J_4  w1_9)
 (J_3 x12 w1_9))
 (J_3 x12 w1_8)) ∧
 (∀ (u_5 : Env) (w1_9 : World), J_4  w1_9 →
 Calls prog 13 #[.pointer x12] w1_9 fun en w1_10 =>
 ∃ t126a : Option Addr, ∃ t126b : Int, en = .returned (.tuple #[.pointer t126a, .int .i64 t126b]) ∧
 IfB (t126b != (0 : Int))
 (Q (.bool false) w1_10)
 (∃ p135, x2.a = some p135 ∧ 0 ≤ x16 ∧ x16 < ((x2.l : Nat) : Int) ∧
 ∃ t136 : Int, Ld w1_10 (p135.add ((x16).toNat * 1)) (.int .u8 t136) ∧
 Calls prog 11 #[.pointer t126a, .int .i64 (IntKind.wrap .i64 t136)] w1_10 fun en w1_11 =>
 ∃ t138 : Int, en = .returned (.int .i64 t138) ∧
 IfB (t138 != (0 : Int))
 (Q (.bool false) w1_11)
 (Calls prog 14 #[.pointer t126a] w1_11 fun en w1_12 =>
 ∃ t144a : Option Addr, ∃ t144b : Int, en = .returned (.tuple #[.pointer t144a, .int .i64 t144b]) ∧
 IfB (t144b != (0 : Int))
 (IfB (t144b != (20 : Int))
 (Q (.bool false) w1_12)
 (Calls prog 12 #[.pointer t126a] w1_12 fun en w1_13 =>
 ∃ t154 : Bool, en = .returned (.bool t154) ∧
 IfB (!t154)
 (Q (.bool false) w1_13)
 (∃ n', n' < n_1 ∧ I_1 n' t126a (IntKind.wrap .i64 (x16 + (1 : Int))) w1_13)))
 (∃ n', n' < n_1 ∧ I_1 n' t126a (IntKind.wrap .i64 (x16 + (1 : Int))) w1_12))))) ∧
 (∀ (u_4 : Env) (x12 : Option Addr) (w1_8 : World), J_3 x12 w1_8 →
 ∃ J_4 : Option Addr → World → Prop, (Calls prog 12 #[.pointer x12] w1_8 fun en w1_9 =>
 ∃ t159 : Bool, en = .returned (.bool t159) ∧
 IfB t159
 (Calls prog 13 #[.pointer x12] w1_9 fun en w1_10 =>
 ∃ t162a : Option Addr, ∃ t162b : Int, en = .returned (.tuple #[.pointer t162a, .int .i64 t162b]) ∧
 IfB (t162b != (0 : Int))
 (Q (.bool false) w1_10)
 (J_4 t162a w1_10))
 (J_4 x12 w1_9)) ∧
 (∀ (u_5 : Env) (x12_1 : Option Addr) (w1_9 : World), J_4 x12_1 w1_9 →
 Calls prog 14 #[.pointer x12_1] w1_9 fun en w1_10 =>
 ∃ t170a : Option Addr, ∃ t170b : Int, en = .returned (.tuple #[.pointer t170a, .int .i64 t170b]) ∧
 ∃ J_5 : Option Addr → Int → World → Prop, (∃ J_6 : Bool → World → Prop, (IfB (t170b == (20 : Int))
 (Calls prog 12 #[.pointer x12_1] w1_10 fun en w1_11 =>
 ∃ t177 : Bool, en = .returned (.bool t177) ∧
 J_6 t177 w1_11)
 (J_6 false w1_10)) ∧
 (∀ (u_6 : Env) (x178 : Bool) (w1_11 : World), J_6 x178 w1_11 →
 IfB x178
 (Calls prog 13 #[.pointer x12_1] w1_11 fun en w1_12 =>
 ∃ t181a : Option Addr, ∃ t181b : Int, en = .returned (.tuple #[.pointer t181a, .int .i64 t181b]) ∧
 IfB (t181b != (0 : Int))
 (Q (.bool false) w1_12)
 (Calls prog 14 #[.pointer t181a] w1_12 fun en w1_13 =>
 ∃ t188a : Option Addr, ∃ t188b : Int, en = .returned (.tuple #[.pointer t188a, .int .i64 t188b]) ∧
 J_5 t188a t188b w1_13))
 (J_5 t170a t170b w1_11))) ∧
 (∀ (u_6 : Env) (x13 : Option Addr) (x21 : Int) (w1_11 : World), J_5 x13 x21 w1_11 →
 IfB (x21 != (0 : Int))
 (Q (.bool false) w1_11)
 (∃ J_6 : Int → World → Prop, (∃ J_7 : Bool → World → Prop, (IfB (decide (((x8.l : Nat) : Int) > (0 : Int)))
 (∃ p199, x8.a = some p199 ∧ 0 ≤ (0 : Int) ∧ (0 : Int) < ((x8.l : Nat) : Int) ∧
 ∃ t201 : Int, Ld w1_11 ((p199.add (0 * 2)).add 0) (.int .i64 t201) ∧
 Calls prog 15 #[.pointer x13, .int .i64 t201, .int .u8 2] w1_11 fun en w1_12 =>
 ∃ t202 : Bool, en = .returned (.bool t202) ∧
 J_7 t202 w1_12)
 (J_7 false w1_11)) ∧
 (∀ (u_7 : Env) (x203 : Bool) (w1_12 : World), J_7 x203 w1_12 →
 IfB x203
 (J_6 (2 : Int) w1_12)
 (J_6 (1 : Int) w1_12))) ∧
 (∀ (u_7 : Env) (x22 : Int) (w1_12 : World), J_6 x22 w1_12 →
 ∃ J_7 : Bool → World → Prop, (IfB (t95 == (0 : Int))
 (IfB (decide (((x8.l : Nat) : Int) > (0 : Int)))
 (J_7 (x22 != (2 : Int)) w1_12)
 (J_7 false w1_12))
 (J_7 false w1_12)) ∧
 (∀ (u_8 : Env) (x214 : Bool) (w1_13 : World), J_7 x214 w1_13 →
 IfB x214
 (Q (.bool false) w1_13)
 (∃ (I_1 : Nat → Int → World → Prop) (n0_1 : Nat), I_1 n0_1 (122 : Int) w1_13 ∧
 ∀ (n_1 : Nat) (u_9 : Env) (x23 : Int) (w1_14 : World), I_1 n_1 x23 w1_14 →
 IfB (decide (x23 < (512 : Int)))
 (RunT prog .val (Instr.lookup 26 t38 (.int .i64 x23) false) w1_14 fun (v221 : Value) w1_15 =>
 ∃ t221 : Int, v221 = (.int .i64 t221) ∧
 IfB (decide (t221 > (0 : Int)))
 (Calls prog 15 #[.pointer x13, .int .i64 x23, .int .u8 x22] w1_15 fun en w1_16 =>
 ∃ t227 : Bool, en = .returned (.bool t227) ∧
 IfB (!t227)
 (Q (.bool false) w1_16)
 (∃ n', n' < n_1 ∧ I_1 n' (IntKind.wrap .i64 (x23 + (1 : Int))) w1_16))
 (Calls prog 15 #[.pointer x13, .int .i64 x23, .int .u8 0] w1_15 fun en w1_16 =>
 ∃ t227 : Bool, en = .returned (.bool t227) ∧
 IfB (!t227)
 (Q (.bool false) w1_16)
 (∃ n', n' < n_1 ∧ I_1 n' (IntKind.wrap .i64 (x23 + (1 : Int))) w1_16)))
 (Calls prog 15 #[.pointer x13, .int .i64 0, .int .u8 0] w1_14 fun en w1_15 =>
 ∃ t230 : Bool, en = .returned (.bool t230) ∧
 Q (.bool t230) w1_15))))))))))))))))
def an3 : Ann := { cut := fun i => bif Nat.beq i 2 then some [(36, .bool)] else bif Nat.beq i 15 then some [(84, .bool)] else bif Nat.beq i 21 then some [(113, .bool)] else bif Nat.beq i 25 then some [] else bif Nat.beq i 32 then some [(12, .ptr)] else bif Nat.beq i 37 then some [(12, .ptr)] else bif Nat.beq i 39 then some [(178, .bool)] else bif Nat.beq i 43 then some [(13, .ptr), (21, .int .i64)] else bif Nat.beq i 47 then some [(203, .bool)] else bif Nat.beq i 48 then some [(22, .int .u8)] else bif Nat.beq i 49 then some [(214, .bool)] else none, loop := fun i => bif Nat.beq i 6 then [(7, .slice), (8, .slice), (10, .int .i64)] else bif Nat.beq i 23 then [(12, .ptr), (16, .int .i64)] else bif Nat.beq i 51 then [(23, .int .i64)] else [] }
theorem eq3 (x0 : Sl) (x1 : Int) (x2 : Sl) (w : World) (Q : Value → World → Prop) : F3 x0 x1 x2 w Q = vc prog an3 (Try.f3.body.getD .skip) (envOf [.slice x0.a x0.l x0.c, .int .i64 x1, .slice x2.a x2.l x2.c]) w (retK prog Try.f3 Q) := by kernel_rfl
theorem ok3 : codeOk Try.f3.ntmps (Try.f3.body.getD .skip) = true := by kernel_rfl
theorem W3 {x0 : Sl} {x1 : Int} {x2 : Sl} {w : World} {Q : Value → World → Prop} (h : F3 x0 x1 x2 w Q) : Calls prog 3 #[.slice x0.a x0.l x0.c, .int .i64 x1, .slice x2.a x2.l x2.c] w fun en w' => ∃ v, en = .returned v ∧ Q v w' :=
  calls_of_vc good follows an3 (args := [.slice x0.a x0.l x0.c, .int .i64 x1, .slice x2.a x2.l x2.c]) Try.func3 (by kernel_rfl) ok3 (of_decide_eq_true (by kernel_rfl)) (Eq.mp (eq3 x0 x1 x2 w Q) h)

/-- bastion/bastionlaw04.JournalAgain -/
def F4 (x0 : Sl) (x1 : Int) (w : World) (Q : Value → World → Prop) : Prop :=
 ∃ J : Bool → World → Prop, (IfB (decide (((x0.l : Nat) : Int) > (100 : Int)))
 (J true w)
 (Calls prog 7 #[] w fun en w1 =>
 ∃ t25 : Bool, en = .returned (.bool t25) ∧
 J (!t25) w1)) ∧
 (∀ (u : Env) (x27 : Bool) (w1 : World), J x27 w1 →
 IfB x27
 (Calls prog 7 #[] w1 fun en w1_1 =>
 ∃ t28 : Bool, en = .returned (.bool t28) ∧
 Q (.bool t28) w1_1)
 (Calls prog 9 #[] w1 fun en w1_1 =>
 ∃ t30a : Option Addr, ∃ t30b : Option Addr, en = .returned (.tuple #[.pointer t30a, .pointer t30b]) ∧
 ∃ b34 : Bool, BinIs prog .eql 32 (.tmp 33) (.const (.pointer none)) (.pointer t30b) (.pointer none) b34 ∧
 IfB b34
 (Q (.bool false) w1_1)
 (∃ (I : Nat → Sl → Int → World → Prop) (n0 : Nat), I n0 (⟨none, 0, 0⟩ : Sl) (0 : Int) w1_1 ∧
 ∀ (n : Nat) (u_1 : Env) (x7 : Sl) (x8 : Int) (w1_2 : World), I n x7 x8 w1_2 →
 IfB (decide (x8 < ((x0.l : Nat) : Int)))
 (∃ S : World → Prop, S w1_2.drew ∧
 ∃ p44, x0.a = some p44 ∧ 0 ≤ x8 ∧ x8 < ((x0.l : Nat) : Int) ∧
 ∃ t45 : Int, (∀ w', S w' → Ld w' (p44.add ((x8).toNat * 1)) (.int .i64 t45)) ∧
 (390 : Int) ≠ 0 ∧
 Calls prog 8 #[.int .u8 (IntKind.wrap .u8 x8)] w1_2.drew fun en w1_3 =>
 ∃ t52 : Sl, en = .returned (.slice t52.a t52.l t52.c) ∧
 S w1_3 ∧
 ∃ t53 : Array Value, BuildIs prog 30 #[(0, .int .i64 (IntKind.wrap .i64 ((122 : Int) + (IntKind.wrap .i64 (Int.tmod (IntKind.wrap .u64 t45) (390 : Int)))))), (1, .slice t52.a t52.l t52.c)] t53 ∧
 RunT prog .slice (Instr.buildSlice 25 1 #[(0, .agg t53)]) w1_3 fun (t54 : Sl) w1_4 =>
 RunT prog .slice (Builtin.append_ #[25, 25] 25 #[.slice x7.a x7.l x7.c, .slice t54.a t54.l t54.c]) w1_4 fun (t55 : Sl) w1_5 =>
 ∃ n', n' < n ∧ I n' t55 (IntKind.wrap .i64 (x8 + (1 : Int))) w1_5)
 ((300 : Int) ≠ 0 ∧
 Calls prog 11 #[.pointer t30a, .int .i64 (IntKind.wrap .i64 (Int.tmod (IntKind.wrap .u64 x1) (300 : Int)))] w1_2 fun en w1_3 =>
 ∃ t61 : Int, en = .returned (.int .i64 t61) ∧
 ∃ J_1 : Option Addr → World → Prop, (Calls prog 10 #[.pointer t30b, .slice x7.a x7.l x7.c] w1_3 fun en w1_4 =>
 ∃ t64 : Int, en = .returned (.int .i64 t64) ∧
 IfB (t64 == (20 : Int))
 (Calls prog 13 #[.pointer t30a] w1_4 fun en w1_5 =>
 ∃ t68a : Option Addr, ∃ t68b : Int, en = .returned (.tuple #[.pointer t68a, .int .i64 t68b]) ∧
 IfB (t68b != (0 : Int))
 (Q (.bool false) w1_5)
 (J_1 t68a w1_5))
 (Calls prog 11 #[.pointer t30a, .int .i64 10000] w1_4 fun en w1_5 =>
 ∃ t75 : Int, en = .returned (.int .i64 t75) ∧
 J_1 t30a w1_5)) ∧
 (∀ (u_2 : Env) (x5 : Option Addr) (w1_4 : World), J_1 x5 w1_4 →
 Calls prog 14 #[.pointer x5] w1_4 fun en w1_5 =>
 ∃ t78a : Option Addr, ∃ t78b : Int, en = .returned (.tuple #[.pointer t78a, .int .i64 t78b]) ∧
 Calls prog 16 #[.pointer x5] w1_5 fun en w1_6 =>
 ∃ t82 : Option Addr, en = .returned (.pointer t82) ∧
 Calls prog 14 #[.pointer t82] w1_6 fun en w1_7 =>
 ∃ t85a : Option Addr, ∃ t85b : Int, en = .returned (.tuple #[.pointer t85a, .int .i64 t85b]) ∧
 ∃ J_2 : Bool → World → Prop, (IfB (t78b != (0 : Int))
 (J_2 true w1_7)
 (J_2 (t85b != (0 : Int)) w1_7)) ∧
 (∀ (u_3 : Env) (x93 : Bool) (w1_8 : World), J_2 x93 w1_8 →
 IfB x93
 (Q (.bool false) w1_8)
 (∃ (I_1 : Nat → Int → World → Prop) (n0_1 : Nat), I_1 n0_1 (122 : Int) w1_8 ∧
 ∀ (n_1 : Nat) (u_4 : Env) (x16 : Int) (w1_9 : World), I_1 n_1 x16 w1_9 →
 IfB (decide (x16 < (512 : Int)))
 (Calls prog 17 #[.pointer t78a, .int .i64 x16] w1_9 fun en w1_10 =>
 ∃ t101a : Sl, ∃ t101b : Int, en = .returned (.tuple #[.slice t101a.a t101a.l t101a.c, .int .i64 t101b]) ∧
 Calls prog 17 #[.pointer t85a, .int .i64 x16] w1_10 fun en w1_11 =>
 ∃ t107a : Sl, ∃ t107b : Int, en = .returned (.tuple #[.slice t107a.a t107a.l t107a.c, .int .i64 t107b]) ∧
 IfB (t101b != (0 : Int))
 (Q (.bool false) w1_11)
 (IfB (t107b != (0 : Int))
 (Q (.bool false) w1_11)
 (RunT prog .str (convert 23 9 (.slice t101a.a t101a.l t101a.c)) w1_11 fun (t118 : ByteArray) w1_12 =>
 RunT prog .str (convert 23 9 (.slice t107a.a t107a.l t107a.c)) w1_12 fun (t120 : ByteArray) w1_13 =>
 IfB (!(t118.toList == t120.toList))
 (Q (.bool false) w1_13)
 (∃ n', n' < n_1 ∧ I_1 n' (IntKind.wrap .i64 (x16 + (1 : Int))) w1_13))))
 (Q (.bool true) w1_9))))))))
def an4 : Ann := { cut := fun i => bif Nat.beq i 2 then some [(27, .bool)] else bif Nat.beq i 18 then some [(5, .ptr)] else bif Nat.beq i 22 then some [(93, .bool)] else none, loop := fun i => bif Nat.beq i 8 then [(7, .slice), (8, .int .i64)] else bif Nat.beq i 24 then [(16, .int .i64)] else [] }
theorem eq4 (x0 : Sl) (x1 : Int) (w : World) (Q : Value → World → Prop) : F4 x0 x1 w Q = vc prog an4 (Try.f4.body.getD .skip) (envOf [.slice x0.a x0.l x0.c, .int .i64 x1]) w (retK prog Try.f4 Q) := by kernel_rfl
theorem ok4 : codeOk Try.f4.ntmps (Try.f4.body.getD .skip) = true := by kernel_rfl
theorem W4 {x0 : Sl} {x1 : Int} {w : World} {Q : Value → World → Prop} (h : F4 x0 x1 w Q) : Calls prog 4 #[.slice x0.a x0.l x0.c, .int .i64 x1] w fun en w' => ∃ v, en = .returned v ∧ Q v w' :=
  calls_of_vc good follows an4 (args := [.slice x0.a x0.l x0.c, .int .i64 x1]) Try.func4 (by kernel_rfl) ok4 (of_decide_eq_true (by kernel_rfl)) (Eq.mp (eq4 x0 x1 w Q) h)

/-- bastion/bastionlaw04.JournalPlays -/
def F5 (x0 : Int) (x1 : Sl) (w : World) (Q : Value → World → Prop) : Prop :=
 Calls prog 18 #[.int .i64 x0] w fun en w1 =>
 ∃ t37a : Option Addr, ∃ t37b : Int, en = .returned (.tuple #[.pointer t37a, .int .i64 t37b]) ∧
 IfB (t37b != (0 : Int))
 (Calls prog 14 #[.pointer t37a] w1 fun en w1_1 =>
 ∃ t44a : Option Addr, ∃ t44b : Int, en = .returned (.tuple #[.pointer t44a, .int .i64 t44b]) ∧
 IfB (t44b == (2 : Int))
 (Calls prog 7 #[] w1_1 fun en w1_2 =>
 ∃ t50 : Bool, en = .returned (.bool t50) ∧
 Q (.bool t50) w1_2)
 (Q (.bool false) w1_1))
 (∃ J : Int → World → Prop, (∃ (I : Nat → Int → Int → World → Prop) (n0 : Nat), I n0 (0 : Int) (0 : Int) w1 ∧
 ∀ (n : Nat) (u : Env) (x9 : Int) (x10 : Int) (w1_1 : World), I n x9 x10 w1_1 →
 IfB (decide (x10 < ((x1.l : Nat) : Int)))
 (IfB (decide (x10 < (100 : Int)))
 (∃ p65, x1.a = some p65 ∧ 0 ≤ x10 ∧ x10 < ((x1.l : Nat) : Int) ∧
 ∃ t67 : Sl, Ld w1_1 ((p65.add ((x10).toNat * 5)).add 1) (.slice t67.a t67.l t67.c) ∧
 ∃ n', n' < n ∧ I n' (IntKind.wrap .i64 (x9 + ((t67.l : Nat) : Int))) (IntKind.wrap .i64 (x10 + (1 : Int))) w1_1)
 (J x9 w1_1))
 (J x9 w1_1)) ∧
 (∀ (u : Env) (x9 : Int) (w1_1 : World), J x9 w1_1 →
 ∃ J_1 : Bool → World → Prop, (IfB (decide (((x1.l : Nat) : Int) > (60 : Int)))
 (J_1 true w1_1)
 (J_1 (decide (x9 > (400 : Int))) w1_1)) ∧
 (∀ (u_1 : Env) (x76 : Bool) (w1_2 : World), J_1 x76 w1_2 →
 IfB x76
 (Calls prog 7 #[] w1_2 fun en w1_3 =>
 ∃ t77 : Bool, en = .returned (.bool t77) ∧
 Q (.bool t77) w1_3)
 (RunT prog .slice (Instr.buildSlice 22 7 #[(0, .int .i64 0), (1, .int .i64 1), (2, .int .i64 121), (3, .int .i64 122), (4, .int .i64 (IntKind.wrap .i64 (x0 - (1 : Int)))), (5, .int .i64 x0), (6, .int .i64 (-1))]) w1_2 fun (t81 : Sl) w1_3 =>
 ∃ (I : Nat → Sl → Int → World → Prop) (n0 : Nat), I n0 t81 (0 : Int) w1_3 ∧
 ∀ (n : Nat) (u_2 : Env) (x11 : Sl) (x12 : Int) (w1_4 : World), I n x11 x12 w1_4 →
 IfB (decide (x12 < ((x1.l : Nat) : Int)))
 (∃ p91, x1.a = some p91 ∧ 0 ≤ x12 ∧ x12 < ((x1.l : Nat) : Int) ∧
 ∃ t93 : Sl, Ld w1_4 ((p91.add ((x12).toNat * 5)).add 1) (.slice t93.a t93.l t93.c) ∧
 RunT prog .slice (Builtin.append_ #[22, 22] 22 #[.slice x11.a x11.l x11.c, .slice t93.a t93.l t93.c]) w1_4 fun (t94 : Sl) w1_5 =>
 ∃ n', n' < n ∧ I n' t94 (IntKind.wrap .i64 (x12 + (1 : Int))) w1_5)
 (Calls prog 14 #[.pointer t37a] w1_4 fun en w1_5 =>
 ∃ t97a : Option Addr, ∃ t97b : Int, en = .returned (.tuple #[.pointer t97a, .int .i64 t97b]) ∧
 ∃ J_2 : Bool → World → Prop, (IfB (t97b != (0 : Int))
 (J_2 true w1_5)
 (Calls prog 19 #[.pointer t97a] w1_5 fun en w1_6 =>
 ∃ t104 : Option Addr, en = .returned (.pointer t104) ∧
 RunT prog .bool (do eqGuard .neq 31 (.tmp 104) (.tmp 105) (.pointer t104) (.pointer t37a); binOp .neq 31 (.pointer t104) (.pointer t37a)) w1_6 fun (t106 : Bool) w1_7 =>
 J_2 t106 w1_7)) ∧
 (∀ (u_3 : Env) (x107 : Bool) (w1_6 : World), J_2 x107 w1_6 →
 IfB x107
 (Q (.bool false) w1_6)
 (Calls prog 20 #[.int .i64 x0] w1_6 fun en w1_7 =>
 ∃ t109 : Option Addr, en = .returned (.pointer t109) ∧
 ∃ (I_1 : Nat → Option Addr → Option Addr → Option Addr → Option Addr → Int → World → Prop) (n0_1 : Nat), I_1 n0_1 t37a t97a t109 t109 (0 : Int) w1_7 ∧
 ∀ (n_1 : Nat) (u_4 : Env) (x5 : Option Addr) (x13 : Option Addr) (x14 : Option Addr) (x15 : Option Addr) (x16 : Int) (w1_8 : World), I_1 n_1 x5 x13 x14 x15 x16 w1_8 →
 IfB (decide (x16 < ((x1.l : Nat) : Int)))
 (∃ p119, x1.a = some p119 ∧ 0 ≤ x16 ∧ x16 < ((x1.l : Nat) : Int) ∧
 ∃ t120 : Array Value, LdA w1_8 (p119.add ((x16).toNat * 5)) 5 t120 ∧
 ∀ b17 w1_9, NewB w1_8 (.cells #[.int .u8 0, .slice none 0 0, .int .u8 0, .bool false, .int .i64 0] 51) b17 w1_9 →
 t120.size = 5 ∧ (∀ u, u ∈ t120.toList → u.oneCell' = true) ∧ WrA w1_9 (⟨b17, 0, none⟩ : Addr) 5 ∧ ∀ w1_10, w1_10 = setAt w1_9 (⟨b17, 0, none⟩ : Addr) t120.toList 0 →
 ∃ J_3 : Option Addr → Option Addr → Option Addr → Option Addr → World → Prop, (∃ t122 : Int, Ld w1_10 ((⟨b17, 0, none⟩ : Addr).add 0) (.int .u8 t122) ∧
 IfB (t122 == (0 : Int))
 (∃ t193 : Array Value, LdA w1_10 (⟨b17, 0, none⟩ : Addr) 5 t193 ∧
 Calls prog 21 #[.agg t193] w1_10 fun en w1_11 =>
 ∃ t194a : Sl, ∃ t194b : Sl, en = .returned (.tuple #[.slice t194a.a t194a.l t194a.c, .slice t194b.a t194b.l t194b.c]) ∧
 Calls prog 22 #[.pointer x5] w1_11 fun en w1_12 =>
 ∃ t198 : Int, en = .returned (.int .i64 t198) ∧
 Calls prog 12 #[.pointer x5] w1_12 fun en w1_13 =>
 ∃ t200 : Bool, en = .returned (.bool t200) ∧
 Calls prog 10 #[.pointer x13, .slice t194a.a t194a.l t194a.c] w1_13 fun en w1_14 =>
 ∃ t203 : Int, en = .returned (.int .i64 t203) ∧
 ∃ (I_2 : Nat → Int → World → Prop) (n0_2 : Nat), I_2 n0_2 (0 : Int) w1_14 ∧
 ∀ (n_2 : Nat) (u_5 : Env) (x23 : Int) (w1_15 : World), I_2 n_2 x23 w1_15 →
 IfB (decide (x23 < ((t194a.l : Nat) : Int)))
 (∃ J_4 : Bool → World → Prop, (∃ S : World → Prop, S w1_15.drew ∧
 ∃ p212, t194a.a = some p212 ∧ 0 ≤ x23 ∧ x23 < ((t194a.l : Nat) : Int) ∧
 ∃ t214 : Int, (∀ w', S w' → Ld w' ((p212.add ((x23).toNat * 2)).add 0) (.int .i64 t214)) ∧
 ∃ p217, t194b.a = some p217 ∧ 0 ≤ x23 ∧ x23 < ((t194b.l : Nat) : Int) ∧
 ∃ t219 : Int, (∀ w', S w' → Ld w' ((p217.add ((x23).toNat * 2)).add 0) (.int .i64 t219)) ∧
 IfB (t214 != t219)
 ((J_4 true w1_15.drew) ∧
 (J_4 true w1_15.drew))
 (∃ p224, t194a.a = some p224 ∧ 0 ≤ x23 ∧ x23 < ((t194a.l : Nat) : Int) ∧
 ∃ t226 : Sl, (∀ w', S w' → Ld w' ((p224.add ((x23).toNat * 2)).add 1) (.slice t226.a t226.l t226.c)) ∧
 ∃ p230, t194b.a = some p230 ∧ 0 ≤ x23 ∧ x23 < ((t194b.l : Nat) : Int) ∧
 ∃ t232 : Sl, (∀ w', S w' → Ld w' ((p230.add ((x23).toNat * 2)).add 1) (.slice t232.a t232.l t232.c)) ∧
 (RunT prog .str (convert 23 9 (.slice t226.a t226.l t226.c)) w1_15.drew fun (t227 : ByteArray) w1_16 =>
 S w1_16 ∧
 RunT prog .str (convert 23 9 (.slice t232.a t232.l t232.c)) w1_16 fun (t233 : ByteArray) w1_17 =>
 S w1_17 ∧
 J_4 (!(t227.toList == t233.toList)) w1_17) ∧
 (RunT prog .str (convert 23 9 (.slice t232.a t232.l t232.c)) w1_15.drew fun (t233 : ByteArray) w1_16 =>
 S w1_16 ∧
 RunT prog .str (convert 23 9 (.slice t226.a t226.l t226.c)) w1_16 fun (t227 : ByteArray) w1_17 =>
 S w1_17 ∧
 J_4 (!(t227.toList == t233.toList)) w1_17))) ∧
 (∀ (u_6 : Env) (x235 : Bool) (w1_16 : World), J_4 x235 w1_16 →
 IfB x235
 (Q (.bool false) w1_16)
 (∃ (I_3 : Nat → Int → World → Prop) (n0_3 : Nat), I_3 n0_3 (0 : Int) w1_16 ∧
 ∀ (n_3 : Nat) (u_7 : Env) (x24 : Int) (w1_17 : World), I_3 n_3 x24 w1_17 →
 ∃ p239, t194a.a = some p239 ∧ 0 ≤ x23 ∧ x23 < ((t194a.l : Nat) : Int) ∧
 ∃ t241 : Sl, Ld w1_17 ((p239.add ((x23).toNat * 2)).add 1) (.slice t241.a t241.l t241.c) ∧
 IfB (decide (x24 < ((t241.l : Nat) : Int)))
 (∃ p248, t194a.a = some p248 ∧ 0 ≤ x23 ∧ x23 < ((t194a.l : Nat) : Int) ∧
 ∃ t250 : Sl, Ld w1_17 ((p248.add ((x23).toNat * 2)).add 1) (.slice t250.a t250.l t250.c) ∧
 ∃ p252, t250.a = some p252 ∧ 0 ≤ x24 ∧ x24 < ((t250.l : Nat) : Int) ∧
 Wr w1_17 (p252.add ((x24).toNat * 1)) ∧ ∀ w1_18, w1_18 = w1_17.setCell (p252.add ((x24).toNat * 1)) (.int .u8 221) →
 ∃ n', n' < n_3 ∧ I_3 n' (IntKind.wrap .i64 (x24 + (1 : Int))) w1_18)
 (∃ n', n' < n_2 ∧ I_2 n' (IntKind.wrap .i64 (x23 + (1 : Int))) w1_17))))
 (Calls prog 23 #[.pointer x14, .slice t194b.a t194b.l t194b.c] w1_15 fun en w1_16 =>
 ∃ t255 : Int, en = .returned (.int .i64 t255) ∧
 IfB (t203 == (20 : Int))
 (∃ J_4 : Bool → World → Prop, (Calls prog 12 #[.pointer x5] w1_16 fun en w1_17 =>
 ∃ t260 : Bool, en = .returned (.bool t260) ∧
 IfB (!t260)
 (J_4 true w1_17)
 (IfB (!t200)
 (IfB (t255 != (0 : Int))
 (J_4 true w1_17)
 (IfB t200
 (Calls prog 22 #[.pointer x5] w1_17 fun en w1_18 =>
 ∃ t274 : Int, en = .returned (.int .i64 t274) ∧
 J_4 (t274 != t198) w1_18)
 (J_4 false w1_17)))
 (IfB t200
 (Calls prog 22 #[.pointer x5] w1_17 fun en w1_18 =>
 ∃ t274 : Int, en = .returned (.int .i64 t274) ∧
 J_4 (t274 != t198) w1_18)
 (J_4 false w1_17)))) ∧
 (∀ (u_6 : Env) (x278 : Bool) (w1_17 : World), J_4 x278 w1_17 →
 IfB x278
 (Q (.bool false) w1_17)
 (IfB (!t200)
 (Calls prog 24 #[.pointer x14, .slice t194b.a t194b.l t194b.c] w1_17 fun en w1_18 =>
 ∃ t283 : Option Addr, en = .returned (.pointer t283) ∧
 J_3 x5 x13 x14 t283 w1_18)
 (J_3 x5 x13 x14 x15 w1_17))))
 (∃ J_4 : Bool → World → Prop, (IfB t200
 (J_4 true w1_16)
 (IfB (t203 != t255)
 (J_4 true w1_16)
 (Calls prog 12 #[.pointer x5] w1_16 fun en w1_17 =>
 ∃ t293 : Bool, en = .returned (.bool t293) ∧
 J_4 t293 w1_17))) ∧
 (∀ (u_6 : Env) (x284 : Bool) (w1_17 : World), J_4 x284 w1_17 →
 IfB x284
 (Q (.bool false) w1_17)
 (IfB (t203 == (0 : Int))
 (∃ J_5 : Bool → World → Prop, (Calls prog 22 #[.pointer x5] w1_17 fun en w1_18 =>
 ∃ t299 : Int, en = .returned (.int .i64 t299) ∧
 IfB (decide (IntKind.wrap .i64 (t299 - t198) > IntKind.wrap .i64 ((IntKind.wrap .i64 ((2 : Int) * ((t194b.l : Nat) : Int))) + (2 : Int))))
 (J_5 true w1_18)
 (IfB (((t194b.l : Nat) : Int) == (0 : Int))
 (Calls prog 22 #[.pointer x5] w1_18 fun en w1_19 =>
 ∃ t313 : Int, en = .returned (.int .i64 t313) ∧
 J_5 (t313 != t198) w1_19)
 (J_5 false w1_18))) ∧
 (∀ (u_7 : Env) (x317 : Bool) (w1_18 : World), J_5 x317 w1_18 →
 IfB x317
 (Q (.bool false) w1_18)
 (Calls prog 24 #[.pointer x14, .slice t194b.a t194b.l t194b.c] w1_18 fun en w1_19 =>
 ∃ t320 : Option Addr, en = .returned (.pointer t320) ∧
 J_3 x5 x13 t320 t320 w1_19)))
 (J_3 x5 x13 x14 x15 w1_17))))))
 (IfB (t122 == (1 : Int))
 (∃ t325 : Sl, Ld w1_10 ((⟨b17, 0, none⟩ : Addr).add 1) (.slice t325.a t325.l t325.c) ∧
 IfB (((t325.l : Nat) : Int) == (0 : Int))
 (∃ n', n' < n_1 ∧ I_1 n' x5 x13 x14 x15 (IntKind.wrap .i64 (x16 + (1 : Int))) w1_10)
 (∃ S : World → Prop, S w1_10.drew ∧
 ∃ t330 : Sl, (∀ w', S w' → Ld w' ((⟨b17, 0, none⟩ : Addr).add 1) (.slice t330.a t330.l t330.c)) ∧
 (0 ≤ (1 : Int) ∧ (1 : Int) ≤ ((t330.c : Nat) : Int)) ∧
 ∃ t333 : Int, (∀ w', S w' → Ld w' ((⟨b17, 0, none⟩ : Addr).add 2) (.int .u8 t333)) ∧
 ∃ t335 : Bool, (∀ w', S w' → Ld w' ((⟨b17, 0, none⟩ : Addr).add 3) (.bool t335)) ∧
 ∃ t336 : Array Value, BuildIs prog 51 #[(1, .slice (slA t330.a 0 t330.c 1) (1 - 0) (t330.c - 0)), (2, .int .u8 t333), (3, .bool t335)] t336 ∧
 Calls prog 21 #[.agg t336] w1_10.drew fun en w1_11 =>
 ∃ t337a : Sl, ∃ t337b : Sl, en = .returned (.tuple #[.slice t337a.a t337a.l t337a.c, .slice t337b.a t337b.l t337b.c]) ∧
 Calls prog 12 #[.pointer x5] w1_11 fun en w1_12 =>
 ∃ t341 : Bool, en = .returned (.bool t341) ∧
 ∃ S_1 : World → Prop, S_1 w1_12.drew ∧
 ∃ p344, t337a.a = some p344 ∧ 0 ≤ (0 : Int) ∧ (0 : Int) < ((t337a.l : Nat) : Int) ∧
 ∃ t346 : Int, (∀ w', S_1 w' → Ld w' ((p344.add (0 * 2)).add 0) (.int .i64 t346)) ∧
 ∃ p348, t337a.a = some p348 ∧ 0 ≤ (0 : Int) ∧ (0 : Int) < ((t337a.l : Nat) : Int) ∧
 ∃ t350 : Sl, (∀ w', S_1 w' → Ld w' ((p348.add (0 * 2)).add 1) (.slice t350.a t350.l t350.c)) ∧
 Calls prog 25 #[.pointer x13, .int .i64 t346, .slice t350.a t350.l t350.c] w1_12.drew fun en w1_13 =>
 ∃ t351 : Int, en = .returned (.int .i64 t351) ∧
 Calls prog 23 #[.pointer x14, .slice t337b.a t337b.l t337b.c] w1_13 fun en w1_14 =>
 ∃ t354 : Int, en = .returned (.int .i64 t354) ∧
 IfB (t351 == (20 : Int))
 (Calls prog 12 #[.pointer x5] w1_14 fun en w1_15 =>
 ∃ t359 : Bool, en = .returned (.bool t359) ∧
 IfB (!t359)
 (Q (.bool false) w1_15)
 (J_3 x5 x13 x14 x15 w1_15))
 (∃ J_4 : Bool → World → Prop, (IfB t341
 (J_4 true w1_14)
 (IfB (t351 != t354)
 (J_4 true w1_14)
 (Calls prog 12 #[.pointer x5] w1_14 fun en w1_15 =>
 ∃ t370 : Bool, en = .returned (.bool t370) ∧
 J_4 t370 w1_15))) ∧
 (∀ (u_5 : Env) (x361 : Bool) (w1_15 : World), J_4 x361 w1_15 →
 IfB x361
 (Q (.bool false) w1_15)
 (IfB (t351 == (0 : Int))
 (Calls prog 24 #[.pointer x14, .slice t337b.a t337b.l t337b.c] w1_15 fun en w1_16 =>
 ∃ t377 : Option Addr, en = .returned (.pointer t377) ∧
 J_3 x5 x13 t377 t377 w1_16)
 (J_3 x5 x13 x14 x15 w1_15))))))
 (IfB (t122 == (2 : Int))
 (∃ t382 : Int, Ld w1_10 ((⟨b17, 0, none⟩ : Addr).add 4) (.int .i64 t382) ∧
 IfB (decide (t382 ≥ (0 : Int)))
 (∃ t386 : Int, Ld w1_10 ((⟨b17, 0, none⟩ : Addr).add 4) (.int .i64 t386) ∧
 IfB (decide (t386 < (1000 : Int)))
 (∃ t391 : Int, Ld w1_10 ((⟨b17, 0, none⟩ : Addr).add 4) (.int .i64 t391) ∧
 Calls prog 11 #[.pointer x5, .int .i64 t391] w1_10 fun en w1_11 =>
 ∃ t392 : Int, en = .returned (.int .i64 t392) ∧
 J_3 x5 x13 x14 x15 w1_11)
 (J_3 x5 x13 x14 x15 w1_10))
 (J_3 x5 x13 x14 x15 w1_10))
 (∃ J_4 : Option Addr → World → Prop, (Calls prog 12 #[.pointer x5] w1_10 fun en w1_11 =>
 ∃ t124 : Bool, en = .returned (.bool t124) ∧
 IfB t124
 (Calls prog 17 #[.pointer x13, .int .i64 0] w1_11 fun en w1_12 =>
 ∃ t127a : Sl, ∃ t127b : Int, en = .returned (.tuple #[.slice t127a.a t127a.l t127a.c, .int .i64 t127b]) ∧
 ∃ J_5 : Bool → World → Prop, (IfB (t127b != (20 : Int))
 (J_5 true w1_12)
 (Calls prog 8 #[.int .u8 1] w1_12 fun en w1_13 =>
 ∃ t134 : Sl, en = .returned (.slice t134.a t134.l t134.c) ∧
 Calls prog 25 #[.pointer x13, .int .i64 0, .slice t134.a t134.l t134.c] w1_13 fun en w1_14 =>
 ∃ t135 : Int, en = .returned (.int .i64 t135) ∧
 IfB (t135 != (20 : Int))
 (J_5 true w1_14)
 (Calls prog 10 #[.pointer x13, .slice none 0 0] w1_14 fun en w1_15 =>
 ∃ t140 : Int, en = .returned (.int .i64 t140) ∧
 J_5 (t140 != (20 : Int)) w1_15))) ∧
 (∀ (u_5 : Env) (x142 : Bool) (w1_13 : World), J_5 x142 w1_13 →
 IfB x142
 (Q (.bool false) w1_13)
 (Calls prog 13 #[.pointer x5] w1_13 fun en w1_14 =>
 ∃ t145a : Option Addr, ∃ t145b : Int, en = .returned (.tuple #[.pointer t145a, .int .i64 t145b]) ∧
 IfB (t145b != (0 : Int))
 (Q (.bool false) w1_14)
 (∃ J_6 : Bool → World → Prop, (∃ t151 : Int, Ld w1_14 ((⟨b17, 0, none⟩ : Addr).add 4) (.int .i64 t151) ∧
 IfB (decide (t151 > (0 : Int)))
 (∃ t155 : Int, Ld w1_14 ((⟨b17, 0, none⟩ : Addr).add 4) (.int .i64 t155) ∧
 J_6 (decide (t155 < (1000 : Int))) w1_14)
 (J_6 false w1_14)) ∧
 (∀ (u_6 : Env) (x157 : Bool) (w1_15 : World), J_6 x157 w1_15 →
 IfB x157
 (∃ t160 : Int, Ld w1_15 ((⟨b17, 0, none⟩ : Addr).add 4) (.int .i64 t160) ∧
 Calls prog 11 #[.pointer t145a, .int .i64 (IntKind.wrap .i64 (t160 - (1 : Int)))] w1_15 fun en w1_16 =>
 ∃ t162 : Int, en = .returned (.int .i64 t162) ∧
 J_4 t145a w1_16)
 (J_4 t145a w1_15))))))
 (J_4 x5 w1_11)) ∧
 (∀ (u_5 : Env) (x5_1 : Option Addr) (w1_11 : World), J_4 x5_1 w1_11 →
 Calls prog 14 #[.pointer x5_1] w1_11 fun en w1_12 =>
 ∃ t165a : Option Addr, ∃ t165b : Int, en = .returned (.tuple #[.pointer t165a, .int .i64 t165b]) ∧
 IfB (t165b == (20 : Int))
 (Calls prog 12 #[.pointer x5_1] w1_12 fun en w1_13 =>
 ∃ t171 : Bool, en = .returned (.bool t171) ∧
 IfB (!t171)
 (Q (.bool false) w1_13)
 (∃ n', n' < n_1 ∧ I_1 n' x5_1 x13 x14 x15 (IntKind.wrap .i64 (x16 + (1 : Int))) w1_13))
 (IfB (t165b != (0 : Int))
 (Q (.bool false) w1_12)
 (Calls prog 12 #[.pointer x5_1] w1_12 fun en w1_13 =>
 ∃ t177 : Bool, en = .returned (.bool t177) ∧
 IfB t177
 (Q (.bool false) w1_13)
 (Calls prog 26 #[.pointer t165a, .pointer x14, .slice x11.a x11.l x11.c] w1_13 fun en w1_14 =>
 ∃ t183 : Bool, en = .returned (.bool t183) ∧
 IfB t183
 (∃ n', n' < n_1 ∧ I_1 n' x5_1 t165a x14 x14 (IntKind.wrap .i64 (x16 + (1 : Int))) w1_14)
 (Calls prog 26 #[.pointer t165a, .pointer x15, .slice x11.a x11.l x11.c] w1_14 fun en w1_15 =>
 ∃ t188 : Bool, en = .returned (.bool t188) ∧
 IfB t188
 (∃ n', n' < n_1 ∧ I_1 n' x5_1 t165a x15 x15 (IntKind.wrap .i64 (x16 + (1 : Int))) w1_15)
 (Q (.bool false) w1_15)))))))))) ∧
 (∀ (u_5 : Env) (x5_1 : Option Addr) (x13_1 : Option Addr) (x14_1 : Option Addr) (x15_1 : Option Addr) (w1_11 : World), J_3 x5_1 x13_1 x14_1 x15_1 w1_11 →
 Calls prog 12 #[.pointer x5_1] w1_11 fun en w1_12 =>
 ∃ t394 : Bool, en = .returned (.bool t394) ∧
 IfB (!t394)
 (Calls prog 26 #[.pointer x13_1, .pointer x14_1, .slice x11.a x11.l x11.c] w1_12 fun en w1_13 =>
 ∃ t400 : Bool, en = .returned (.bool t400) ∧
 IfB (!t400)
 (Q (.bool false) w1_13)
 (∃ n', n' < n_1 ∧ I_1 n' x5_1 x13_1 x14_1 x15_1 (IntKind.wrap .i64 (x16 + (1 : Int))) w1_13))
 (∃ n', n' < n_1 ∧ I_1 n' x5_1 x13_1 x14_1 x15_1 (IntKind.wrap .i64 (x16 + (1 : Int))) w1_12)))
 (Calls prog 7 #[] w1_8 fun en w1_9 =>
 ∃ t403 : Bool, en = .returned (.bool t403) ∧
 Q (.bool t403) w1_9))))))))
def an5 : Ann := { cut := fun i => bif Nat.beq i 10 then some [(9, .int .i64)] else bif Nat.beq i 11 then some [(76, .bool)] else bif Nat.beq i 19 then some [(107, .bool)] else bif Nat.beq i 30 then some [(142, .bool)] else bif Nat.beq i 35 then some [(157, .bool)] else bif Nat.beq i 36 then some [(5, .ptr)] else bif Nat.beq i 56 then some [(235, .bool)] else bif Nat.beq i 64 then some [(278, .bool)] else bif Nat.beq i 68 then some [(284, .bool)] else bif Nat.beq i 71 then some [(317, .bool)] else bif Nat.beq i 84 then some [(361, .bool)] else bif Nat.beq i 91 then some [(5, .ptr), (13, .ptr), (14, .ptr), (15, .ptr)] else none, loop := fun i => bif Nat.beq i 7 then [(9, .int .i64), (10, .int .i64)] else bif Nat.beq i 14 then [(11, .slice), (12, .int .i64)] else bif Nat.beq i 23 then [(5, .ptr), (13, .ptr), (14, .ptr), (15, .ptr), (16, .int .i64)] else bif Nat.beq i 53 then [(23, .int .i64)] else bif Nat.beq i 58 then [(24, .int .i64)] else [] }
theorem eq5 (x0 : Int) (x1 : Sl) (w : World) (Q : Value → World → Prop) : F5 x0 x1 w Q = vc prog an5 (Try.f5.body.getD .skip) (envOf [.int .i64 x0, .slice x1.a x1.l x1.c]) w (retK prog Try.f5 Q) := by kernel_rfl
theorem ok5 : codeOk Try.f5.ntmps (Try.f5.body.getD .skip) = true := by kernel_rfl
theorem W5 {x0 : Int} {x1 : Sl} {w : World} {Q : Value → World → Prop} (h : F5 x0 x1 w Q) : Calls prog 5 #[.int .i64 x0, .slice x1.a x1.l x1.c] w fun en w' => ∃ v, en = .returned v ∧ Q v w' :=
  calls_of_vc good follows an5 (args := [.int .i64 x0, .slice x1.a x1.l x1.c]) Try.func5 (by kernel_rfl) ok5 (of_decide_eq_true (by kernel_rfl)) (Eq.mp (eq5 x0 x1 w Q) h)

/-- bastion/bastionlaw04.JournalNames -/
def F6 (w : World) (Q : Value → World → Prop) : Prop :=
 Calls prog 14 #[.pointer none] w fun en w1 =>
 ∃ t22a : Option Addr, ∃ t22b : Int, en = .returned (.tuple #[.pointer t22a, .int .i64 t22b]) ∧
 Calls prog 17 #[.pointer none, .int .i64 0] w1 fun en w1_1 =>
 ∃ t27a : Sl, ∃ t27b : Int, en = .returned (.tuple #[.slice t27a.a t27a.l t27a.c, .int .i64 t27b]) ∧
 Calls prog 9 #[] w1_1 fun en w1_2 =>
 ∃ t31a : Option Addr, ∃ t31b : Option Addr, en = .returned (.tuple #[.pointer t31a, .pointer t31b]) ∧
 ∃ J : Bool → World → Prop, (∃ b35 : Bool, BinIs prog .eql 32 (.tmp 34) (.const (.pointer none)) (.pointer t31b) (.pointer none) b35 ∧
 IfB b35
 (J true w1_2)
 (Calls prog 19 #[.pointer none] w1_2 fun en w1_3 =>
 ∃ t38 : Option Addr, en = .returned (.pointer t38) ∧
 ∃ b39 : Bool, BinIs prog .neq 31 (.tmp 38) (.const (.pointer none)) (.pointer t38) (.pointer none) b39 ∧
 J b39 w1_3)) ∧
 (∀ (u : Env) (x40 : Bool) (w1_3 : World), J x40 w1_3 →
 IfB x40
 (Q (.bool false) w1_3)
 (∃ (I : Nat → Sl → Int → World → Prop) (n0 : Nat), I n0 (⟨none, 0, 0⟩ : Sl) (0 : Int) w1_3 ∧
 ∀ (n : Nat) (u_1 : Env) (x8 : Sl) (x9 : Int) (w1_4 : World), I n x8 x9 w1_4 →
 IfB (decide (x9 < (121 : Int)))
 (Calls prog 8 #[.int .u8 (IntKind.wrap .u8 x9)] w1_4 fun en w1_5 =>
 ∃ t50 : Sl, en = .returned (.slice t50.a t50.l t50.c) ∧
 ∃ t51 : Array Value, BuildIs prog 30 #[(0, .int .i64 (IntKind.wrap .i64 ((130 : Int) + x9))), (1, .slice t50.a t50.l t50.c)] t51 ∧
 RunT prog .slice (Instr.buildSlice 25 1 #[(0, .agg t51)]) w1_5 fun (t52 : Sl) w1_6 =>
 RunT prog .slice (Builtin.append_ #[25, 25] 25 #[.slice x8.a x8.l x8.c, .slice t52.a t52.l t52.c]) w1_6 fun (t53 : Sl) w1_7 =>
 ∃ n', n' < n ∧ I n' t53 (IntKind.wrap .i64 (x9 + (1 : Int))) w1_7)
 ((0 ≤ (120 : Int) ∧ (120 : Int) ≤ ((x8.c : Nat) : Int)) ∧
 Calls prog 10 #[.pointer t31b, .slice x8.a x8.l x8.c] w1_4.drew fun en w1_5 =>
 ∃ t56 : Int, en = .returned (.int .i64 t56) ∧
 Calls prog 10 #[.pointer t31b, .slice (slA x8.a 0 x8.c 2) (120 - 0) (x8.c - 0)] w1_5 fun en w1_6 =>
 ∃ t60 : Int, en = .returned (.int .i64 t60) ∧
 Calls prog 17 #[.pointer t31b, .int .i64 121] w1_6 fun en w1_7 =>
 ∃ t63a : Sl, ∃ t63b : Int, en = .returned (.tuple #[.slice t63a.a t63a.l t63a.c, .int .i64 t63b]) ∧
 Calls prog 8 #[.int .u8 0] w1_7 fun en w1_8 =>
 ∃ t67 : Sl, en = .returned (.slice t67.a t67.l t67.c) ∧
 Calls prog 25 #[.pointer t31b, .int .i64 1, .slice t67.a t67.l t67.c] w1_8 fun en w1_9 =>
 ∃ t68 : Int, en = .returned (.int .i64 t68) ∧
 Calls prog 8 #[.int .u8 0] w1_9 fun en w1_10 =>
 ∃ t70 : Sl, en = .returned (.slice t70.a t70.l t70.c) ∧
 (0 ≤ (255 : Int) ∧ (255 : Int) ≤ ((t70.c : Nat) : Int)) ∧
 Calls prog 25 #[.pointer t31b, .int .i64 122, .slice (slA t70.a 0 t70.c 1) (255 - 0) (t70.c - 0)] w1_10 fun en w1_11 =>
 ∃ t72 : Int, en = .returned (.int .i64 t72) ∧
 Calls prog 10 #[.pointer t31b, .slice none 0 0] w1_11 fun en w1_12 =>
 ∃ t74 : Int, en = .returned (.int .i64 t74) ∧
 Calls prog 11 #[.pointer t31a, .int .i64 0] w1_12 fun en w1_13 =>
 ∃ t76 : Int, en = .returned (.int .i64 t76) ∧
 Calls prog 8 #[.int .u8 9] w1_13 fun en w1_14 =>
 ∃ t78 : Sl, en = .returned (.slice t78.a t78.l t78.c) ∧
 Calls prog 25 #[.pointer t31b, .int .i64 122, .slice t78.a t78.l t78.c] w1_14 fun en w1_15 =>
 ∃ t79 : Int, en = .returned (.int .i64 t79) ∧
 Calls prog 14 #[.pointer t31a] w1_15 fun en w1_16 =>
 ∃ t82a : Option Addr, ∃ t82b : Int, en = .returned (.tuple #[.pointer t82a, .int .i64 t82b]) ∧
 IfB (t22b == (2 : Int))
 (IfB (t27b == (2 : Int))
 (Calls prog 25 #[.pointer none, .int .i64 0, .slice none 0 0] w1_16 fun en w1_17 =>
 ∃ t93 : Int, en = .returned (.int .i64 t93) ∧
 IfB (t93 == (2 : Int))
 (Calls prog 10 #[.pointer none, .slice x8.a x8.l x8.c] w1_17 fun en w1_18 =>
 ∃ t99 : Int, en = .returned (.int .i64 t99) ∧
 IfB (t99 == (2 : Int))
 (IfB (t56 == (3 : Int))
 (IfB (t60 == (0 : Int))
 (IfB (t63b == (1 : Int))
 (IfB (t68 == (1 : Int))
 (IfB (t72 == (1 : Int))
 (IfB (t74 == (0 : Int))
 (IfB (t76 == (0 : Int))
 (IfB (t79 == (20 : Int))
 (IfB (t82b == (20 : Int))
 (Calls prog 7 #[] w1_18 fun en w1_19 =>
 ∃ t143 : Bool, en = .returned (.bool t143) ∧
 Q (.bool t143) w1_19)
 (Q (.bool false) w1_18))
 (Q (.bool false) w1_18))
 (Q (.bool false) w1_18))
 (Q (.bool false) w1_18))
 (Q (.bool false) w1_18))
 (Q (.bool false) w1_18))
 (Q (.bool false) w1_18))
 (Q (.bool false) w1_18))
 (Q (.bool false) w1_18))
 (Q (.bool false) w1_18))
 (Q (.bool false) w1_17))
 (Q (.bool false) w1_16))
 (Q (.bool false) w1_16))))
def an6 : Ann := { cut := fun i => bif Nat.beq i 6 then some [(40, .bool)] else none, loop := fun i => bif Nat.beq i 9 then [(8, .slice), (9, .int .i64)] else [] }
theorem eq6 (w : World) (Q : Value → World → Prop) : F6  w Q = vc prog an6 (Try.f6.body.getD .skip) (envOf []) w (retK prog Try.f6 Q) := by kernel_rfl
theorem ok6 : codeOk Try.f6.ntmps (Try.f6.body.getD .skip) = true := by kernel_rfl
theorem W6 {w : World} {Q : Value → World → Prop} (h : F6  w Q) : Calls prog 6 #[] w fun en w' => ∃ v, en = .returned v ∧ Q v w' :=
  calls_of_vc good follows an6 (args := []) Try.func6 (by kernel_rfl) ok6 (of_decide_eq_true (by kernel_rfl)) (Eq.mp (eq6  w Q) h)

/-- bastion/bastionlaw04.awake -/
def F7 (w : World) (Q : Value → World → Prop) : Prop :=
 Calls prog 9 #[] w fun en w1 =>
 ∃ t5a : Option Addr, ∃ t5b : Option Addr, en = .returned (.tuple #[.pointer t5a, .pointer t5b]) ∧
 ∃ J : Bool → World → Prop, (∃ b9 : Bool, BinIs prog .eql 32 (.tmp 8) (.const (.pointer none)) (.pointer t5b) (.pointer none) b9 ∧
 IfB b9
 (J true w1)
 (Calls prog 8 #[.int .u8 97] w1 fun en w1_1 =>
 ∃ t12 : Sl, en = .returned (.slice t12.a t12.l t12.c) ∧
 ∃ t13 : Array Value, BuildIs prog 30 #[(0, .int .i64 200), (1, .slice t12.a t12.l t12.c)] t13 ∧
 Calls prog 8 #[.int .u8 98] w1_1 fun en w1_2 =>
 ∃ t14 : Sl, en = .returned (.slice t14.a t14.l t14.c) ∧
 ∃ t15 : Array Value, BuildIs prog 30 #[(0, .int .i64 300), (1, .slice t14.a t14.l t14.c)] t15 ∧
 RunT prog .slice (Instr.buildSlice 25 2 #[(0, .agg t13), (1, .agg t15)]) w1_2 fun (t16 : Sl) w1_3 =>
 Calls prog 10 #[.pointer t5b, .slice t16.a t16.l t16.c] w1_3 fun en w1_4 =>
 ∃ t17 : Int, en = .returned (.int .i64 t17) ∧
 IfB (t17 != (0 : Int))
 (J true w1_4)
 (Calls prog 22 #[.pointer t5a] w1_4 fun en w1_5 =>
 ∃ t22 : Int, en = .returned (.int .i64 t22) ∧
 IfB (decide (t22 > (6 : Int)))
 (J true w1_5)
 (Calls prog 15 #[.pointer t5b, .int .i64 200, .int .u8 97] w1_5 fun en w1_6 =>
 ∃ t27 : Bool, en = .returned (.bool t27) ∧
 IfB (!t27)
 (J true w1_6)
 (Calls prog 15 #[.pointer t5b, .int .i64 300, .int .u8 98] w1_6 fun en w1_7 =>
 ∃ t32 : Bool, en = .returned (.bool t32) ∧
 J (!t32) w1_7))))) ∧
 (∀ (u : Env) (x34 : Bool) (w1_1 : World), J x34 w1_1 →
 IfB x34
 (Q (.bool false) w1_1)
 (∃ J_1 : Bool → World → Prop, (Calls prog 8 #[.int .u8 97] w1_1 fun en w1_2 =>
 ∃ t36 : Sl, en = .returned (.slice t36.a t36.l t36.c) ∧
 ∃ t37 : Array Value, BuildIs prog 30 #[(0, .int .i64 5), (1, .slice t36.a t36.l t36.c)] t37 ∧
 RunT prog .slice (Instr.buildSlice 25 1 #[(0, .agg t37)]) w1_2 fun (t38 : Sl) w1_3 =>
 Calls prog 10 #[.pointer t5b, .slice t38.a t38.l t38.c] w1_3 fun en w1_4 =>
 ∃ t39 : Int, en = .returned (.int .i64 t39) ∧
 IfB (t39 != (1 : Int))
 (J_1 true w1_4)
 (Calls prog 8 #[.int .u8 97] w1_4 fun en w1_5 =>
 ∃ t43 : Sl, en = .returned (.slice t43.a t43.l t43.c) ∧
 ∃ t44 : Array Value, BuildIs prog 30 #[(0, .int .i64 0), (1, .slice t43.a t43.l t43.c)] t44 ∧
 Calls prog 8 #[.int .u8 98] w1_5 fun en w1_6 =>
 ∃ t45 : Sl, en = .returned (.slice t45.a t45.l t45.c) ∧
 ∃ t46 : Array Value, BuildIs prog 30 #[(0, .int .i64 0), (1, .slice t45.a t45.l t45.c)] t46 ∧
 RunT prog .slice (Instr.buildSlice 25 2 #[(0, .agg t44), (1, .agg t46)]) w1_6 fun (t47 : Sl) w1_7 =>
 Calls prog 10 #[.pointer t5b, .slice t47.a t47.l t47.c] w1_7 fun en w1_8 =>
 ∃ t48 : Int, en = .returned (.int .i64 t48) ∧
 IfB (t48 != (1 : Int))
 (J_1 true w1_8)
 (Calls prog 15 #[.pointer t5b, .int .i64 122, .int .u8 0] w1_8 fun en w1_9 =>
 ∃ t53 : Bool, en = .returned (.bool t53) ∧
 IfB (!t53)
 (J_1 true w1_9)
 (Calls prog 15 #[.pointer t5b, .int .i64 0, .int .u8 0] w1_9 fun en w1_10 =>
 ∃ t58 : Bool, en = .returned (.bool t58) ∧
 IfB (!t58)
 (J_1 true w1_10)
 (Calls prog 11 #[.pointer t5a, .int .i64 1] w1_10 fun en w1_11 =>
 ∃ t63 : Int, en = .returned (.int .i64 t63) ∧
 J_1 (t63 != (0 : Int)) w1_11))))) ∧
 (∀ (u_1 : Env) (x65 : Bool) (w1_2 : World), J_1 x65 w1_2 →
 IfB x65
 (Q (.bool false) w1_2)
 (Calls prog 8 #[.int .u8 98] w1_2 fun en w1_3 =>
 ∃ t67 : Sl, en = .returned (.slice t67.a t67.l t67.c) ∧
 ∃ t68 : Array Value, BuildIs prog 30 #[(0, .int .i64 200), (1, .slice t67.a t67.l t67.c)] t68 ∧
 Calls prog 8 #[.int .u8 97] w1_3 fun en w1_4 =>
 ∃ t69 : Sl, en = .returned (.slice t69.a t69.l t69.c) ∧
 ∃ t70 : Array Value, BuildIs prog 30 #[(0, .int .i64 300), (1, .slice t69.a t69.l t69.c)] t70 ∧
 RunT prog .slice (Instr.buildSlice 25 2 #[(0, .agg t68), (1, .agg t70)]) w1_4 fun (t71 : Sl) w1_5 =>
 Calls prog 10 #[.pointer t5b, .slice t71.a t71.l t71.c] w1_5 fun en w1_6 =>
 ∃ t72 : Int, en = .returned (.int .i64 t72) ∧
 IfB (t72 != (20 : Int))
 (Q (.bool false) w1_6)
 (Calls prog 13 #[.pointer t5a] w1_6 fun en w1_7 =>
 ∃ t76a : Option Addr, ∃ t76b : Int, en = .returned (.tuple #[.pointer t76a, .int .i64 t76b]) ∧
 IfB (t76b != (0 : Int))
 (Q (.bool false) w1_7)
 (Calls prog 14 #[.pointer t76a] w1_7 fun en w1_8 =>
 ∃ t83a : Option Addr, ∃ t83b : Int, en = .returned (.tuple #[.pointer t83a, .int .i64 t83b]) ∧
 IfB (t83b == (0 : Int))
 (Calls prog 15 #[.pointer t83a, .int .i64 200, .int .u8 97] w1_8 fun en w1_9 =>
 ∃ t90 : Bool, en = .returned (.bool t90) ∧
 IfB t90
 (Calls prog 15 #[.pointer t83a, .int .i64 300, .int .u8 98] w1_9 fun en w1_10 =>
 ∃ t94 : Bool, en = .returned (.bool t94) ∧
 Q (.bool t94) w1_10)
 (Q (.bool false) w1_9))
 (Q (.bool false) w1_8)))))))
def an7 : Ann := { cut := fun i => bif Nat.beq i 3 then some [(34, .bool)] else bif Nat.beq i 5 then some [(65, .bool)] else none, loop := fun i => [] }
theorem eq7 (w : World) (Q : Value → World → Prop) : F7  w Q = vc prog an7 (Try.f7.body.getD .skip) (envOf []) w (retK prog Try.f7 Q) := by kernel_rfl
theorem ok7 : codeOk Try.f7.ntmps (Try.f7.body.getD .skip) = true := by kernel_rfl
theorem W7 {w : World} {Q : Value → World → Prop} (h : F7  w Q) : Calls prog 7 #[] w fun en w' => ∃ v, en = .returned v ∧ Q v w' :=
  calls_of_vc good follows an7 (args := []) Try.func7 (by kernel_rfl) ok7 (of_decide_eq_true (by kernel_rfl)) (Eq.mp (eq7  w Q) h)

/-- bastion/bastionlaw04.full -/
def F8 (x0 : Int) (w : World) (Q : Value → World → Prop) : Prop :=
 RunT prog .slice (Instr.makeSlice 23 (.int .i64 256) (.int .i64 256)) w fun (t5 : Sl) w1 =>
 ∃ (I : Nat → Int → World → Prop) (n0 : Nat), I n0 (0 : Int) w1 ∧
 ∀ (n : Nat) (u : Env) (x4 : Int) (w1_1 : World), I n x4 w1_1 →
 IfB (decide (x4 < ((t5.l : Nat) : Int)))
 (∃ p15, t5.a = some p15 ∧ 0 ≤ x4 ∧ x4 < ((t5.l : Nat) : Int) ∧
 Wr w1_1 (p15.add ((x4).toNat * 1)) ∧ ∀ w1_2, w1_2 = w1_1.setCell (p15.add ((x4).toNat * 1)) (.int .u8 x0) →
 ∃ n', n' < n ∧ I n' (IntKind.wrap .i64 (x4 + (1 : Int))) w1_2)
 (Q (.slice t5.a t5.l t5.c) w1_1)
def an8 : Ann := { cut := fun i => none, loop := fun i => bif Nat.beq i 3 then [(4, .int .i64)] else [] }
theorem eq8 (x0 : Int) (w : World) (Q : Value → World → Prop) : F8 x0 w Q = vc prog an8 (Try.f8.body.getD .skip) (envOf [.int .u8 x0]) w (retK prog Try.f8 Q) := by kernel_rfl
theorem ok8 : codeOk Try.f8.ntmps (Try.f8.body.getD .skip) = true := by kernel_rfl
theorem W8 {x0 : Int} {w : World} {Q : Value → World → Prop} (h : F8 x0 w Q) : Calls prog 8 #[.int .u8 x0] w fun en w' => ∃ v, en = .returned v ∧ Q v w' :=
  calls_of_vc good follows an8 (args := [.int .u8 x0]) Try.func8 (by kernel_rfl) ok8 (of_decide_eq_true (by kernel_rfl)) (Eq.mp (eq8 x0 w Q) h)

/-- bastion/bastionlaw04.fresh -/
def F9 (w : World) (Q : Value → World → Prop) : Prop :=
 Calls prog 18 #[.int .i64 512] w fun en w1 =>
 ∃ t6a : Option Addr, ∃ t6b : Int, en = .returned (.tuple #[.pointer t6a, .int .i64 t6b]) ∧
 IfB (t6b != (0 : Int))
 (Q (.tuple #[.pointer none, .pointer none]) w1)
 (Calls prog 14 #[.pointer t6a] w1 fun en w1_1 =>
 ∃ t13a : Option Addr, ∃ t13b : Int, en = .returned (.tuple #[.pointer t13a, .int .i64 t13b]) ∧
 IfB (t13b != (0 : Int))
 (Q (.tuple #[.pointer none, .pointer none]) w1_1)
 (Q (.tuple #[.pointer t6a, .pointer t13a]) w1_1))
def an9 : Ann := { cut := fun i => none, loop := fun i => [] }
theorem eq9 (w : World) (Q : Value → World → Prop) : F9  w Q = vc prog an9 (Try.f9.body.getD .skip) (envOf []) w (retK prog Try.f9 Q) := by kernel_rfl
theorem ok9 : codeOk Try.f9.ntmps (Try.f9.body.getD .skip) = true := by kernel_rfl
theorem W9 {w : World} {Q : Value → World → Prop} (h : F9  w Q) : Calls prog 9 #[] w fun en w' => ∃ v, en = .returned v ∧ Q v w' :=
  calls_of_vc good follows an9 (args := []) Try.func9 (by kernel_rfl) ok9 (of_decide_eq_true (by kernel_rfl)) (Eq.mp (eq9  w Q) h)

/-- (*bastion/journal.Journal).Do -/
def F10 (x0 : Option Addr) (x1 : Sl) (w : World) (Q : Value → World → Prop) : Prop :=
 Calls prog 27 #[.pointer x0] w fun en w1 =>
 ∃ t14 : Int, en = .returned (.int .i64 t14) ∧
 IfB (t14 != (0 : Int))
 (Q (.int .i64 t14) w1)
 (IfB (decide (((x1.l : Nat) : Int) > (120 : Int)))
 (Q (.int .i64 3) w1)
 (RunT prog .val (Instr.makeMap 26 none) w1 fun (t21 : Value) w1_1 =>
 ∃ (I : Nat → Int → World → Prop) (n0 : Nat), I n0 (0 : Int) w1_1 ∧
 ∀ (n : Nat) (u : Env) (x24 : Int) (w1_2 : World), I n x24 w1_2 →
 IfB (decide (x24 < ((x1.l : Nat) : Int)))
 (∃ p26, x1.a = some p26 ∧ 0 ≤ x24 ∧ x24 < ((x1.l : Nat) : Int) ∧
 ∃ t27 : Array Value, LdA w1_2 (p26.add ((x24).toNat * 2)) 2 t27 ∧
 ∀ b8 w1_3, NewB w1_2 (.cells #[.int .i64 0, .slice none 0 0] 30) b8 w1_3 →
 t27.size = 2 ∧ (∀ u, u ∈ t27.toList → u.oneCell' = true) ∧ WrA w1_3 (⟨b8, 0, none⟩ : Addr) 2 ∧ ∀ w1_4, w1_4 = setAt w1_3 (⟨b8, 0, none⟩ : Addr) t27.toList 0 →
 ∃ t30 : Int, Ld w1_4 ((⟨b8, 0, none⟩ : Addr).add 0) (.int .i64 t30) ∧
 Calls prog 28 #[.pointer x0, .int .i64 t30] w1_4 fun en w1_5 =>
 ∃ t31 : Bool, en = .returned (.bool t31) ∧
 IfB (!t31)
 (Q (.int .i64 1) w1_5)
 (∃ t35 : Sl, Ld w1_5 ((⟨b8, 0, none⟩ : Addr).add 1) (.slice t35.a t35.l t35.c) ∧
 IfB (((t35.l : Nat) : Int) != (256 : Int))
 (Q (.int .i64 1) w1_5)
 (∃ t42 : Int, Ld w1_5 ((⟨b8, 0, none⟩ : Addr).add 0) (.int .i64 t42) ∧
 RunT prog .val (Instr.lookup 26 t21 (.int .i64 t42) false) w1_5 fun (v43 : Value) w1_6 =>
 ∃ t43 : Int, v43 = (.int .i64 t43) ∧
 IfB (decide (t43 > (0 : Int)))
 (Q (.int .i64 1) w1_6)
 (∃ t48 : Int, Ld w1_6 ((⟨b8, 0, none⟩ : Addr).add 0) (.int .i64 t48) ∧
 RunT prog .val (Instr.lookup 26 t21 (.int .i64 t48) false) w1_6 fun (v49 : Value) w1_7 =>
 ∃ t49 : Int, v49 = (.int .i64 t49) ∧
 RunU prog (Instr.mapUpdate 26 t21 (.int .i64 t48) (.int .i64 (IntKind.wrap .i64 (t49 + (1 : Int))))) w1_7 fun w1_8 =>
 ∃ n', n' < n ∧ I n' (IntKind.wrap .i64 (x24 + (1 : Int))) w1_8))))
 (IfB (((x1.l : Nat) : Int) == (0 : Int))
 (Q (.int .i64 0) w1_2)
 (∃ (I_1 : Nat → Int → World → Prop) (n0_1 : Nat), I_1 n0_1 (0 : Int) w1_2 ∧
 ∀ (n_1 : Nat) (u_1 : Env) (x57 : Int) (w1_3 : World), I_1 n_1 x57 w1_3 →
 IfB (decide (x57 < ((x1.l : Nat) : Int)))
 (∃ p60, x1.a = some p60 ∧ 0 ≤ x57 ∧ x57 < ((x1.l : Nat) : Int) ∧
 ∃ t61 : Array Value, LdA w1_3 (p60.add ((x57).toNat * 2)) 2 t61 ∧
 ∀ b10 w1_4, NewB w1_3 (.cells #[.int .i64 0, .slice none 0 0] 30) b10 w1_4 →
 t61.size = 2 ∧ (∀ u, u ∈ t61.toList → u.oneCell' = true) ∧ WrA w1_4 (⟨b10, 0, none⟩ : Addr) 2 ∧ ∀ w1_5, w1_5 = setAt w1_4 (⟨b10, 0, none⟩ : Addr) t61.toList 0 →
 ∃ S : World → Prop, S w1_5.drew ∧
 ∃ p63, x0 = some p63 ∧
 ∃ t65 : Option Addr, (∀ w', S w' → Ld w' (p63.add 0) (.pointer t65)) ∧
 ∃ t69 : Sl, (∀ w', S w' → Ld w' ((⟨b10, 0, none⟩ : Addr).add 1) (.slice t69.a t69.l t69.c)) ∧
 Calls prog 29 #[.pointer t65, .int .i64 (IntKind.wrap .i64 ((2 : Int) + x57)), .slice t69.a t69.l t69.c] w1_5.drew fun en w1_6 =>
 ∃ t70 : Int, en = .returned (.int .i64 t70) ∧
 IfB (t70 != (0 : Int))
 (Q (.int .i64 t70) w1_6)
 (∃ n', n' < n_1 ∧ I_1 n' (IntKind.wrap .i64 (x57 + (1 : Int))) w1_6))
 (∃ S : World → Prop, S w1_3.drew ∧
 ∃ p76, x0 = some p76 ∧
 ∃ t78 : Option Addr, (∀ w', S w' → Ld w' (p76.add 0) (.pointer t78)) ∧
 Calls prog 30 #[.slice x1.a x1.l x1.c] w1_3.drew fun en w1_4 =>
 ∃ t80 : Sl, en = .returned (.slice t80.a t80.l t80.c) ∧
 S w1_4 ∧
 Calls prog 29 #[.pointer t78, .int .i64 1, .slice t80.a t80.l t80.c] w1_4 fun en w1_5 =>
 ∃ t81 : Int, en = .returned (.int .i64 t81) ∧
 IfB (t81 != (0 : Int))
 (Q (.int .i64 t81) w1_5)
 (Calls prog 31 #[.pointer x0, .slice x1.a x1.l x1.c] w1_5 fun en w1_6 =>
 ∃ t87 : Int, en = .returned (.int .i64 t87) ∧
 Q (.int .i64 t87) w1_6))))))
def an10 : Ann := { cut := fun i => none, loop := fun i => bif Nat.beq i 8 then [(24, .int .i64)] else bif Nat.beq i 17 then [(57, .int .i64)] else [] }
theorem eq10 (x0 : Option Addr) (x1 : Sl) (w : World) (Q : Value → World → Prop) : F10 x0 x1 w Q = vc prog an10 (Try.f10.body.getD .skip) (envOf [.pointer x0, .slice x1.a x1.l x1.c]) w (retK prog Try.f10 Q) := by kernel_rfl
theorem ok10 : codeOk Try.f10.ntmps (Try.f10.body.getD .skip) = true := by kernel_rfl
theorem W10 {x0 : Option Addr} {x1 : Sl} {w : World} {Q : Value → World → Prop} (h : F10 x0 x1 w Q) : Calls prog 10 #[.pointer x0, .slice x1.a x1.l x1.c] w fun en w' => ∃ v, en = .returned v ∧ Q v w' :=
  calls_of_vc good follows an10 (args := [.pointer x0, .slice x1.a x1.l x1.c]) Try.func10 (by kernel_rfl) ok10 (of_decide_eq_true (by kernel_rfl)) (Eq.mp (eq10 x0 x1 w Q) h)

/-- (*bastion/disk.Disk).Cut -/
def F11 (x0 : Option Addr) (x1 : Int) (w : World) (Q : Value → World → Prop) : Prop :=
 Calls prog 32 #[.pointer x0] w fun en w1 =>
 ∃ t7 : Int, en = .returned (.int .i64 t7) ∧
 IfB (t7 != (0 : Int))
 (Q (.int .i64 t7) w1)
 (IfB (decide (x1 < (0 : Int)))
 (Q (.int .i64 1) w1)
 (∃ p15, x0 = some p15 ∧
 Wr w1 (p15.add 2) ∧ ∀ w1_1, w1_1 = w1.setCell (p15.add 2) (.int .i64 x1) →
 Q (.int .i64 0) w1_1))
def an11 : Ann := { cut := fun i => none, loop := fun i => [] }
theorem eq11 (x0 : Option Addr) (x1 : Int) (w : World) (Q : Value → World → Prop) : F11 x0 x1 w Q = vc prog an11 (Try.f11.body.getD .skip) (envOf [.pointer x0, .int .i64 x1]) w (retK prog Try.f11 Q) := by kernel_rfl
theorem ok11 : codeOk Try.f11.ntmps (Try.f11.body.getD .skip) = true := by kernel_rfl
theorem W11 {x0 : Option Addr} {x1 : Int} {w : World} {Q : Value → World → Prop} (h : F11 x0 x1 w Q) : Calls prog 11 #[.pointer x0, .int .i64 x1] w fun en w' => ∃ v, en = .returned v ∧ Q v w' :=
  calls_of_vc good follows an11 (args := [.pointer x0, .int .i64 x1]) Try.func11 (by kernel_rfl) ok11 (of_decide_eq_true (by kernel_rfl)) (Eq.mp (eq11 x0 x1 w Q) h)

/-- (*bastion/disk.Disk).Dead -/
def F12 (x0 : Option Addr) (w : World) (Q : Value → World → Prop) : Prop :=
 ∃ b4 : Bool, BinIs prog .neq 31 (.tmp 3) (.const (.pointer none)) (.pointer x0) (.pointer none) b4 ∧
 IfB b4
 (∃ p7, x0 = some p7 ∧
 ∃ t9 : Bool, Ld w (p7.add 3) (.bool t9) ∧
 Q (.bool t9) w)
 (Q (.bool false) w)
def an12 : Ann := { cut := fun i => none, loop := fun i => [] }
theorem eq12 (x0 : Option Addr) (w : World) (Q : Value → World → Prop) : F12 x0 w Q = vc prog an12 (Try.f12.body.getD .skip) (envOf [.pointer x0]) w (retK prog Try.f12 Q) := by kernel_rfl
theorem ok12 : codeOk Try.f12.ntmps (Try.f12.body.getD .skip) = true := by kernel_rfl
theorem W12 {x0 : Option Addr} {w : World} {Q : Value → World → Prop} (h : F12 x0 w Q) : Calls prog 12 #[.pointer x0] w fun en w' => ∃ v, en = .returned v ∧ Q v w' :=
  calls_of_vc good follows an12 (args := [.pointer x0]) Try.func12 (by kernel_rfl) ok12 (of_decide_eq_true (by kernel_rfl)) (Eq.mp (eq12 x0 w Q) h)

/-- (*bastion/disk.Disk).Reopen -/
def F13 (x0 : Option Addr) (w : World) (Q : Value → World → Prop) : Prop :=
 ∃ b6 : Bool, BinIs prog .eql 31 (.tmp 5) (.const (.pointer none)) (.pointer x0) (.pointer none) b6 ∧
 IfB b6
 (Q (.tuple #[.pointer none, .int .i64 2]) w)
 (∃ p9, x0 = some p9 ∧
 ∃ t11 : Bool, Ld w (p9.add 3) (.bool t11) ∧
 IfB (!t11)
 (Q (.tuple #[.pointer none, .int .i64 50]) w)
 (∃ p14, x0 = some p14 ∧
 ∃ t16 : Sl, Ld w (p14.add 0) (.slice t16.a t16.l t16.c) ∧
 Calls prog 33 #[.slice t16.a t16.l t16.c] w fun en w1 =>
 ∃ t17 : Sl, en = .returned (.slice t17.a t17.l t17.c) ∧
 ∃ t18 : Array Value, BuildIs prog 71 #[(0, .slice t17.a t17.l t17.c), (2, .int .i64 (-1))] t18 ∧
 ∀ b19 w1_1, NewB w1 (.cells t18 71) b19 w1_1 →
 Q (.tuple #[.pointer (some (⟨b19, 0, none⟩ : Addr)), .int .i64 0]) w1_1))
def an13 : Ann := { cut := fun i => none, loop := fun i => [] }
theorem eq13 (x0 : Option Addr) (w : World) (Q : Value → World → Prop) : F13 x0 w Q = vc prog an13 (Try.f13.body.getD .skip) (envOf [.pointer x0]) w (retK prog Try.f13 Q) := by kernel_rfl
theorem ok13 : codeOk Try.f13.ntmps (Try.f13.body.getD .skip) = true := by kernel_rfl
theorem W13 {x0 : Option Addr} {w : World} {Q : Value → World → Prop} (h : F13 x0 w Q) : Calls prog 13 #[.pointer x0] w fun en w' => ∃ v, en = .returned v ∧ Q v w' :=
  calls_of_vc good follows an13 (args := [.pointer x0]) Try.func13 (by kernel_rfl) ok13 (of_decide_eq_true (by kernel_rfl)) (Eq.mp (eq13 x0 w Q) h)

/-- bastion/journal.Open -/
def F14 (x0 : Option Addr) (w : World) (Q : Value → World → Prop) : Prop :=
 ∃ b8 : Bool, BinIs prog .eql 31 (.tmp 7) (.const (.pointer none)) (.pointer x0) (.pointer none) b8 ∧
 IfB b8
 (Q (.tuple #[.pointer none, .int .i64 2]) w)
 (∃ t10 : Array Value, BuildIs prog 67 #[(0, .pointer x0)] t10 ∧
 ∀ b11 w1, NewB w (.cells t10 67) b11 w1 →
 Calls prog 34 #[.pointer (some (⟨b11, 0, none⟩ : Addr))] w1 fun en w1_1 =>
 ∃ t14a : Sl, ∃ t14b : Int, en = .returned (.tuple #[.slice t14a.a t14a.l t14a.c, .int .i64 t14b]) ∧
 IfB (t14b == (0 : Int))
 (IfB (decide (((t14a.l : Nat) : Int) > (0 : Int)))
 (Calls prog 31 #[.pointer (some (⟨b11, 0, none⟩ : Addr)), .slice t14a.a t14a.l t14a.c] w1_1 fun en w1_2 =>
 ∃ t26 : Int, en = .returned (.int .i64 t26) ∧
 IfB (t26 != (0 : Int))
 (Q (.tuple #[.pointer none, .int .i64 t26]) w1_2)
 (Q (.tuple #[.pointer (some (⟨b11, 0, none⟩ : Addr)), .int .i64 0]) w1_2))
 (IfB (t14b != (0 : Int))
 (Q (.tuple #[.pointer none, .int .i64 t14b]) w1_1)
 (Q (.tuple #[.pointer (some (⟨b11, 0, none⟩ : Addr)), .int .i64 0]) w1_1)))
 (IfB (t14b != (0 : Int))
 (Q (.tuple #[.pointer none, .int .i64 t14b]) w1_1)
 (Q (.tuple #[.pointer (some (⟨b11, 0, none⟩ : Addr)), .int .i64 0]) w1_1)))
def an14 : Ann := { cut := fun i => none, loop := fun i => [] }
theorem eq14 (x0 : Option Addr) (w : World) (Q : Value → World → Prop) : F14 x0 w Q = vc prog an14 (Try.f14.body.getD .skip) (envOf [.pointer x0]) w (retK prog Try.f14 Q) := by kernel_rfl
theorem ok14 : codeOk Try.f14.ntmps (Try.f14.body.getD .skip) = true := by kernel_rfl
theorem W14 {x0 : Option Addr} {w : World} {Q : Value → World → Prop} (h : F14 x0 w Q) : Calls prog 14 #[.pointer x0] w fun en w' => ∃ v, en = .returned v ∧ Q v w' :=
  calls_of_vc good follows an14 (args := [.pointer x0]) Try.func14 (by kernel_rfl) ok14 (of_decide_eq_true (by kernel_rfl)) (Eq.mp (eq14 x0 w Q) h)

/-- bastion/bastionlaw04.holds -/
def F15 (x0 : Option Addr) (x1 : Int) (x2 : Int) (w : World) (Q : Value → World → Prop) : Prop :=
 Calls prog 17 #[.pointer x0, .int .i64 x1] w fun en w1 =>
 ∃ t12a : Sl, ∃ t12b : Int, en = .returned (.tuple #[.slice t12a.a t12a.l t12a.c, .int .i64 t12b]) ∧
 IfB (t12b == (0 : Int))
 ((RunT prog .str (convert 23 9 (.slice t12a.a t12a.l t12a.c)) w1.drew fun (t19 : ByteArray) w1_1 =>
 Calls prog 8 #[.int .u8 x2] w1_1 fun en w1_2 =>
 ∃ t21 : Sl, en = .returned (.slice t21.a t21.l t21.c) ∧
 RunT prog .str (convert 23 9 (.slice t21.a t21.l t21.c)) w1_2 fun (t22 : ByteArray) w1_3 =>
 Q (.bool (t19.toList == t22.toList)) w1_3) ∧
 (Calls prog 8 #[.int .u8 x2] w1.drew fun en w1_1 =>
 ∃ t21 : Sl, en = .returned (.slice t21.a t21.l t21.c) ∧
 (RunT prog .str (convert 23 9 (.slice t12a.a t12a.l t12a.c)) w1_1 fun (t19 : ByteArray) w1_2 =>
 RunT prog .str (convert 23 9 (.slice t21.a t21.l t21.c)) w1_2 fun (t22 : ByteArray) w1_3 =>
 Q (.bool (t19.toList == t22.toList)) w1_3) ∧
 (RunT prog .str (convert 23 9 (.slice t21.a t21.l t21.c)) w1_1 fun (t22 : ByteArray) w1_2 =>
 RunT prog .str (convert 23 9 (.slice t12a.a t12a.l t12a.c)) w1_2 fun (t19 : ByteArray) w1_3 =>
 Q (.bool (t19.toList == t22.toList)) w1_3)))
 ((Q (.bool false) w1.drew) ∧
 ((Q (.bool false) w1.drew) ∧
 (Q (.bool false) w1.drew)))
def an15 : Ann := { cut := fun i => none, loop := fun i => [] }
theorem eq15 (x0 : Option Addr) (x1 : Int) (x2 : Int) (w : World) (Q : Value → World → Prop) : F15 x0 x1 x2 w Q = vc prog an15 (Try.f15.body.getD .skip) (envOf [.pointer x0, .int .i64 x1, .int .u8 x2]) w (retK prog Try.f15 Q) := by kernel_rfl
theorem ok15 : codeOk Try.f15.ntmps (Try.f15.body.getD .skip) = true := by kernel_rfl
theorem W15 {x0 : Option Addr} {x1 : Int} {x2 : Int} {w : World} {Q : Value → World → Prop} (h : F15 x0 x1 x2 w Q) : Calls prog 15 #[.pointer x0, .int .i64 x1, .int .u8 x2] w fun en w' => ∃ v, en = .returned v ∧ Q v w' :=
  calls_of_vc good follows an15 (args := [.pointer x0, .int .i64 x1, .int .u8 x2]) Try.func15 (by kernel_rfl) ok15 (of_decide_eq_true (by kernel_rfl)) (Eq.mp (eq15 x0 x1 x2 w Q) h)

/-- (*bastion/disk.Disk).Copy -/
def F16 (x0 : Option Addr) (w : World) (Q : Value → World → Prop) : Prop :=
 ∃ b5 : Bool, BinIs prog .eql 31 (.tmp 4) (.const (.pointer none)) (.pointer x0) (.pointer none) b5 ∧
 IfB b5
 (Q (.pointer none) w)
 (∃ p7, x0 = some p7 ∧
 ∃ t8 : Array Value, LdA w p7 4 t8 ∧
 ∀ b3 w1, NewB w (.cells #[.slice none 0 0, .int .i64 0, .int .i64 0, .bool false] 71) b3 w1 →
 t8.size = 4 ∧ (∀ u, u ∈ t8.toList → u.oneCell' = true) ∧ WrA w1 (⟨b3, 0, none⟩ : Addr) 4 ∧ ∀ w1_1, w1_1 = setAt w1 (⟨b3, 0, none⟩ : Addr) t8.toList 0 →
 ∃ p10, x0 = some p10 ∧
 ∃ t12 : Sl, Ld w1_1 (p10.add 0) (.slice t12.a t12.l t12.c) ∧
 Calls prog 33 #[.slice t12.a t12.l t12.c] w1_1 fun en w1_2 =>
 ∃ t13 : Sl, en = .returned (.slice t13.a t13.l t13.c) ∧
 Wr w1_2 ((⟨b3, 0, none⟩ : Addr).add 0) ∧ ∀ w1_3, w1_3 = w1_2.setCell ((⟨b3, 0, none⟩ : Addr).add 0) (.slice t13.a t13.l t13.c) →
 Q (.pointer (some (⟨b3, 0, none⟩ : Addr))) w1_3)
def an16 : Ann := { cut := fun i => none, loop := fun i => [] }
theorem eq16 (x0 : Option Addr) (w : World) (Q : Value → World → Prop) : F16 x0 w Q = vc prog an16 (Try.f16.body.getD .skip) (envOf [.pointer x0]) w (retK prog Try.f16 Q) := by kernel_rfl
theorem ok16 : codeOk Try.f16.ntmps (Try.f16.body.getD .skip) = true := by kernel_rfl
theorem W16 {x0 : Option Addr} {w : World} {Q : Value → World → Prop} (h : F16 x0 w Q) : Calls prog 16 #[.pointer x0] w fun en w' => ∃ v, en = .returned v ∧ Q v w' :=
  calls_of_vc good follows an16 (args := [.pointer x0]) Try.func16 (by kernel_rfl) ok16 (of_decide_eq_true (by kernel_rfl)) (Eq.mp (eq16 x0 w Q) h)

/-- (*bastion/journal.Journal).Read -/
def F17 (x0 : Option Addr) (x1 : Int) (w : World) (Q : Value → World → Prop) : Prop :=
 Calls prog 27 #[.pointer x0] w fun en w1 =>
 ∃ t8 : Int, en = .returned (.int .i64 t8) ∧
 IfB (t8 != (0 : Int))
 (Q (.tuple #[.slice none 0 0, .int .i64 t8]) w1)
 (Calls prog 28 #[.pointer x0, .int .i64 x1] w1 fun en w1_1 =>
 ∃ t14 : Bool, en = .returned (.bool t14) ∧
 IfB (!t14)
 (Q (.tuple #[.slice none 0 0, .int .i64 1]) w1_1)
 (∃ p17, x0 = some p17 ∧
 ∃ t19 : Option Addr, Ld w1_1 (p17.add 0) (.pointer t19) ∧
 Calls prog 35 #[.pointer t19, .int .i64 x1] w1_1 fun en w1_2 =>
 ∃ t21a : Sl, ∃ t21b : Int, en = .returned (.tuple #[.slice t21a.a t21a.l t21a.c, .int .i64 t21b]) ∧
 Q (.tuple #[.slice t21a.a t21a.l t21a.c, .int .i64 t21b]) w1_2))
def an17 : Ann := { cut := fun i => none, loop := fun i => [] }
theorem eq17 (x0 : Option Addr) (x1 : Int) (w : World) (Q : Value → World → Prop) : F17 x0 x1 w Q = vc prog an17 (Try.f17.body.getD .skip) (envOf [.pointer x0, .int .i64 x1]) w (retK prog Try.f17 Q) := by kernel_rfl
theorem ok17 : codeOk Try.f17.ntmps (Try.f17.body.getD .skip) = true := by kernel_rfl
theorem W17 {x0 : Option Addr} {x1 : Int} {w : World} {Q : Value → World → Prop} (h : F17 x0 x1 w Q) : Calls prog 17 #[.pointer x0, .int .i64 x1] w fun en w' => ∃ v, en = .returned v ∧ Q v w' :=
  calls_of_vc good follows an17 (args := [.pointer x0, .int .i64 x1]) Try.func17 (by kernel_rfl) ok17 (of_decide_eq_true (by kernel_rfl)) (Eq.mp (eq17 x0 x1 w Q) h)

/-- bastion/disk.New -/
def F18 (x0 : Int) (w : World) (Q : Value → World → Prop) : Prop :=
 IfB (decide (x0 < (512 : Int)))
 (Q (.tuple #[.pointer none, .int .i64 1]) w)
 (IfB (decide (x0 > (32768 : Int)))
 (Q (.tuple #[.pointer none, .int .i64 1]) w)
 (RunT prog .slice (Instr.makeSlice 69 (.int .i64 x0) (.int .i64 x0)) w fun (t11 : Sl) w1 =>
 ∃ t12 : Array Value, BuildIs prog 71 #[(0, .slice t11.a t11.l t11.c), (2, .int .i64 (-1))] t12 ∧
 ∀ b13 w1_1, NewB w1 (.cells t12 71) b13 w1_1 →
 Q (.tuple #[.pointer (some (⟨b13, 0, none⟩ : Addr)), .int .i64 0]) w1_1))
def an18 : Ann := { cut := fun i => none, loop := fun i => [] }
theorem eq18 (x0 : Int) (w : World) (Q : Value → World → Prop) : F18 x0 w Q = vc prog an18 (Try.f18.body.getD .skip) (envOf [.int .i64 x0]) w (retK prog Try.f18 Q) := by kernel_rfl
theorem ok18 : codeOk Try.f18.ntmps (Try.f18.body.getD .skip) = true := by kernel_rfl
theorem W18 {x0 : Int} {w : World} {Q : Value → World → Prop} (h : F18 x0 w Q) : Calls prog 18 #[.int .i64 x0] w fun en w' => ∃ v, en = .returned v ∧ Q v w' :=
  calls_of_vc good follows an18 (args := [.int .i64 x0]) Try.func18 (by kernel_rfl) ok18 (of_decide_eq_true (by kernel_rfl)) (Eq.mp (eq18 x0 w Q) h)

/-- (*bastion/journal.Journal).Disk -/
def F19 (x0 : Option Addr) (w : World) (Q : Value → World → Prop) : Prop :=
 ∃ b4 : Bool, BinIs prog .eql 32 (.tmp 3) (.const (.pointer none)) (.pointer x0) (.pointer none) b4 ∧
 IfB b4
 (Q (.pointer none) w)
 (∃ p6, x0 = some p6 ∧
 ∃ t8 : Option Addr, Ld w (p6.add 0) (.pointer t8) ∧
 Q (.pointer t8) w)
def an19 : Ann := { cut := fun i => none, loop := fun i => [] }
theorem eq19 (x0 : Option Addr) (w : World) (Q : Value → World → Prop) : F19 x0 w Q = vc prog an19 (Try.f19.body.getD .skip) (envOf [.pointer x0]) w (retK prog Try.f19 Q) := by kernel_rfl
theorem ok19 : codeOk Try.f19.ntmps (Try.f19.body.getD .skip) = true := by kernel_rfl
theorem W19 {x0 : Option Addr} {w : World} {Q : Value → World → Prop} (h : F19 x0 w Q) : Calls prog 19 #[.pointer x0] w fun en w' => ∃ v, en = .returned v ∧ Q v w' :=
  calls_of_vc good follows an19 (args := [.pointer x0]) Try.func19 (by kernel_rfl) ok19 (of_decide_eq_true (by kernel_rfl)) (Eq.mp (eq19 x0 w Q) h)

/-- bastion/bastionref04.New -/
def F20 (x0 : Int) (w : World) (Q : Value → World → Prop) : Prop :=
 RunT prog .val (Instr.makeMap 77 none) w fun (t4 : Value) w1 =>
 ∃ t5 : Array Value, BuildIs prog 79 #[(0, .int .i64 x0), (1, t4)] t5 ∧
 ∀ b6 w1_1, NewB w1 (.cells t5 79) b6 w1_1 →
 Q (.pointer (some (⟨b6, 0, none⟩ : Addr))) w1_1
def an20 : Ann := { cut := fun i => none, loop := fun i => [] }
theorem eq20 (x0 : Int) (w : World) (Q : Value → World → Prop) : F20 x0 w Q = vc prog an20 (Try.f20.body.getD .skip) (envOf [.int .i64 x0]) w (retK prog Try.f20 Q) := by kernel_rfl
theorem ok20 : codeOk Try.f20.ntmps (Try.f20.body.getD .skip) = true := by kernel_rfl
theorem W20 {x0 : Int} {w : World} {Q : Value → World → Prop} (h : F20 x0 w Q) : Calls prog 20 #[.int .i64 x0] w fun en w' => ∃ v, en = .returned v ∧ Q v w' :=
  calls_of_vc good follows an20 (args := [.int .i64 x0]) Try.func20 (by kernel_rfl) ok20 (of_decide_eq_true (by kernel_rfl)) (Eq.mp (eq20 x0 w Q) h)

/-- (bastion/bastionlaw04.Op).group -/
def F21 (x0 : Array Value) (w : World) (Q : Value → World → Prop) : Prop :=
 ∀ b1 w1, NewB w (.cells x0 51) b1 w1 →
 ∃ (I : Nat → Sl → Sl → Int → World → Prop) (n0 : Nat), I n0 (⟨none, 0, 0⟩ : Sl) (⟨none, 0, 0⟩ : Sl) (0 : Int) w1 ∧
 ∀ (n : Nat) (u : Env) (x4 : Sl) (x5 : Sl) (x6 : Int) (w1_1 : World), I n x4 x5 x6 w1_1 →
 ∃ t10 : Sl, Ld w1_1 ((⟨b1, 0, none⟩ : Addr).add 1) (.slice t10.a t10.l t10.c) ∧
 IfB (decide (x6 < ((t10.l : Nat) : Int)))
 (∃ t16 : Int, Ld w1_1 ((⟨b1, 0, none⟩ : Addr).add 2) (.int .u8 t16) ∧
 Calls prog 8 #[.int .u8 (IntKind.wrap .u8 (t16 + (IntKind.wrap .u8 x6)))] w1_1 fun en w1_2 =>
 ∃ t20 : Sl, en = .returned (.slice t20.a t20.l t20.c) ∧
 ∃ J : Sl → World → Prop, (∃ J_1 : Bool → World → Prop, (∃ t22 : Bool, Ld w1_2 ((⟨b1, 0, none⟩ : Addr).add 3) (.bool t22) ∧
 IfB t22
 (∃ t26 : Sl, Ld w1_2 ((⟨b1, 0, none⟩ : Addr).add 1) (.slice t26.a t26.l t26.c) ∧
 J_1 (x6 == IntKind.wrap .i64 (((t26.l : Nat) : Int) - (1 : Int))) w1_2)
 (J_1 false w1_2)) ∧
 (∀ (u_1 : Env) (x30 : Bool) (w1_3 : World), J_1 x30 w1_3 →
 IfB x30
 ((0 ≤ (255 : Int) ∧ (255 : Int) ≤ ((t20.c : Nat) : Int)) ∧
 J (⟨slA t20.a 0 t20.c 1, 255 - 0, t20.c - 0⟩ : Sl) w1_3)
 (J t20 w1_3))) ∧
 (∀ (u_1 : Env) (x7 : Sl) (w1_3 : World), J x7 w1_3 →
 ∃ t35 : Sl, Ld w1_3 ((⟨b1, 0, none⟩ : Addr).add 1) (.slice t35.a t35.l t35.c) ∧
 ∃ p37, t35.a = some p37 ∧ 0 ≤ x6 ∧ x6 < ((t35.l : Nat) : Int) ∧
 ∃ t38 : Int, Ld w1_3 (p37.add ((x6).toNat * 1)) (.int .i64 t38) ∧
 ∃ t40 : Array Value, BuildIs prog 30 #[(0, .int .i64 t38), (1, .slice x7.a x7.l x7.c)] t40 ∧
 RunT prog .slice (Instr.buildSlice 25 1 #[(0, .agg t40)]) w1_3 fun (t41 : Sl) w1_4 =>
 RunT prog .slice (Builtin.append_ #[25, 25] 25 #[.slice x4.a x4.l x4.c, .slice t41.a t41.l t41.c]) w1_4 fun (t42 : Sl) w1_5 =>
 ∃ S : World → Prop, S w1_5.drew ∧
 ∃ t45 : Sl, (∀ w', S w' → Ld w' ((⟨b1, 0, none⟩ : Addr).add 1) (.slice t45.a t45.l t45.c)) ∧
 ∃ p47, t45.a = some p47 ∧ 0 ≤ x6 ∧ x6 < ((t45.l : Nat) : Int) ∧
 ∃ t48 : Int, (∀ w', S w' → Ld w' (p47.add ((x6).toNat * 1)) (.int .i64 t48)) ∧
 RunT prog .slice (Instr.buildSlice 23 0 #[]) w1_5.drew fun (t49 : Sl) w1_6 =>
 S w1_6 ∧
 RunT prog .slice (Builtin.append_ #[23, 23] 23 #[.slice t49.a t49.l t49.c, .slice x7.a x7.l x7.c]) w1_6 fun (t51 : Sl) w1_7 =>
 S w1_7 ∧
 ∃ t52 : Array Value, BuildIs prog 58 #[(0, .int .i64 t48), (1, .slice t51.a t51.l t51.c)] t52 ∧
 RunT prog .slice (Instr.buildSlice 54 1 #[(0, .agg t52)]) w1_7 fun (t53 : Sl) w1_8 =>
 RunT prog .slice (Builtin.append_ #[54, 54] 54 #[.slice x5.a x5.l x5.c, .slice t53.a t53.l t53.c]) w1_8 fun (t54 : Sl) w1_9 =>
 ∃ n', n' < n ∧ I n' t42 t54 (IntKind.wrap .i64 (x6 + (1 : Int))) w1_9))
 (Q (.tuple #[.slice x4.a x4.l x4.c, .slice x5.a x5.l x5.c]) w1_1)
def an21 : Ann := { cut := fun i => bif Nat.beq i 8 then some [(30, .bool)] else bif Nat.beq i 9 then some [(7, .slice)] else none, loop := fun i => bif Nat.beq i 4 then [(4, .slice), (5, .slice), (6, .int .i64)] else [] }
theorem eq21 (x0 : Array Value) (w : World) (Q : Value → World → Prop) : F21 x0 w Q = vc prog an21 (Try.f21.body.getD .skip) (envOf [.agg x0]) w (retK prog Try.f21 Q) := by kernel_rfl
theorem ok21 : codeOk Try.f21.ntmps (Try.f21.body.getD .skip) = true := by kernel_rfl
theorem W21 {x0 : Array Value} {w : World} {Q : Value → World → Prop} (h : F21 x0 w Q) : Calls prog 21 #[.agg x0] w fun en w' => ∃ v, en = .returned v ∧ Q v w' :=
  calls_of_vc good follows an21 (args := [.agg x0]) Try.func21 (by kernel_rfl) ok21 (of_decide_eq_true (by kernel_rfl)) (Eq.mp (eq21 x0 w Q) h)

/-- (*bastion/disk.Disk).Writes -/
def F22 (x0 : Option Addr) (w : World) (Q : Value → World → Prop) : Prop :=
 ∃ b4 : Bool, BinIs prog .eql 31 (.tmp 3) (.const (.pointer none)) (.pointer x0) (.pointer none) b4 ∧
 IfB b4
 (Q (.int .i64 0) w)
 (∃ p6, x0 = some p6 ∧
 ∃ t8 : Int, Ld w (p6.add 1) (.int .i64 t8) ∧
 Q (.int .i64 t8) w)
def an22 : Ann := { cut := fun i => none, loop := fun i => [] }
theorem eq22 (x0 : Option Addr) (w : World) (Q : Value → World → Prop) : F22 x0 w Q = vc prog an22 (Try.f22.body.getD .skip) (envOf [.pointer x0]) w (retK prog Try.f22 Q) := by kernel_rfl
theorem ok22 : codeOk Try.f22.ntmps (Try.f22.body.getD .skip) = true := by kernel_rfl
theorem W22 {x0 : Option Addr} {w : World} {Q : Value → World → Prop} (h : F22 x0 w Q) : Calls prog 22 #[.pointer x0] w fun en w' => ∃ v, en = .returned v ∧ Q v w' :=
  calls_of_vc good follows an22 (args := [.pointer x0]) Try.func22 (by kernel_rfl) ok22 (of_decide_eq_true (by kernel_rfl)) (Eq.mp (eq22 x0 w Q) h)

/-- (*bastion/bastionref04.Blocks).Check -/
def F23 (x0 : Option Addr) (x1 : Sl) (w : World) (Q : Value → World → Prop) : Prop :=
 IfB (decide (((x1.l : Nat) : Int) > (120 : Int)))
 (Q (.int .i64 3) w)
 (∃ (I : Nat → Int → World → Prop) (n0 : Nat), I n0 (0 : Int) w ∧
 ∀ (n : Nat) (u : Env) (x5 : Int) (w1 : World), I n x5 w1 →
 IfB (decide (x5 < ((x1.l : Nat) : Int)))
 (∃ J : Bool → World → Prop, (∃ p19, x1.a = some p19 ∧ 0 ≤ x5 ∧ x5 < ((x1.l : Nat) : Int) ∧
 ∃ t21 : Int, Ld w1 ((p19.add ((x5).toNat * 2)).add 0) (.int .i64 t21) ∧
 Calls prog 36 #[.pointer x0, .int .i64 t21] w1 fun en w1_1 =>
 ∃ t22 : Bool, en = .returned (.bool t22) ∧
 IfB (!t22)
 (J true w1_1)
 (∃ p27, x1.a = some p27 ∧ 0 ≤ x5 ∧ x5 < ((x1.l : Nat) : Int) ∧
 ∃ t29 : Sl, Ld w1_1 ((p27.add ((x5).toNat * 2)).add 1) (.slice t29.a t29.l t29.c) ∧
 J (((t29.l : Nat) : Int) != (256 : Int)) w1_1)) ∧
 (∀ (u_1 : Env) (x32 : Bool) (w1_1 : World), J x32 w1_1 →
 IfB x32
 (Q (.int .i64 1) w1_1)
 (∃ (I_1 : Nat → Int → World → Prop) (n0_1 : Nat), I_1 n0_1 (0 : Int) w1_1 ∧
 ∀ (n_1 : Nat) (u_2 : Env) (x6 : Int) (w1_2 : World), I_1 n_1 x6 w1_2 →
 IfB (decide (x6 < x5))
 (∃ p40, x1.a = some p40 ∧ 0 ≤ x6 ∧ x6 < ((x1.l : Nat) : Int) ∧
 ∃ t42 : Int, Ld w1_2.drew ((p40.add ((x6).toNat * 2)).add 0) (.int .i64 t42) ∧
 ∃ p45, x1.a = some p45 ∧ 0 ≤ x5 ∧ x5 < ((x1.l : Nat) : Int) ∧
 ∃ t47 : Int, Ld w1_2.drew ((p45.add ((x5).toNat * 2)).add 0) (.int .i64 t47) ∧
 IfB (t42 == t47)
 (Q (.int .i64 1) w1_2.drew)
 (∃ n', n' < n_1 ∧ I_1 n' (IntKind.wrap .i64 (x6 + (1 : Int))) w1_2.drew))
 (∃ n', n' < n ∧ I n' (IntKind.wrap .i64 (x5 + (1 : Int))) w1_2))))
 (Q (.int .i64 0) w1))
def an23 : Ann := { cut := fun i => bif Nat.beq i 7 then some [(32, .bool)] else none, loop := fun i => bif Nat.beq i 4 then [(5, .int .i64)] else bif Nat.beq i 9 then [(6, .int .i64)] else [] }
theorem eq23 (x0 : Option Addr) (x1 : Sl) (w : World) (Q : Value → World → Prop) : F23 x0 x1 w Q = vc prog an23 (Try.f23.body.getD .skip) (envOf [.pointer x0, .slice x1.a x1.l x1.c]) w (retK prog Try.f23 Q) := by kernel_rfl
theorem ok23 : codeOk Try.f23.ntmps (Try.f23.body.getD .skip) = true := by kernel_rfl
theorem W23 {x0 : Option Addr} {x1 : Sl} {w : World} {Q : Value → World → Prop} (h : F23 x0 x1 w Q) : Calls prog 23 #[.pointer x0, .slice x1.a x1.l x1.c] w fun en w' => ∃ v, en = .returned v ∧ Q v w' :=
  calls_of_vc good follows an23 (args := [.pointer x0, .slice x1.a x1.l x1.c]) Try.func23 (by kernel_rfl) ok23 (of_decide_eq_true (by kernel_rfl)) (Eq.mp (eq23 x0 x1 w Q) h)

/-- (*bastion/bastionref04.Blocks).Behind -/
def F24 (x0 : Option Addr) (x1 : Sl) (w : World) (Q : Value → World → Prop) : Prop :=
 ∃ p10, x0 = some p10 ∧
 ∃ t12 : Int, Ld w (p10.add 0) (.int .i64 t12) ∧
 Calls prog 20 #[.int .i64 t12] w fun en w1 =>
 ∃ t13 : Option Addr, en = .returned (.pointer t13) ∧
 ∃ p15, x0 = some p15 ∧
 ∃ t17 : Value, Ld w1 (p15.add 1) (t17) ∧
 RunT prog .val (Instr.range 77 t17) w1 fun (t18 : Value) w1_1 =>
 ∃ (I : Nat → World → Prop) (n0 : Nat), I n0  w1_1 ∧
 ∀ (n : Nat) (u : Env) (w1_2 : World), I n  w1_2 →
 RunT prog .val (Instr.next t18 false 0) w1_2 fun (v19 : Value) w1_3 =>
 (v19 = (.tuple #[.bool false]) ∧
 ∃ (I_1 : Nat → Int → World → Prop) (n0_1 : Nat), I_1 n0_1 (0 : Int) w1_3 ∧
 ∀ (n_1 : Nat) (u_1 : Env) (x8 : Int) (w1_4 : World), I_1 n_1 x8 w1_4 →
 IfB (decide (x8 < ((x1.l : Nat) : Int)))
 (∃ S : World → Prop, S w1_4.drew ∧
 ∃ p37, t13 = some p37 ∧
 ∃ t39 : Value, (∀ w', S w' → Ld w' (p37.add 1) (t39)) ∧
 ∃ p42, x1.a = some p42 ∧ 0 ≤ x8 ∧ x8 < ((x1.l : Nat) : Int) ∧
 ∃ t44 : Int, (∀ w', S w' → Ld w' ((p42.add ((x8).toNat * 2)).add 0) (.int .i64 t44)) ∧
 ∃ p47, x1.a = some p47 ∧ 0 ≤ x8 ∧ x8 < ((x1.l : Nat) : Int) ∧
 ∃ t49 : Sl, (∀ w', S w' → Ld w' ((p47.add ((x8).toNat * 2)).add 1) (.slice t49.a t49.l t49.c)) ∧
 RunT prog .str (convert 23 9 (.slice t49.a t49.l t49.c)) w1_4.drew fun (t50 : ByteArray) w1_5 =>
 S w1_5 ∧
 RunU prog (Instr.mapUpdate 77 t39 (.int .i64 t44) (.string t50)) w1_5 fun w1_6 =>
 ∃ n', n' < n_1 ∧ I_1 n' (IntKind.wrap .i64 (x8 + (1 : Int))) w1_6)
 (Q (.pointer t13) w1_4)) ∨
 (∃ k19 y19 : Value, v19 = (.tuple #[.bool true, k19, y19]) ∧
 RunT prog .val (Instr.entry t18) w1_3 fun (v21 : Value) w1_4 =>
 ∃ k21 y21 : Value, v21 = (.tuple #[k21, y21]) ∧
 ∃ p25, t13 = some p25 ∧
 ∃ t27 : Value, Ld w1_4 (p25.add 1) (t27) ∧
 RunU prog (Instr.mapUpdate 77 t27 k21 y21) w1_4 fun w1_5 =>
 ∃ n', n' < n ∧ I n'  w1_5)
def an24 : Ann := { cut := fun i => none, loop := fun i => bif Nat.beq i 3 then [] else bif Nat.beq i 7 then [(8, .int .i64)] else [] }
theorem eq24 (x0 : Option Addr) (x1 : Sl) (w : World) (Q : Value → World → Prop) : F24 x0 x1 w Q = vc prog an24 (Try.f24.body.getD .skip) (envOf [.pointer x0, .slice x1.a x1.l x1.c]) w (retK prog Try.f24 Q) := by kernel_rfl
theorem ok24 : codeOk Try.f24.ntmps (Try.f24.body.getD .skip) = true := by kernel_rfl
theorem W24 {x0 : Option Addr} {x1 : Sl} {w : World} {Q : Value → World → Prop} (h : F24 x0 x1 w Q) : Calls prog 24 #[.pointer x0, .slice x1.a x1.l x1.c] w fun en w' => ∃ v, en = .returned v ∧ Q v w' :=
  calls_of_vc good follows an24 (args := [.pointer x0, .slice x1.a x1.l x1.c]) Try.func24 (by kernel_rfl) ok24 (of_decide_eq_true (by kernel_rfl)) (Eq.mp (eq24 x0 x1 w Q) h)

/-- (*bastion/journal.Journal).Raw -/
def F25 (x0 : Option Addr) (x1 : Int) (x2 : Sl) (w : World) (Q : Value → World → Prop) : Prop :=
 Calls prog 27 #[.pointer x0] w fun en w1 =>
 ∃ t9 : Int, en = .returned (.int .i64 t9) ∧
 IfB (t9 != (0 : Int))
 (Q (.int .i64 t9) w1)
 (Calls prog 28 #[.pointer x0, .int .i64 x1] w1 fun en w1_1 =>
 ∃ t15 : Bool, en = .returned (.bool t15) ∧
 IfB (!t15)
 (Q (.int .i64 1) w1_1)
 (IfB (((x2.l : Nat) : Int) != (256 : Int))
 (Q (.int .i64 1) w1_1)
 (∃ p23, x0 = some p23 ∧
 ∃ t25 : Option Addr, Ld w1_1 (p23.add 0) (.pointer t25) ∧
 Calls prog 29 #[.pointer t25, .int .i64 x1, .slice x2.a x2.l x2.c] w1_1 fun en w1_2 =>
 ∃ t28 : Int, en = .returned (.int .i64 t28) ∧
 Q (.int .i64 t28) w1_2)))
def an25 : Ann := { cut := fun i => none, loop := fun i => [] }
theorem eq25 (x0 : Option Addr) (x1 : Int) (x2 : Sl) (w : World) (Q : Value → World → Prop) : F25 x0 x1 x2 w Q = vc prog an25 (Try.f25.body.getD .skip) (envOf [.pointer x0, .int .i64 x1, .slice x2.a x2.l x2.c]) w (retK prog Try.f25 Q) := by kernel_rfl
theorem ok25 : codeOk Try.f25.ntmps (Try.f25.body.getD .skip) = true := by kernel_rfl
theorem W25 {x0 : Option Addr} {x1 : Int} {x2 : Sl} {w : World} {Q : Value → World → Prop} (h : F25 x0 x1 x2 w Q) : Calls prog 25 #[.pointer x0, .int .i64 x1, .slice x2.a x2.l x2.c] w fun en w' => ∃ v, en = .returned v ∧ Q v w' :=
  calls_of_vc good follows an25 (args := [.pointer x0, .int .i64 x1, .slice x2.a x2.l x2.c]) Try.func25 (by kernel_rfl) ok25 (of_decide_eq_true (by kernel_rfl)) (Eq.mp (eq25 x0 x1 x2 w Q) h)

/-- bastion/bastionlaw04.reads -/
def F26 (x0 : Option Addr) (x1 : Option Addr) (x2 : Sl) (w : World) (Q : Value → World → Prop) : Prop :=
 ∃ (I : Nat → Int → World → Prop) (n0 : Nat), I n0 (0 : Int) w ∧
 ∀ (n : Nat) (u : Env) (x7 : Int) (w1 : World), I n x7 w1 →
 IfB (decide (x7 < ((x2.l : Nat) : Int)))
 (∃ p21, x2.a = some p21 ∧ 0 ≤ x7 ∧ x7 < ((x2.l : Nat) : Int) ∧
 ∃ t22 : Int, Ld w1 (p21.add ((x7).toNat * 1)) (.int .i64 t22) ∧
 Calls prog 17 #[.pointer x0, .int .i64 t22] w1 fun en w1_1 =>
 ∃ t23a : Sl, ∃ t23b : Int, en = .returned (.tuple #[.slice t23a.a t23a.l t23a.c, .int .i64 t23b]) ∧
 ∃ p29, x2.a = some p29 ∧ 0 ≤ x7 ∧ x7 < ((x2.l : Nat) : Int) ∧
 ∃ t30 : Int, Ld w1_1 (p29.add ((x7).toNat * 1)) (.int .i64 t30) ∧
 Calls prog 36 #[.pointer x1, .int .i64 t30] w1_1 fun en w1_2 =>
 ∃ t31 : Bool, en = .returned (.bool t31) ∧
 IfB (!t31)
 (∃ J : Bool → World → Prop, (IfB (t23b != (1 : Int))
 (J true w1_2)
 (J (((t23a.l : Nat) : Int) != (0 : Int)) w1_2)) ∧
 (∀ (u_1 : Env) (x39 : Bool) (w1_3 : World), J x39 w1_3 →
 IfB x39
 (Q (.bool false) w1_3)
 (∃ n', n' < n ∧ I n' (IntKind.wrap .i64 (x7 + (1 : Int))) w1_3)))
 (∃ J : Bool → World → Prop, (∃ S : World → Prop, S w1_2.drew ∧
 IfB (t23b != (0 : Int))
 ((J true w1_2.drew) ∧
 (J true w1_2.drew))
 (∃ p48, x2.a = some p48 ∧ 0 ≤ x7 ∧ x7 < ((x2.l : Nat) : Int) ∧
 ∃ t49 : Int, (∀ w', S w' → Ld w' (p48.add ((x7).toNat * 1)) (.int .i64 t49)) ∧
 (RunT prog .str (convert 23 9 (.slice t23a.a t23a.l t23a.c)) w1_2.drew fun (t44 : ByteArray) w1_3 =>
 S w1_3 ∧
 Calls prog 37 #[.pointer x1, .int .i64 t49] w1_3 fun en w1_4 =>
 ∃ t50 : ByteArray, en = .returned (.string t50) ∧
 J (!(t44.toList == t50.toList)) w1_4) ∧
 (Calls prog 37 #[.pointer x1, .int .i64 t49] w1_2.drew fun en w1_3 =>
 ∃ t50 : ByteArray, en = .returned (.string t50) ∧
 RunT prog .str (convert 23 9 (.slice t23a.a t23a.l t23a.c)) w1_3 fun (t44 : ByteArray) w1_4 =>
 TrueW w1_4 ∧
 J (!(t44.toList == t50.toList)) w1_4))) ∧
 (∀ (u_1 : Env) (x52 : Bool) (w1_3 : World), J x52 w1_3 →
 IfB x52
 (Q (.bool false) w1_3)
 (∃ (I_1 : Nat → Int → World → Prop) (n0_1 : Nat), I_1 n0_1 (0 : Int) w1_3 ∧
 ∀ (n_1 : Nat) (u_2 : Env) (x10 : Int) (w1_4 : World), I_1 n_1 x10 w1_4 →
 IfB (decide (x10 < ((t23a.l : Nat) : Int)))
 (∃ p61, t23a.a = some p61 ∧ 0 ≤ x10 ∧ x10 < ((t23a.l : Nat) : Int) ∧
 Wr w1_4 (p61.add ((x10).toNat * 1)) ∧ ∀ w1_5, w1_5 = w1_4.setCell (p61.add ((x10).toNat * 1)) (.int .u8 238) →
 ∃ n', n' < n_1 ∧ I_1 n' (IntKind.wrap .i64 (x10 + (1 : Int))) w1_5)
 (∃ n', n' < n ∧ I n' (IntKind.wrap .i64 (x7 + (1 : Int))) w1_4)))))
 (Q (.bool true) w1)
def an26 : Ann := { cut := fun i => bif Nat.beq i 7 then some [(39, .bool)] else bif Nat.beq i 9 then some [(52, .bool)] else none, loop := fun i => bif Nat.beq i 2 then [(7, .int .i64)] else bif Nat.beq i 11 then [(10, .int .i64)] else [] }
theorem eq26 (x0 : Option Addr) (x1 : Option Addr) (x2 : Sl) (w : World) (Q : Value → World → Prop) : F26 x0 x1 x2 w Q = vc prog an26 (Try.f26.body.getD .skip) (envOf [.pointer x0, .pointer x1, .slice x2.a x2.l x2.c]) w (retK prog Try.f26 Q) := by kernel_rfl
theorem ok26 : codeOk Try.f26.ntmps (Try.f26.body.getD .skip) = true := by kernel_rfl
theorem W26 {x0 : Option Addr} {x1 : Option Addr} {x2 : Sl} {w : World} {Q : Value → World → Prop} (h : F26 x0 x1 x2 w Q) : Calls prog 26 #[.pointer x0, .pointer x1, .slice x2.a x2.l x2.c] w fun en w' => ∃ v, en = .returned v ∧ Q v w' :=
  calls_of_vc good follows an26 (args := [.pointer x0, .pointer x1, .slice x2.a x2.l x2.c]) Try.func26 (by kernel_rfl) ok26 (of_decide_eq_true (by kernel_rfl)) (Eq.mp (eq26 x0 x1 x2 w Q) h)

/-- (*bastion/journal.Journal).alive -/
def F27 (x0 : Option Addr) (w : World) (Q : Value → World → Prop) : Prop :=
 ∃ b5 : Bool, BinIs prog .eql 32 (.tmp 4) (.const (.pointer none)) (.pointer x0) (.pointer none) b5 ∧
 IfB b5
 (Q (.int .i64 2) w)
 (∃ p8, x0 = some p8 ∧
 ∃ t10 : Option Addr, Ld w (p8.add 0) (.pointer t10) ∧
 Calls prog 12 #[.pointer t10] w fun en w1 =>
 ∃ t11 : Bool, en = .returned (.bool t11) ∧
 IfB t11
 (Q (.int .i64 20) w1)
 (Q (.int .i64 0) w1))
def an27 : Ann := { cut := fun i => none, loop := fun i => [] }
theorem eq27 (x0 : Option Addr) (w : World) (Q : Value → World → Prop) : F27 x0 w Q = vc prog an27 (Try.f27.body.getD .skip) (envOf [.pointer x0]) w (retK prog Try.f27 Q) := by kernel_rfl
theorem ok27 : codeOk Try.f27.ntmps (Try.f27.body.getD .skip) = true := by kernel_rfl
theorem W27 {x0 : Option Addr} {w : World} {Q : Value → World → Prop} (h : F27 x0 w Q) : Calls prog 27 #[.pointer x0] w fun en w' => ∃ v, en = .returned v ∧ Q v w' :=
  calls_of_vc good follows an27 (args := [.pointer x0]) Try.func27 (by kernel_rfl) ok27 (of_decide_eq_true (by kernel_rfl)) (Eq.mp (eq27 x0 w Q) h)

/-- (*bastion/journal.Journal).plain -/
def F28 (x0 : Option Addr) (x1 : Int) (w : World) (Q : Value → World → Prop) : Prop :=
 IfB (x1 == (0 : Int))
 (Q (.bool true) w)
 (IfB (decide (x1 > (121 : Int)))
 (∃ p13, x0 = some p13 ∧
 ∃ t15 : Option Addr, Ld w (p13.add 0) (.pointer t15) ∧
 Calls prog 38 #[.pointer t15] w fun en w1 =>
 ∃ t16 : Int, en = .returned (.int .i64 t16) ∧
 Q (.bool (decide (x1 < t16))) w1)
 (Q (.bool false) w))
def an28 : Ann := { cut := fun i => none, loop := fun i => [] }
theorem eq28 (x0 : Option Addr) (x1 : Int) (w : World) (Q : Value → World → Prop) : F28 x0 x1 w Q = vc prog an28 (Try.f28.body.getD .skip) (envOf [.pointer x0, .int .i64 x1]) w (retK prog Try.f28 Q) := by kernel_rfl
theorem ok28 : codeOk Try.f28.ntmps (Try.f28.body.getD .skip) = true := by kernel_rfl
theorem W28 {x0 : Option Addr} {x1 : Int} {w : World} {Q : Value → World → Prop} (h : F28 x0 x1 w Q) : Calls prog 28 #[.pointer x0, .int .i64 x1] w fun en w' => ∃ v, en = .returned v ∧ Q v w' :=
  calls_of_vc good follows an28 (args := [.pointer x0, .int .i64 x1]) Try.func28 (by kernel_rfl) ok28 (of_decide_eq_true (by kernel_rfl)) (Eq.mp (eq28 x0 x1 w Q) h)

/-- (*bastion/disk.Disk).Write -/
def F29 (x0 : Option Addr) (x1 : Int) (x2 : Sl) (w : World) (Q : Value → World → Prop) : Prop :=
 Calls prog 32 #[.pointer x0] w fun en w1 =>
 ∃ t9 : Int, en = .returned (.int .i64 t9) ∧
 IfB (t9 != (0 : Int))
 (Q (.int .i64 t9) w1)
 (∃ J : World → Prop, (∃ J_1 : Bool → World → Prop, (IfB (decide (x1 < (0 : Int)))
 (J_1 true w1)
 (∃ p19, x0 = some p19 ∧
 ∃ t21 : Sl, Ld w1 (p19.add 0) (.slice t21.a t21.l t21.c) ∧
 IfB (decide (x1 ≥ ((t21.l : Nat) : Int)))
 (J_1 true w1)
 (J_1 (((x2.l : Nat) : Int) != (256 : Int)) w1))) ∧
 (∀ (u : Env) (x13 : Bool) (w1_1 : World), J_1 x13 w1_1 →
 IfB x13
 (Q (.int .i64 1) w1_1)
 (∃ p32, x0 = some p32 ∧
 ∃ t34 : Int, Ld w1_1 (p32.add 2) (.int .i64 t34) ∧
 IfB (t34 == (0 : Int))
 (∃ p37, x0 = some p37 ∧
 Wr w1_1 (p37.add 3) ∧ ∀ w1_2, w1_2 = w1_1.setCell (p37.add 3) (.bool true) →
 Q (.int .i64 20) w1_2)
 (∃ p41, x0 = some p41 ∧
 ∃ t43 : Int, Ld w1_1 (p41.add 2) (.int .i64 t43) ∧
 IfB (decide (t43 > (0 : Int)))
 (∃ p46, x0 = some p46 ∧
 ∃ t48 : Int, Ld w1_1 (p46.add 2) (.int .i64 t48) ∧
 ∃ p50, x0 = some p50 ∧
 Wr w1_1 (p50.add 2) ∧ ∀ w1_2, w1_2 = w1_1.setCell (p50.add 2) (.int .i64 (IntKind.wrap .i64 (t48 - (1 : Int)))) →
 J  w1_2)
 (J  w1_1))))) ∧
 (∀ (u : Env) (w1_1 : World), J  w1_1 →
 ∃ p53, x0 = some p53 ∧
 ∃ t55 : Sl, Ld w1_1 (p53.add 0) (.slice t55.a t55.l t55.c) ∧
 ∃ p57, t55.a = some p57 ∧ 0 ≤ x1 ∧ x1 < ((t55.l : Nat) : Int) ∧
 RunT prog (.int .i64) (Builtin.copy_ #[23, 23] 3 #[.slice (some (if 256 = 0 then p57.add ((x1).toNat * 256) else (p57.add ((x1).toNat * 256)).add (0 * 1))) (256 - 0) (256 - 0), .slice x2.a x2.l x2.c]) w1_1 fun (t60 : Int) w1_2 =>
 ∃ p62, x0 = some p62 ∧
 ∃ t64 : Int, Ld w1_2 (p62.add 1) (.int .i64 t64) ∧
 ∃ p66, x0 = some p66 ∧
 Wr w1_2 (p66.add 1) ∧ ∀ w1_3, w1_3 = w1_2.setCell (p66.add 1) (.int .i64 (IntKind.wrap .i64 (t64 + (1 : Int)))) →
 Q (.int .i64 0) w1_3))
def an29 : Ann := { cut := fun i => bif Nat.beq i 5 then some [(13, .bool)] else bif Nat.beq i 11 then some [] else none, loop := fun i => [] }
theorem eq29 (x0 : Option Addr) (x1 : Int) (x2 : Sl) (w : World) (Q : Value → World → Prop) : F29 x0 x1 x2 w Q = vc prog an29 (Try.f29.body.getD .skip) (envOf [.pointer x0, .int .i64 x1, .slice x2.a x2.l x2.c]) w (retK prog Try.f29 Q) := by kernel_rfl
theorem ok29 : codeOk Try.f29.ntmps (Try.f29.body.getD .skip) = true := by kernel_rfl
theorem W29 {x0 : Option Addr} {x1 : Int} {x2 : Sl} {w : World} {Q : Value → World → Prop} (h : F29 x0 x1 x2 w Q) : Calls prog 29 #[.pointer x0, .int .i64 x1, .slice x2.a x2.l x2.c] w fun en w' => ∃ v, en = .returned v ∧ Q v w' :=
  calls_of_vc good follows an29 (args := [.pointer x0, .int .i64 x1, .slice x2.a x2.l x2.c]) Try.func29 (by kernel_rfl) ok29 (of_decide_eq_true (by kernel_rfl)) (Eq.mp (eq29 x0 x1 x2 w Q) h)

/-- bastion/journal.entry -/
def F30 (x0 : Sl) (w : World) (Q : Value → World → Prop) : Prop :=
 Calls prog 39 #[] w fun en w1 =>
 ∃ t11a : Value, ∃ t11b : Value, en = .returned (.tuple #[t11a, t11b]) ∧
 RunT prog .slice (Instr.buildSlice 23 1 #[(0, .int .u8 (IntKind.wrap .u8 ((x0.l : Nat) : Int)))]) w1 fun (t17 : Sl) w1_1 =>
 ∃ (I : Nat → Sl → Int → World → Prop) (n0 : Nat), I n0 t17 (0 : Int) w1_1 ∧
 ∀ (n : Nat) (u : Env) (x5 : Sl) (x20 : Int) (w1_2 : World), I n x5 x20 w1_2 →
 IfB (decide (x20 < ((x0.l : Nat) : Int)))
 (∃ p22, x0.a = some p22 ∧ 0 ≤ x20 ∧ x20 < ((x0.l : Nat) : Int) ∧
 ∃ t23 : Array Value, LdA w1_2 (p22.add ((x20).toNat * 2)) 2 t23 ∧
 ∀ b7 w1_3, NewB w1_2 (.cells #[.int .i64 0, .slice none 0 0] 30) b7 w1_3 →
 t23.size = 2 ∧ (∀ u, u ∈ t23.toList → u.oneCell' = true) ∧ WrA w1_3 (⟨b7, 0, none⟩ : Addr) 2 ∧ ∀ w1_4, w1_4 = setAt w1_3 (⟨b7, 0, none⟩ : Addr) t23.toList 0 →
 ∃ t26 : Int, Ld w1_4 ((⟨b7, 0, none⟩ : Addr).add 0) (.int .i64 t26) ∧
 0 ≤ (8 : Int) ∧
 ∃ t30 : Int, Ld w1_4 ((⟨b7, 0, none⟩ : Addr).add 0) (.int .i64 t30) ∧
 RunT prog .slice (Instr.buildSlice 23 2 #[(0, .int .u8 (IntKind.wrap .u8 (Int.fdiv t26 (2 ^ (min 8 64))))), (1, .int .u8 (IntKind.wrap .u8 t30))]) w1_4 fun (t32 : Sl) w1_5 =>
 RunT prog .slice (Builtin.append_ #[23, 23] 23 #[.slice x5.a x5.l x5.c, .slice t32.a t32.l t32.c]) w1_5 fun (t33 : Sl) w1_6 =>
 ∃ t36 : Sl, Ld w1_6 ((⟨b7, 0, none⟩ : Addr).add 1) (.slice t36.a t36.l t36.c) ∧
 CallV prog t11a #[.slice t36.a t36.l t36.c] w1_6 fun v37 w1_7 =>
 v37 = (.tuple #[]) ∧
 ∃ n', n' < n ∧ I n' t33 (IntKind.wrap .i64 (x20 + (1 : Int))) w1_7)
 (CallV prog t11a #[.slice x5.a x5.l x5.c] w1_2 fun v41 w1_3 =>
 v41 = (.tuple #[]) ∧
 CallV prog t11b #[] w1_3 fun v43 w1_4 =>
 ∃ t43 : Int, v43 = (.int .u64 t43) ∧
 ∃ (I_1 : Nat → Sl → Int → World → Prop) (n0_1 : Nat), I_1 n0_1 x5 (0 : Int) w1_4 ∧
 ∀ (n_1 : Nat) (u_1 : Env) (x5_1 : Sl) (x8 : Int) (w1_5 : World), I_1 n_1 x5_1 x8 w1_5 →
 IfB (decide (x8 < (8 : Int)))
 (0 ≤ IntKind.wrap .i64 ((8 : Int) * x8) ∧
 RunT prog .slice (Instr.buildSlice 23 1 #[(0, .int .u8 (IntKind.wrap .u8 (Int.fdiv t43 (2 ^ (min ((IntKind.wrap .i64 ((8 : Int) * x8)).toNat) 64)))))]) w1_5 fun (t54 : Sl) w1_6 =>
 RunT prog .slice (Builtin.append_ #[23, 23] 23 #[.slice x5_1.a x5_1.l x5_1.c, .slice t54.a t54.l t54.c]) w1_6 fun (t55 : Sl) w1_7 =>
 ∃ n', n' < n_1 ∧ I_1 n' t55 (IntKind.wrap .i64 (x8 + (1 : Int))) w1_7)
 (RunT prog .slice (Builtin.append_ #[23, 3] 23 #[.slice x5_1.a x5_1.l x5_1.c, .int .i64 (IntKind.wrap .i64 ((256 : Int) - ((x5_1.l : Nat) : Int)))]) w1_5 fun (t60 : Sl) w1_6 =>
 Q (.slice t60.a t60.l t60.c) w1_6))
def an30 : Ann := { cut := fun i => none, loop := fun i => bif Nat.beq i 4 then [(5, .slice), (20, .int .i64)] else bif Nat.beq i 11 then [(5, .slice), (8, .int .i64)] else [] }
theorem eq30 (x0 : Sl) (w : World) (Q : Value → World → Prop) : F30 x0 w Q = vc prog an30 (Try.f30.body.getD .skip) (envOf [.slice x0.a x0.l x0.c]) w (retK prog Try.f30 Q) := by kernel_rfl
theorem ok30 : codeOk Try.f30.ntmps (Try.f30.body.getD .skip) = true := by kernel_rfl
theorem W30 {x0 : Sl} {w : World} {Q : Value → World → Prop} (h : F30 x0 w Q) : Calls prog 30 #[.slice x0.a x0.l x0.c] w fun en w' => ∃ v, en = .returned v ∧ Q v w' :=
  calls_of_vc good follows an30 (args := [.slice x0.a x0.l x0.c]) Try.func30 (by kernel_rfl) ok30 (of_decide_eq_true (by kernel_rfl)) (Eq.mp (eq30 x0 w Q) h)

/-- (*bastion/journal.Journal).apply -/
def F31 (x0 : Option Addr) (x1 : Sl) (w : World) (Q : Value → World → Prop) : Prop :=
 ∃ (I : Nat → Int → World → Prop) (n0 : Nat), I n0 (0 : Int) w ∧
 ∀ (n : Nat) (u : Env) (x10 : Int) (w1 : World), I n x10 w1 →
 IfB (decide (x10 < ((x1.l : Nat) : Int)))
 (∃ p12, x1.a = some p12 ∧ 0 ≤ x10 ∧ x10 < ((x1.l : Nat) : Int) ∧
 ∃ t13 : Array Value, LdA w1 (p12.add ((x10).toNat * 2)) 2 t13 ∧
 ∀ b6 w1_1, NewB w1 (.cells #[.int .i64 0, .slice none 0 0] 30) b6 w1_1 →
 t13.size = 2 ∧ (∀ u, u ∈ t13.toList → u.oneCell' = true) ∧ WrA w1_1 (⟨b6, 0, none⟩ : Addr) 2 ∧ ∀ w1_2, w1_2 = setAt w1_1 (⟨b6, 0, none⟩ : Addr) t13.toList 0 →
 ∃ S : World → Prop, S w1_2.drew ∧
 ∃ p15, x0 = some p15 ∧
 ∃ t17 : Option Addr, (∀ w', S w' → Ld w' (p15.add 0) (.pointer t17)) ∧
 ∃ t19 : Int, (∀ w', S w' → Ld w' ((⟨b6, 0, none⟩ : Addr).add 0) (.int .i64 t19)) ∧
 ∃ t21 : Sl, (∀ w', S w' → Ld w' ((⟨b6, 0, none⟩ : Addr).add 1) (.slice t21.a t21.l t21.c)) ∧
 Calls prog 29 #[.pointer t17, .int .i64 t19, .slice t21.a t21.l t21.c] w1_2.drew fun en w1_3 =>
 ∃ t22 : Int, en = .returned (.int .i64 t22) ∧
 IfB (t22 != (0 : Int))
 (Q (.int .i64 t22) w1_3)
 (∃ n', n' < n ∧ I n' (IntKind.wrap .i64 (x10 + (1 : Int))) w1_3))
 (∃ S : World → Prop, S w1.drew ∧
 ∃ p28, x0 = some p28 ∧
 ∃ t30 : Option Addr, (∀ w', S w' → Ld w' (p28.add 0) (.pointer t30)) ∧
 RunT prog .slice (Instr.makeSlice 23 (.int .i64 256) (.int .i64 256)) w1.drew fun (t31 : Sl) w1_1 =>
 S w1_1 ∧
 Calls prog 29 #[.pointer t30, .int .i64 1, .slice t31.a t31.l t31.c] w1_1 fun en w1_2 =>
 ∃ t32 : Int, en = .returned (.int .i64 t32) ∧
 Q (.int .i64 t32) w1_2)
def an31 : Ann := { cut := fun i => none, loop := fun i => bif Nat.beq i 2 then [(10, .int .i64)] else [] }
theorem eq31 (x0 : Option Addr) (x1 : Sl) (w : World) (Q : Value → World → Prop) : F31 x0 x1 w Q = vc prog an31 (Try.f31.body.getD .skip) (envOf [.pointer x0, .slice x1.a x1.l x1.c]) w (retK prog Try.f31 Q) := by kernel_rfl
theorem ok31 : codeOk Try.f31.ntmps (Try.f31.body.getD .skip) = true := by kernel_rfl
theorem W31 {x0 : Option Addr} {x1 : Sl} {w : World} {Q : Value → World → Prop} (h : F31 x0 x1 w Q) : Calls prog 31 #[.pointer x0, .slice x1.a x1.l x1.c] w fun en w' => ∃ v, en = .returned v ∧ Q v w' :=
  calls_of_vc good follows an31 (args := [.pointer x0, .slice x1.a x1.l x1.c]) Try.func31 (by kernel_rfl) ok31 (of_decide_eq_true (by kernel_rfl)) (Eq.mp (eq31 x0 x1 w Q) h)

/-- (*bastion/disk.Disk).lives -/
def F32 (x0 : Option Addr) (w : World) (Q : Value → World → Prop) : Prop :=
 ∃ b5 : Bool, BinIs prog .eql 31 (.tmp 4) (.const (.pointer none)) (.pointer x0) (.pointer none) b5 ∧
 IfB b5
 (Q (.int .i64 2) w)
 (∃ p8, x0 = some p8 ∧
 ∃ t10 : Bool, Ld w (p8.add 3) (.bool t10) ∧
 IfB t10
 (Q (.int .i64 20) w)
 (Q (.int .i64 0) w))
def an32 : Ann := { cut := fun i => none, loop := fun i => [] }
theorem eq32 (x0 : Option Addr) (w : World) (Q : Value → World → Prop) : F32 x0 w Q = vc prog an32 (Try.f32.body.getD .skip) (envOf [.pointer x0]) w (retK prog Try.f32 Q) := by kernel_rfl
theorem ok32 : codeOk Try.f32.ntmps (Try.f32.body.getD .skip) = true := by kernel_rfl
theorem W32 {x0 : Option Addr} {w : World} {Q : Value → World → Prop} (h : F32 x0 w Q) : Calls prog 32 #[.pointer x0] w fun en w' => ∃ v, en = .returned v ∧ Q v w' :=
  calls_of_vc good follows an32 (args := [.pointer x0]) Try.func32 (by kernel_rfl) ok32 (of_decide_eq_true (by kernel_rfl)) (Eq.mp (eq32 x0 w Q) h)

/-- slices.Clone[[]bastion/disk.block,bastion/disk.block] -/
def F33 (x0 : Sl) (w : World) (Q : Value → World → Prop) : Prop :=
 ∃ b4 : Bool, BinIs prog .eql 69 (.tmp 3) (.const (.slice none 0 0)) (.slice x0.a x0.l x0.c) (.slice none 0 0) b4 ∧
 IfB b4
 (Q (.slice none 0 0) w)
 (RunT prog .slice (Instr.buildSlice 69 0 #[]) w fun (t5 : Sl) w1 =>
 RunT prog .slice (Builtin.append_ #[69, 69] 69 #[.slice t5.a t5.l t5.c, .slice x0.a x0.l x0.c]) w1 fun (t7 : Sl) w1_1 =>
 Q (.slice t7.a t7.l t7.c) w1_1)
def an33 : Ann := { cut := fun i => none, loop := fun i => [] }
theorem eq33 (x0 : Sl) (w : World) (Q : Value → World → Prop) : F33 x0 w Q = vc prog an33 (Try.f33.body.getD .skip) (envOf [.slice x0.a x0.l x0.c]) w (retK prog Try.f33 Q) := by kernel_rfl
theorem ok33 : codeOk Try.f33.ntmps (Try.f33.body.getD .skip) = true := by kernel_rfl
theorem W33 {x0 : Sl} {w : World} {Q : Value → World → Prop} (h : F33 x0 w Q) : Calls prog 33 #[.slice x0.a x0.l x0.c] w fun en w' => ∃ v, en = .returned v ∧ Q v w' :=
  calls_of_vc good follows an33 (args := [.slice x0.a x0.l x0.c]) Try.func33 (by kernel_rfl) ok33 (of_decide_eq_true (by kernel_rfl)) (Eq.mp (eq33 x0 w Q) h)

/-- (*bastion/journal.Journal).left -/
def F34 (x0 : Option Addr) (w : World) (Q : Value → World → Prop) : Prop :=
 ∃ p11, x0 = some p11 ∧
 ∃ t13 : Option Addr, Ld w (p11.add 0) (.pointer t13) ∧
 Calls prog 35 #[.pointer t13, .int .i64 1] w fun en w1 =>
 ∃ t14a : Sl, ∃ t14b : Int, en = .returned (.tuple #[.slice t14a.a t14a.l t14a.c, .int .i64 t14b]) ∧
 IfB (t14b != (0 : Int))
 (Q (.tuple #[.slice none 0 0, .int .i64 t14b]) w1)
 (∃ p21, t14a.a = some p21 ∧ 0 ≤ (0 : Int) ∧ (0 : Int) < ((t14a.l : Nat) : Int) ∧
 ∃ t22 : Int, Ld w1 (p21.add (0 * 1)) (.int .u8 t22) ∧
 ∃ (I : Nat → Sl → Int → World → Prop) (n0 : Nat), I n0 (⟨none, 0, 0⟩ : Sl) (0 : Int) w1 ∧
 ∀ (n : Nat) (u : Env) (x6 : Sl) (x25 : Int) (w1_1 : World), I n x6 x25 w1_1 →
 IfB (decide (x25 < (if (120 : Int) < IntKind.wrap .i64 t22 then (120 : Int) else IntKind.wrap .i64 t22)))
 (∃ S : World → Prop, S w1_1.drew ∧
 ∃ p32, t14a.a = some p32 ∧ 0 ≤ IntKind.wrap .i64 ((1 : Int) + (IntKind.wrap .i64 ((2 : Int) * x25))) ∧ IntKind.wrap .i64 ((1 : Int) + (IntKind.wrap .i64 ((2 : Int) * x25))) < ((t14a.l : Nat) : Int) ∧
 ∃ t33 : Int, (∀ w', S w' → Ld w' (p32.add ((IntKind.wrap .i64 ((1 : Int) + (IntKind.wrap .i64 ((2 : Int) * x25)))).toNat * 1)) (.int .u8 t33)) ∧
 0 ≤ (8 : Int) ∧
 ∃ p40, t14a.a = some p40 ∧ 0 ≤ IntKind.wrap .i64 ((2 : Int) + (IntKind.wrap .i64 ((2 : Int) * x25))) ∧ IntKind.wrap .i64 ((2 : Int) + (IntKind.wrap .i64 ((2 : Int) * x25))) < ((t14a.l : Nat) : Int) ∧
 ∃ t41 : Int, (∀ w', S w' → Ld w' (p40.add ((IntKind.wrap .i64 ((2 : Int) + (IntKind.wrap .i64 ((2 : Int) * x25)))).toNat * 1)) (.int .u8 t41)) ∧
 ∃ t44 : Array Value, BuildIs prog 30 #[(0, .int .i64 (bitsI .or .i64 (IntKind.wrap .i64 ((IntKind.wrap .i64 t33) * 2 ^ (min 8 64))) (IntKind.wrap .i64 t41)))] t44 ∧
 ∀ b8 w1_2, NewB w1_1.drew (.cells #[.int .i64 0, .slice none 0 0] 30) b8 w1_2 →
 S w1_2 ∧
 t44.size = 2 ∧ (∀ u, u ∈ t44.toList → u.oneCell' = true) ∧ WrA w1_2 (⟨b8, 0, none⟩ : Addr) 2 ∧ ∀ w1_3, w1_3 = setAt w1_2 (⟨b8, 0, none⟩ : Addr) t44.toList 0 →
 ∃ t47 : Int, Ld w1_3 ((⟨b8, 0, none⟩ : Addr).add 0) (.int .i64 t47) ∧
 Calls prog 28 #[.pointer x0, .int .i64 t47] w1_3 fun en w1_4 =>
 ∃ t48 : Bool, en = .returned (.bool t48) ∧
 IfB (!t48)
 (Q (.tuple #[.slice none 0 0, .int .i64 0]) w1_4)
 (∃ p52, x0 = some p52 ∧
 ∃ t54 : Option Addr, Ld w1_4 (p52.add 0) (.pointer t54) ∧
 Calls prog 35 #[.pointer t54, .int .i64 (IntKind.wrap .i64 ((2 : Int) + x25))] w1_4 fun en w1_5 =>
 ∃ t57a : Sl, ∃ t57b : Int, en = .returned (.tuple #[.slice t57a.a t57a.l t57a.c, .int .i64 t57b]) ∧
 Wr w1_5 ((⟨b8, 0, none⟩ : Addr).add 1) ∧ ∀ w1_6, w1_6 = w1_5.setCell ((⟨b8, 0, none⟩ : Addr).add 1) (.slice t57a.a t57a.l t57a.c) →
 IfB (t57b != (0 : Int))
 (Q (.tuple #[.slice none 0 0, .int .i64 t57b]) w1_6)
 (∃ t65 : Array Value, LdA w1_6 (⟨b8, 0, none⟩ : Addr) 2 t65 ∧
 RunT prog .slice (Instr.buildSlice 25 1 #[(0, .agg t65)]) w1_6 fun (t66 : Sl) w1_7 =>
 RunT prog .slice (Builtin.append_ #[25, 25] 25 #[.slice x6.a x6.l x6.c, .slice t66.a t66.l t66.c]) w1_7 fun (t67 : Sl) w1_8 =>
 ∃ n', n' < n ∧ I n' t67 (IntKind.wrap .i64 (x25 + (1 : Int))) w1_8)))
 (Calls prog 30 #[.slice x6.a x6.l x6.c] w1_1 fun en w1_2 =>
 ∃ t70 : Sl, en = .returned (.slice t70.a t70.l t70.c) ∧
 Calls prog 40 #[.slice t70.a t70.l t70.c, .slice t14a.a t14a.l t14a.c] w1_2 fun en w1_3 =>
 ∃ t72 : Bool, en = .returned (.bool t72) ∧
 IfB (!t72)
 (Q (.tuple #[.slice none 0 0, .int .i64 0]) w1_3)
 (Q (.tuple #[.slice x6.a x6.l x6.c, .int .i64 0]) w1_3)))
def an34 : Ann := { cut := fun i => none, loop := fun i => bif Nat.beq i 6 then [(6, .slice), (25, .int .i64)] else [] }
theorem eq34 (x0 : Option Addr) (w : World) (Q : Value → World → Prop) : F34 x0 w Q = vc prog an34 (Try.f34.body.getD .skip) (envOf [.pointer x0]) w (retK prog Try.f34 Q) := by kernel_rfl
theorem ok34 : codeOk Try.f34.ntmps (Try.f34.body.getD .skip) = true := by kernel_rfl
theorem W34 {x0 : Option Addr} {w : World} {Q : Value → World → Prop} (h : F34 x0 w Q) : Calls prog 34 #[.pointer x0] w fun en w' => ∃ v, en = .returned v ∧ Q v w' :=
  calls_of_vc good follows an34 (args := [.pointer x0]) Try.func34 (by kernel_rfl) ok34 (of_decide_eq_true (by kernel_rfl)) (Eq.mp (eq34 x0 w Q) h)

/-- (*bastion/disk.Disk).Read -/
def F35 (x0 : Option Addr) (x1 : Int) (w : World) (Q : Value → World → Prop) : Prop :=
 Calls prog 32 #[.pointer x0] w fun en w1 =>
 ∃ t9 : Int, en = .returned (.int .i64 t9) ∧
 IfB (t9 != (0 : Int))
 (Q (.tuple #[.slice none 0 0, .int .i64 t9]) w1)
 (IfB (decide (x1 < (0 : Int)))
 (Q (.tuple #[.slice none 0 0, .int .i64 1]) w1)
 (∃ p18, x0 = some p18 ∧
 ∃ t20 : Sl, Ld w1 (p18.add 0) (.slice t20.a t20.l t20.c) ∧
 IfB (decide (x1 ≥ ((t20.l : Nat) : Int)))
 (Q (.tuple #[.slice none 0 0, .int .i64 1]) w1)
 (∃ p25, x0 = some p25 ∧
 ∃ t27 : Sl, Ld w1 (p25.add 0) (.slice t27.a t27.l t27.c) ∧
 ∃ p29, t27.a = some p29 ∧ 0 ≤ x1 ∧ x1 < ((t27.l : Nat) : Int) ∧
 ∃ t30 : Array Value, LdA w1 (p29.add ((x1).toNat * 256)) 256 t30 ∧
 ∀ b7 w1_1, NewB w1 (.cells #[.int .u8 0, .int .u8 0, .int .u8 0, .int .u8 0, .int .u8 0, .int .u8 0, .int .u8 0, .int .u8 0, .int .u8 0, .int .u8 0, .int .u8 0, .int .u8 0, .int .u8 0, .int .u8 0, .int .u8 0, .int .u8 0, .int .u8 0, .int .u8 0, .int .u8 0, .int .u8 0, .int .u8 0, .int .u8 0, .int .u8 0, .int .u8 0, .int .u8 0, .int .u8 0, .int .u8 0, .int .u8 0, .int .u8 0, .int .u8 0, .int .u8 0, .int .u8 0, .int .u8 0, .int .u8 0, .int .u8 0, .int .u8 0, .int .u8 0, .int .u8 0, .int .u8 0, .int .u8 0, .int .u8 0, .int .u8 0, .int .u8 0, .int .u8 0, .int .u8 0, .int .u8 0, .int .u8 0, .int .u8 0, .int .u8 0, .int .u8 0, .int .u8 0, .int .u8 0, .int .u8 0, .int .u8 0, .int .u8 0, .int .u8 0, .int .u8 0, .int .u8 0, .int .u8 0, .int .u8 0, .int .u8 0, .int .u8 0, .int .u8 0, .int .u8 0, .int .u8 0, .int .u8 0, .int .u8 0, .int .u8 0, .int .u8 0, .int .u8 0, .int .u8 0, .int .u8 0, .int .u8 0, .int .u8 0, .int .u8 0, .int .u8 0, .int .u8 0, .int .u8 0, .int .u8 0, .int .u8 0, .int .u8 0, .int .u8 0, .int .u8 0, .int .u8 0, .int .u8 0, .int .u8 0, .int .u8 0, .int .u8 0, .int .u8 0, .int .u8 0, .int .u8 0, .int .u8 0, .int .u8 0, .int .u8 0, .int .u8 0, .int .u8 0, .int .u8 0, .int .u8 0, .int .u8 0, .int .u8 0, .int .u8 0, .int .u8 0, .int .u8 0, .int .u8 0, .int .u8 0, .int .u8 0, .int .u8 0, .int .u8 0, .int .u8 0, .int .u8 0, .int .u8 0, .int .u8 0, .int .u8 0, .int .u8 0, .int .u8 0, .int .u8 0, .int .u8 0, .int .u8 0, .int .u8 0, .int .u8 0, .int .u8 0, .int .u8 0, .int .u8 0, .int .u8 0, .int .u8 0, .int .u8 0, .int .u8 0, .int .u8 0, .int .u8 0, .int .u8 0, .int .u8 0, .int .u8 0, .int .u8 0, .int .u8 0, .int .u8 0, .int .u8 0, .int .u8 0, .int .u8 0, .int .u8 0, .int .u8 0, .int .u8 0, .int .u8 0, .int .u8 0, .int .u8 0, .int .u8 0, .int .u8 0, .int .u8 0, .int .u8 0, .int .u8 0, .int .u8 0, .int .u8 0, .int .u8 0, .int .u8 0, .int .u8 0, .int .u8 0, .int .u8 0, .int .u8 0, .int .u8 0, .int .u8 0, .int .u8 0, .int .u8 0, .int .u8 0, .int .u8 0, .int .u8 0, .int .u8 0, .int .u8 0, .int .u8 0, .int .u8 0, .int .u8 0, .int .u8 0, .int .u8 0, .int .u8 0, .int .u8 0, .int .u8 0, .int .u8 0, .int .u8 0, .int .u8 0, .int .u8 0, .int .u8 0, .int .u8 0, .int .u8 0, .int .u8 0, .int .u8 0, .int .u8 0, .int .u8 0, .int .u8 0, .int .u8 0, .int .u8 0, .int .u8 0, .int .u8 0, .int .u8 0, .int .u8 0, .int .u8 0, .int .u8 0, .int .u8 0, .int .u8 0, .int .u8 0, .int .u8 0, .int .u8 0, .int .u8 0, .int .u8 0, .int .u8 0, .int .u8 0, .int .u8 0, .int .u8 0, .int .u8 0, .int .u8 0, .int .u8 0, .int .u8 0, .int .u8 0, .int .u8 0, .int .u8 0, .int .u8 0, .int .u8 0, .int .u8 0, .int .u8 0, .int .u8 0, .int .u8 0, .int .u8 0, .int .u8 0, .int .u8 0, .int .u8 0, .int .u8 0, .int .u8 0, .int .u8 0, .int .u8 0, .int .u8 0, .int .u8 0, .int .u8 0, .int .u8 0, .int .u8 0, .int .u8 0, .int .u8 0, .int .u8 0, .int .u8 0, .int .u8 0, .int .u8 0, .int .u8 0, .int .u8 0, .int .u8 0, .int .u8 0, .int .u8 0, .int .u8 0, .int .u8 0, .int .u8 0, .int .u8 0, .int .u8 0, .int .u8 0, .int .u8 0, .int .u8 0, .int .u8 0, .int .u8 0, .int .u8 0, .int .u8 0, .int .u8 0, .int .u8 0] 74) b7 w1_1 →
 t30.size = 256 ∧ (∀ u, u ∈ t30.toList → u.oneCell' = true) ∧ WrA w1_1 (⟨b7, 0, none⟩ : Addr) 256 ∧ ∀ w1_2, w1_2 = setAt w1_1 (⟨b7, 0, none⟩ : Addr) t30.toList 0 →
 Q (.tuple #[.slice (some (if 256 = 0 then (⟨b7, 0, none⟩ : Addr) else (⟨b7, 0, none⟩ : Addr).add (0 * 1))) (256 - 0) (256 - 0), .int .i64 0]) w1_2)))
def an35 : Ann := { cut := fun i => none, loop := fun i => [] }
theorem eq35 (x0 : Option Addr) (x1 : Int) (w : World) (Q : Value → World → Prop) : F35 x0 x1 w Q = vc prog an35 (Try.f35.body.getD .skip) (envOf [.pointer x0, .int .i64 x1]) w (retK prog Try.f35 Q) := by kernel_rfl
theorem ok35 : codeOk Try.f35.ntmps (Try.f35.body.getD .skip) = true := by kernel_rfl
theorem W35 {x0 : Option Addr} {x1 : Int} {w : World} {Q : Value → World → Prop} (h : F35 x0 x1 w Q) : Calls prog 35 #[.pointer x0, .int .i64 x1] w fun en w' => ∃ v, en = .returned v ∧ Q v w' :=
  calls_of_vc good follows an35 (args := [.pointer x0, .int .i64 x1]) Try.func35 (by kernel_rfl) ok35 (of_decide_eq_true (by kernel_rfl)) (Eq.mp (eq35 x0 x1 w Q) h)

/-- (*bastion/bastionref04.Blocks).Plain -/
def F36 (x0 : Option Addr) (x1 : Int) (w : World) (Q : Value → World → Prop) : Prop :=
 IfB (decide (x1 ≥ (0 : Int)))
 (∃ p10, x0 = some p10 ∧
 ∃ t12 : Int, Ld w (p10.add 0) (.int .i64 t12) ∧
 IfB (decide (x1 < t12))
 (IfB (x1 == (0 : Int))
 (Q (.bool true) w)
 (Q (.bool (decide (x1 > (121 : Int)))) w))
 (Q (.bool false) w))
 (Q (.bool false) w)
def an36 : Ann := { cut := fun i => none, loop := fun i => [] }
theorem eq36 (x0 : Option Addr) (x1 : Int) (w : World) (Q : Value → World → Prop) : F36 x0 x1 w Q = vc prog an36 (Try.f36.body.getD .skip) (envOf [.pointer x0, .int .i64 x1]) w (retK prog Try.f36 Q) := by kernel_rfl
theorem ok36 : codeOk Try.f36.ntmps (Try.f36.body.getD .skip) = true := by kernel_rfl
theorem W36 {x0 : Option Addr} {x1 : Int} {w : World} {Q : Value → World → Prop} (h : F36 x0 x1 w Q) : Calls prog 36 #[.pointer x0, .int .i64 x1] w fun en w' => ∃ v, en = .returned v ∧ Q v w' :=
  calls_of_vc good follows an36 (args := [.pointer x0, .int .i64 x1]) Try.func36 (by kernel_rfl) ok36 (of_decide_eq_true (by kernel_rfl)) (Eq.mp (eq36 x0 x1 w Q) h)

/-- (*bastion/bastionref04.Blocks).At -/
def F37 (x0 : Option Addr) (x1 : Int) (w : World) (Q : Value → World → Prop) : Prop :=
 ∃ p9, x0 = some p9 ∧
 ∃ t11 : Value, Ld w (p9.add 1) (t11) ∧
 RunT prog .val (Instr.lookup 77 t11 (.int .i64 x1) true) w fun (v13 : Value) w1 =>
 ∃ t13a : ByteArray, ∃ t13b : Bool, v13 = (.tuple #[.string t13a, .bool t13b]) ∧
 IfB (!t13b)
 (RunT prog .slice (Instr.makeSlice 23 (.int .i64 256) (.int .i64 256)) w1 fun (t18 : Sl) w1_1 =>
 RunT prog .str (convert 23 9 (.slice t18.a t18.l t18.c)) w1_1 fun (t19 : ByteArray) w1_2 =>
 Q (.string t19) w1_2)
 (Q (.string t13a) w1)
def an37 : Ann := { cut := fun i => none, loop := fun i => [] }
theorem eq37 (x0 : Option Addr) (x1 : Int) (w : World) (Q : Value → World → Prop) : F37 x0 x1 w Q = vc prog an37 (Try.f37.body.getD .skip) (envOf [.pointer x0, .int .i64 x1]) w (retK prog Try.f37 Q) := by kernel_rfl
theorem ok37 : codeOk Try.f37.ntmps (Try.f37.body.getD .skip) = true := by kernel_rfl
theorem W37 {x0 : Option Addr} {x1 : Int} {w : World} {Q : Value → World → Prop} (h : F37 x0 x1 w Q) : Calls prog 37 #[.pointer x0, .int .i64 x1] w fun en w' => ∃ v, en = .returned v ∧ Q v w' :=
  calls_of_vc good follows an37 (args := [.pointer x0, .int .i64 x1]) Try.func37 (by kernel_rfl) ok37 (of_decide_eq_true (by kernel_rfl)) (Eq.mp (eq37 x0 x1 w Q) h)

/-- (*bastion/disk.Disk).Len -/
def F38 (x0 : Option Addr) (w : World) (Q : Value → World → Prop) : Prop :=
 ∃ b4 : Bool, BinIs prog .eql 31 (.tmp 3) (.const (.pointer none)) (.pointer x0) (.pointer none) b4 ∧
 IfB b4
 (Q (.int .i64 0) w)
 (∃ p6, x0 = some p6 ∧
 ∃ t8 : Sl, Ld w (p6.add 0) (.slice t8.a t8.l t8.c) ∧
 Q (.int .i64 ((t8.l : Nat) : Int)) w)
def an38 : Ann := { cut := fun i => none, loop := fun i => [] }
theorem eq38 (x0 : Option Addr) (w : World) (Q : Value → World → Prop) : F38 x0 w Q = vc prog an38 (Try.f38.body.getD .skip) (envOf [.pointer x0]) w (retK prog Try.f38 Q) := by kernel_rfl
theorem ok38 : codeOk Try.f38.ntmps (Try.f38.body.getD .skip) = true := by kernel_rfl
theorem W38 {x0 : Option Addr} {w : World} {Q : Value → World → Prop} (h : F38 x0 w Q) : Calls prog 38 #[.pointer x0] w fun en w' => ∃ v, en = .returned v ∧ Q v w' :=
  calls_of_vc good follows an38 (args := [.pointer x0]) Try.func38 (by kernel_rfl) ok38 (of_decide_eq_true (by kernel_rfl)) (Eq.mp (eq38 x0 w Q) h)

/-- bastion/journal.summer -/
def F39 (w : World) (Q : Value → World → Prop) : Prop :=
 ∀ b2 w1, NewB w (.cells #[.int .u64 0] 85) b2 w1 →
 Wr w1 (⟨b2, 0, none⟩ : Addr) ∧ ∀ w1_1, w1_1 = w1.setCell (⟨b2, 0, none⟩ : Addr) (.int .u64 14695981039346656037) →
 Q (.tuple #[.func (.func 41) #[] #[.pointer (some (⟨b2, 0, none⟩ : Addr))], .func (.func 42) #[] #[.pointer (some (⟨b2, 0, none⟩ : Addr))]]) w1_1
def an39 : Ann := { cut := fun i => none, loop := fun i => [] }
theorem eq39 (w : World) (Q : Value → World → Prop) : F39  w Q = vc prog an39 (Try.f39.body.getD .skip) (envOf []) w (retK prog Try.f39 Q) := by kernel_rfl
theorem ok39 : codeOk Try.f39.ntmps (Try.f39.body.getD .skip) = true := by kernel_rfl
theorem W39 {w : World} {Q : Value → World → Prop} (h : F39  w Q) : Calls prog 39 #[] w fun en w' => ∃ v, en = .returned v ∧ Q v w' :=
  calls_of_vc good follows an39 (args := []) Try.func39 (by kernel_rfl) ok39 (of_decide_eq_true (by kernel_rfl)) (Eq.mp (eq39  w Q) h)

/-- bytes.Equal -/
def F40 (x0 : Sl) (x1 : Sl) (w : World) (Q : Value → World → Prop) : Prop :=
 RunT prog .str (convert 23 9 (.slice x0.a x0.l x0.c)) w fun (t6 : ByteArray) w1 =>
 RunT prog .str (convert 23 9 (.slice x1.a x1.l x1.c)) w1 fun (t8 : ByteArray) w1_1 =>
 Q (.bool (t6.toList == t8.toList)) w1_1
def an40 : Ann := { cut := fun i => none, loop := fun i => [] }
theorem eq40 (x0 : Sl) (x1 : Sl) (w : World) (Q : Value → World → Prop) : F40 x0 x1 w Q = vc prog an40 (Try.f40.body.getD .skip) (envOf [.slice x0.a x0.l x0.c, .slice x1.a x1.l x1.c]) w (retK prog Try.f40 Q) := by kernel_rfl
theorem ok40 : codeOk Try.f40.ntmps (Try.f40.body.getD .skip) = true := by kernel_rfl
theorem W40 {x0 : Sl} {x1 : Sl} {w : World} {Q : Value → World → Prop} (h : F40 x0 x1 w Q) : Calls prog 40 #[.slice x0.a x0.l x0.c, .slice x1.a x1.l x1.c] w fun en w' => ∃ v, en = .returned v ∧ Q v w' :=
  calls_of_vc good follows an40 (args := [.slice x0.a x0.l x0.c, .slice x1.a x1.l x1.c]) Try.func40 (by kernel_rfl) ok40 (of_decide_eq_true (by kernel_rfl)) (Eq.mp (eq40 x0 x1 w Q) h)

/-- bastion/journal.summer$1 -/
def F41 (x0 : Sl) (x1 : Addr) (w : World) (Q : Value → World → Prop) : Prop :=
 ∃ (I : Nat → Int → World → Prop) (n0 : Nat), I n0 (0 : Int) w ∧
 ∀ (n : Nat) (u : Env) (x7 : Int) (w1 : World), I n x7 w1 →
 IfB (decide (x7 < ((x0.l : Nat) : Int)))
 (∃ p9, x0.a = some p9 ∧ 0 ≤ x7 ∧ x7 < ((x0.l : Nat) : Int) ∧
 ∃ t10 : Int, Ld w1 (p9.add ((x7).toNat * 1)) (.int .u8 t10) ∧
 ∃ t11 : Int, Ld w1 x1 (.int .u64 t11) ∧
 Wr w1 x1 ∧ ∀ w1_1, w1_1 = w1.setCell x1 (.int .u64 (IntKind.wrap .u64 ((bitsI .xor .u64 t11 (IntKind.wrap .u64 t10)) * (1099511628211 : Int)))) →
 ∃ n', n' < n ∧ I n' (IntKind.wrap .i64 (x7 + (1 : Int))) w1_1)
 (Q (.tuple #[]) w1)
def an41 : Ann := { cut := fun i => none, loop := fun i => bif Nat.beq i 1 then [(7, .int .i64)] else [] }
theorem eq41 (x0 : Sl) (x1 : Addr) (w : World) (Q : Value → World → Prop) : F41 x0 x1 w Q = vc prog an41 (Try.f41.body.getD .skip) (envOf [.slice x0.a x0.l x0.c, .pointer (some x1)]) w (retK prog Try.f41 Q) := by kernel_rfl
theorem ok41 : codeOk Try.f41.ntmps (Try.f41.body.getD .skip) = true := by kernel_rfl
theorem W41 {x0 : Sl} {x1 : Addr} {w : World} {Q : Value → World → Prop} (h : F41 x0 x1 w Q) : Calls prog 41 #[.slice x0.a x0.l x0.c, .pointer (some x1)] w fun en w' => ∃ v, en = .returned v ∧ Q v w' :=
  calls_of_vc good follows an41 (args := [.slice x0.a x0.l x0.c, .pointer (some x1)]) Try.func41 (by kernel_rfl) ok41 (of_decide_eq_true (by kernel_rfl)) (Eq.mp (eq41 x0 x1 w Q) h)

/-- bastion/journal.summer$2 -/
def F42 (x0 : Addr) (w : World) (Q : Value → World → Prop) : Prop :=
 ∃ t2 : Int, Ld w x0 (.int .u64 t2) ∧
 Q (.int .u64 t2) w
def an42 : Ann := { cut := fun i => none, loop := fun i => [] }
theorem eq42 (x0 : Addr) (w : World) (Q : Value → World → Prop) : F42 x0 w Q = vc prog an42 (Try.f42.body.getD .skip) (envOf [.pointer (some x0)]) w (retK prog Try.f42 Q) := by kernel_rfl
theorem ok42 : codeOk Try.f42.ntmps (Try.f42.body.getD .skip) = true := by kernel_rfl
theorem W42 {x0 : Addr} {w : World} {Q : Value → World → Prop} (h : F42 x0 w Q) : Calls prog 42 #[.pointer (some x0)] w fun en w' => ∃ v, en = .returned v ∧ Q v w' :=
  calls_of_vc good follows an42 (args := [.pointer (some x0)]) Try.func42 (by kernel_rfl) ok42 (of_decide_eq_true (by kernel_rfl)) (Eq.mp (eq42 x0 w Q) h)
end Go.Proofs.Ytlbipbepeeopaaa

/-  YtcnjopheoeeggaaF: weakest preconditions of functions, by wip/gen/gen.py; each is held against the machine's code by the kernel. -/
import Derived.Test.YtcnjopheoeeggaaV
import Derived.Test.YtcnjopheoeeggaaProg
import Derived.Test.YtcnjopheoeeggaaGood
import Derived.KernelRfl
set_option linter.unusedVariables false
set_option maxRecDepth 1000000
namespace Go.Proofs.Ytcnjopheoeeggaa
open Go Go.Proofs.YtcnjopheoeeggaaV

/-- bastion/bastionlaw21.MaskHides -/
def F3 (x0 : Sl) (x1 : ByteArray) (w : World) (Q : Value → World → Prop) : Prop :=
 ∃ J : Bool → World → Prop, (Calls prog 7 #[] w fun en w1 =>
 ∃ t9 : Bool, en = .returned (.bool t9) ∧
 IfB (!t9)
 (J true w1)
 (Calls prog 8 #[.slice x0.a x0.l x0.c, .int .i64 500] w1 fun en w1_1 =>
 ∃ t13 : Bool, en = .returned (.bool t13) ∧
 IfB t13
 (J true w1_1)
 (J (decide (((x1.size : Nat) : Int) > (1000 : Int))) w1_1))) ∧
 (∀ (u : Env) (x19 : Bool) (w1 : World), J x19 w1 →
 IfB x19
 (Calls prog 7 #[] w1 fun en w1_1 =>
 ∃ t20 : Bool, en = .returned (.bool t20) ∧
 Q (.bool t20) w1_1)
 (Calls prog 9 #[.slice x0.a x0.l x0.c, .string x1] w1 fun en w1_1 =>
 ∃ t24a : ByteArray, ∃ t24b : Int, en = .returned (.tuple #[.string t24a, .int .i64 t24b]) ∧
 IfB (t24b != (0 : Int))
 (Q (.bool (t24a.toList == (⟨#[]⟩ : ByteArray).toList)) w1_1)
 (∃ (I : Nat → Bool → Int → World → Prop) (n0 : Nat), I n0 false (0 : Int) w1_1 ∧
 ∀ (n : Nat) (u_1 : Env) (x7 : Bool) (x8 : Int) (w1_2 : World), I n x7 x8 w1_2 →
 IfB (decide (x8 < ((x0.l : Nat) : Int)))
 (IfB x7
 (∃ n', n' < n ∧ I n' true (IntKind.wrap .i64 (x8 + (1 : Int))) w1_2)
 (∃ p42, x0.a = some p42 ∧ 0 ≤ x8 ∧ x8 < ((x0.l : Nat) : Int) ∧
 ∃ t43 : ByteArray, Ld w1_2 (p42.add ((x8).toNat * 1)) (.string t43) ∧
 Calls prog 10 #[.string x1, .string t43] w1_2 fun en w1_3 =>
 ∃ t44 : Bool, en = .returned (.bool t44) ∧
 ∃ n', n' < n ∧ I n' t44 (IntKind.wrap .i64 (x8 + (1 : Int))) w1_3))
 (IfB (!x7)
 (IfB (!(t24a.toList == x1.toList))
 (Q (.bool false) w1_2)
 (IfB (((x0.l : Nat) : Int) != (1 : Int))
 (Q (.bool true) w1_2)
 (∃ p58, x0.a = some p58 ∧ 0 ≤ (0 : Int) ∧ (0 : Int) < ((x0.l : Nat) : Int) ∧
 ∃ t59 : ByteArray, Ld w1_2 (p58.add (0 * 1)) (.string t59) ∧
 Calls prog 10 #[.string t59, .string (⟨#[42]⟩ : ByteArray)] w1_2 fun en w1_3 =>
 ∃ t60 : Bool, en = .returned (.bool t60) ∧
 IfB t60
 (Q (.bool true) w1_3)
 (∃ p65, x0.a = some p65 ∧ 0 ≤ (0 : Int) ∧ (0 : Int) < ((x0.l : Nat) : Int) ∧
 ∃ t66 : ByteArray, Ld w1_3 (p65.add (0 * 1)) (.string t66) ∧
 Calls prog 10 #[.string t24a, .string t66] w1_3 fun en w1_4 =>
 ∃ t67 : Bool, en = .returned (.bool t67) ∧
 Q (.bool (!t67)) w1_4))))
 (IfB (((x0.l : Nat) : Int) != (1 : Int))
 (Q (.bool true) w1_2)
 (∃ p58, x0.a = some p58 ∧ 0 ≤ (0 : Int) ∧ (0 : Int) < ((x0.l : Nat) : Int) ∧
 ∃ t59 : ByteArray, Ld w1_2 (p58.add (0 * 1)) (.string t59) ∧
 Calls prog 10 #[.string t59, .string (⟨#[42]⟩ : ByteArray)] w1_2 fun en w1_3 =>
 ∃ t60 : Bool, en = .returned (.bool t60) ∧
 IfB t60
 (Q (.bool true) w1_3)
 (∃ p65, x0.a = some p65 ∧ 0 ≤ (0 : Int) ∧ (0 : Int) < ((x0.l : Nat) : Int) ∧
 ∃ t66 : ByteArray, Ld w1_3 (p65.add (0 * 1)) (.string t66) ∧
 Calls prog 10 #[.string t24a, .string t66] w1_3 fun en w1_4 =>
 ∃ t67 : Bool, en = .returned (.bool t67) ∧
 Q (.bool (!t67)) w1_4)))))))
def an3 : Ann := { cut := fun i => bif Nat.beq i 2 then some [(19, .bool)] else none, loop := fun i => bif Nat.beq i 8 then [(7, .bool), (8, .int .i64)] else [] }
theorem eq3 (x0 : Sl) (x1 : ByteArray) (w : World) (Q : Value → World → Prop) : F3 x0 x1 w Q = vc prog an3 (Try.f3.body.getD .skip) (envOf [.slice x0.a x0.l x0.c, .string x1]) w (retK prog Try.f3 Q) := by kernel_rfl
theorem ok3 : codeOk Try.f3.ntmps (Try.f3.body.getD .skip) = true := by kernel_rfl
theorem W3 {x0 : Sl} {x1 : ByteArray} {w : World} {Q : Value → World → Prop} (h : F3 x0 x1 w Q) : Calls prog 3 #[.slice x0.a x0.l x0.c, .string x1] w fun en w' => ∃ v, en = .returned v ∧ Q v w' :=
  calls_of_vc good follows an3 (args := [.slice x0.a x0.l x0.c, .string x1]) Try.func3 (by kernel_rfl) ok3 (of_decide_eq_true (by kernel_rfl)) (Eq.mp (eq3 x0 x1 w Q) h)

/-- bastion/bastionlaw21.MaskNames -/
def F4 (w : World) (Q : Value → World → Prop) : Prop :=
 Calls prog 7 #[] w fun en w1 =>
 ∃ t29 : Bool, en = .returned (.bool t29) ∧
 IfB (!t29)
 (Q (.bool false) w1)
 (RunT prog .slice (Instr.makeSlice 30 (.int .i64 65) (.int .i64 65)) w1 fun (t41 : Sl) w1_1 =>
 RunT prog .str (convert 30 9 (.slice t41.a t41.l t41.c)) w1_1 fun (t42 : ByteArray) w1_2 =>
 RunT prog .slice (Instr.buildSlice 22 6 #[(0, .string (⟨#[97]⟩ : ByteArray)), (1, .string (⟨#[98]⟩ : ByteArray)), (2, .string (⟨#[99]⟩ : ByteArray)), (3, .string (⟨#[100]⟩ : ByteArray)), (4, .string (⟨#[101]⟩ : ByteArray)), (5, .string (⟨#[102]⟩ : ByteArray))]) w1_2 fun (t43 : Sl) w1_3 =>
 RunT prog .slice (Instr.buildSlice 22 1 #[(0, .string (⟨#[103]⟩ : ByteArray))]) w1_3 fun (t46 : Sl) w1_4 =>
 RunT prog .slice (Builtin.append_ #[22, 22] 22 #[.slice t43.a t43.l t43.c, .slice t46.a t46.l t46.c]) w1_4 fun (t47 : Sl) w1_5 =>
 Calls prog 11 #[.slice t47.a t47.l t47.c] w1_5 fun en w1_6 =>
 ∃ t48a : Option Addr, ∃ t48b : Int, en = .returned (.tuple #[.pointer t48a, .int .i64 t48b]) ∧
 Calls prog 11 #[.slice t43.a t43.l t43.c] w1_6 fun en w1_7 =>
 ∃ t53a : Option Addr, ∃ t53b : Int, en = .returned (.tuple #[.pointer t53a, .int .i64 t53b]) ∧
 RunT prog .slice (Instr.buildSlice 22 1 #[(0, .string t42)]) w1_7 fun (t58 : Sl) w1_8 =>
 Calls prog 11 #[.slice t58.a t58.l t58.c] w1_8 fun en w1_9 =>
 ∃ t59a : Option Addr, ∃ t59b : Int, en = .returned (.tuple #[.pointer t59a, .int .i64 t59b]) ∧
 (0 ≤ (1 : Int) ∧ (1 : Int) ≤ ((t42.size : Nat) : Int)) ∧
 RunT prog .slice (Instr.buildSlice 22 1 #[(0, .string (t42.extract 1 t42.size))]) w1_9 fun (t65 : Sl) w1_10 =>
 Calls prog 11 #[.slice t65.a t65.l t65.c] w1_10 fun en w1_11 =>
 ∃ t66a : Option Addr, ∃ t66b : Int, en = .returned (.tuple #[.pointer t66a, .int .i64 t66b]) ∧
 RunT prog .slice (Instr.buildSlice 22 1 #[(0, .string (⟨#[]⟩ : ByteArray))]) w1_11 fun (t70 : Sl) w1_12 =>
 Calls prog 11 #[.slice t70.a t70.l t70.c] w1_12 fun en w1_13 =>
 ∃ t71a : Option Addr, ∃ t71b : Int, en = .returned (.tuple #[.pointer t71a, .int .i64 t71b]) ∧
 RunT prog .slice (Instr.buildSlice 22 1 #[(0, .string (⟨#[]⟩ : ByteArray))]) w1_13 fun (t75 : Sl) w1_14 =>
 Calls prog 9 #[.slice t75.a t75.l t75.c, .string (⟨#[120]⟩ : ByteArray)] w1_14 fun en w1_15 =>
 ∃ t76a : ByteArray, ∃ t76b : Int, en = .returned (.tuple #[.string t76a, .int .i64 t76b]) ∧
 Calls prog 9 #[.slice none 0 0, .string (⟨#[120]⟩ : ByteArray)] w1_15 fun en w1_16 =>
 ∃ t80a : ByteArray, ∃ t80b : Int, en = .returned (.tuple #[.string t80a, .int .i64 t80b]) ∧
 RunT prog .slice (Instr.buildSlice 22 3 #[(0, .string (⟨#[97, 98]⟩ : ByteArray)), (1, .string (⟨#[97, 98, 99]⟩ : ByteArray)), (2, .string (⟨#[98]⟩ : ByteArray))]) w1_16 fun (t84 : Sl) w1_17 =>
 Calls prog 11 #[.slice t84.a t84.l t84.c] w1_17 fun en w1_18 =>
 ∃ t85a : Option Addr, ∃ t85b : Int, en = .returned (.tuple #[.pointer t85a, .int .i64 t85b]) ∧
 Calls prog 12 #[.pointer t85a, .string (⟨#[97, 98, 99]⟩ : ByteArray)] w1_18 fun en w1_19 =>
 ∃ t90a : ByteArray, ∃ t90b : Int, en = .returned (.tuple #[.string t90a, .int .i64 t90b]) ∧
 Calls prog 12 #[.pointer t85a, .string (⟨#[98]⟩ : ByteArray)] w1_19 fun en w1_20 =>
 ∃ t95a : ByteArray, ∃ t95b : Int, en = .returned (.tuple #[.string t95a, .int .i64 t95b]) ∧
 Calls prog 13 #[.pointer t85a] w1_20 fun en w1_21 =>
 ∃ t99 : Int, en = .returned (.int .i64 t99) ∧
 Calls prog 12 #[.pointer none, .string (⟨#[120]⟩ : ByteArray)] w1_21 fun en w1_22 =>
 ∃ t102a : ByteArray, ∃ t102b : Int, en = .returned (.tuple #[.string t102a, .int .i64 t102b]) ∧
 Calls prog 14 #[.pointer none] w1_22 fun en w1_23 =>
 ∃ t107a : ByteArray, ∃ t107b : Int, en = .returned (.tuple #[.string t107a, .int .i64 t107b]) ∧
 IfB (t48b == (3 : Int))
 (IfB (t53b == (0 : Int))
 (IfB (t59b == (1 : Int))
 (IfB (t66b == (0 : Int))
 (IfB (t71b == (1 : Int))
 (IfB (t76b == (1 : Int))
 (IfB (t80a.toList == (⟨#[120]⟩ : ByteArray).toList)
 (IfB (t80b == (0 : Int))
 (IfB (t90a.toList == (⟨#[42, 42, 42]⟩ : ByteArray).toList)
 (IfB (t95a.toList == (⟨#[42, 42, 42]⟩ : ByteArray).toList)
 (IfB (t99 == (0 : Int))
 (IfB (t102b == (2 : Int))
 (IfB (t107b == (2 : Int))
 (Calls prog 13 #[.pointer none] w1_23 fun en w1_24 =>
 ∃ t162 : Int, en = .returned (.int .i64 t162) ∧
 Q (.bool (t162 == (0 : Int))) w1_24)
 (Q (.bool false) w1_23))
 (Q (.bool false) w1_23))
 (Q (.bool false) w1_23))
 (Q (.bool false) w1_23))
 (Q (.bool false) w1_23))
 (Q (.bool false) w1_23))
 (Q (.bool false) w1_23))
 (Q (.bool false) w1_23))
 (Q (.bool false) w1_23))
 (Q (.bool false) w1_23))
 (Q (.bool false) w1_23))
 (Q (.bool false) w1_23))
 (Q (.bool false) w1_23))
def an4 : Ann := { cut := fun i => none, loop := fun i => [] }
theorem eq4 (w : World) (Q : Value → World → Prop) : F4  w Q = vc prog an4 (Try.f4.body.getD .skip) (envOf []) w (retK prog Try.f4 Q) := by kernel_rfl
theorem ok4 : codeOk Try.f4.ntmps (Try.f4.body.getD .skip) = true := by kernel_rfl
theorem W4 {w : World} {Q : Value → World → Prop} (h : F4  w Q) : Calls prog 4 #[] w fun en w' => ∃ v, en = .returned v ∧ Q v w' :=
  calls_of_vc good follows an4 (args := []) Try.func4 (by kernel_rfl) ok4 (of_decide_eq_true (by kernel_rfl)) (Eq.mp (eq4  w Q) h)

/-- bastion/bastionlaw21.MaskWrites -/
def F5 (x0 : Sl) (x1 : Sl) (w : World) (Q : Value → World → Prop) : Prop :=
 ∃ J : Bool → World → Prop, (Calls prog 8 #[.slice x0.a x0.l x0.c, .int .i64 2000] w fun en w1 =>
 ∃ t28 : Bool, en = .returned (.bool t28) ∧
 IfB t28
 (J true w1)
 (Calls prog 8 #[.slice x1.a x1.l x1.c, .int .i64 2000] w1 fun en w1_1 =>
 ∃ t31 : Bool, en = .returned (.bool t31) ∧
 J t31 w1_1)) ∧
 (∀ (u : Env) (x32 : Bool) (w1 : World), J x32 w1 →
 IfB x32
 (Q (.bool true) w1)
 (RunT prog .slice (Instr.buildSlice 22 0 #[]) w1 fun (t33 : Sl) w1_1 =>
 RunT prog .slice (Builtin.append_ #[22, 22] 22 #[.slice t33.a t33.l t33.c, .slice x0.a x0.l x0.c]) w1_1 fun (t35 : Sl) w1_2 =>
 Calls prog 11 #[.slice t35.a t35.l t35.c] w1_2 fun en w1_3 =>
 ∃ t38a : Option Addr, ∃ t38b : Int, en = .returned (.tuple #[.pointer t38a, .int .i64 t38b]) ∧
 Calls prog 15 #[.slice x0.a x0.l x0.c] w1_3 fun en w1_4 =>
 ∃ t42 : Int, en = .returned (.int .i64 t42) ∧
 ∃ J_1 : Bool → World → Prop, (IfB (t38b != t42)
 (J_1 true w1_4)
 (∃ b48 : Bool, BinIs prog .eql 31 (.tmp 47) (.const (.pointer none)) (.pointer t38a) (.pointer none) b48 ∧
 ∃ b51 : Bool, BinIs prog .neq 4 (.tmp 48) (.tmp 50) (.bool b48) (.bool (t42 != (0 : Int))) b51 ∧
 J_1 b51 w1_4)) ∧
 (∀ (u_1 : Env) (x52 : Bool) (w1_5 : World), J_1 x52 w1_5 →
 IfB x52
 (Q (.bool false) w1_5)
 (∃ (I : Nat → Int → World → Prop) (n0 : Nat), I n0 (0 : Int) w1_5 ∧
 ∀ (n : Nat) (u_2 : Env) (x11 : Int) (w1_6 : World), I n x11 w1_6 →
 IfB (decide (x11 < ((t35.l : Nat) : Int)))
 (∃ p61, t35.a = some p61 ∧ 0 ≤ x11 ∧ x11 < ((t35.l : Nat) : Int) ∧
 Wr w1_6 (p61.add ((x11).toNat * 1)) ∧ ∀ w1_7, w1_7 = w1_6.setCell (p61.add ((x11).toNat * 1)) (.string (⟨#[122, 122]⟩ : ByteArray)) →
 ∃ n', n' < n ∧ I n' (IntKind.wrap .i64 (x11 + (1 : Int))) w1_7)
 (∃ (I_1 : Nat → ByteArray → ByteArray → Int → World → Prop) (n0_1 : Nat), I_1 n0_1 (⟨#[]⟩ : ByteArray) (⟨#[]⟩ : ByteArray) (0 : Int) w1_6 ∧
 ∀ (n_1 : Nat) (u_3 : Env) (x9 : ByteArray) (x10 : ByteArray) (x12 : Int) (w1_7 : World), I_1 n_1 x9 x10 x12 w1_7 →
 IfB (decide (x12 < ((x1.l : Nat) : Int)))
 (∃ p71, x1.a = some p71 ∧ 0 ≤ x12 ∧ x12 < ((x1.l : Nat) : Int) ∧
 ∃ t72 : ByteArray, Ld w1_7 (p71.add ((x12).toNat * 1)) (.string t72) ∧
 x9.size + t72.size ≤ 9223372036854775807 ∧
 IfB (t42 != (0 : Int))
 (∃ n', n' < n_1 ∧ I_1 n' (x9 ++ t72) x10 (IntKind.wrap .i64 (x12 + (1 : Int))) w1_7)
 (∃ p80, x1.a = some p80 ∧ 0 ≤ x12 ∧ x12 < ((x1.l : Nat) : Int) ∧
 ∃ t81 : ByteArray, Ld w1_7 (p80.add ((x12).toNat * 1)) (.string t81) ∧
 Calls prog 12 #[.pointer t38a, .string t81] w1_7 fun en w1_8 =>
 ∃ t82a : ByteArray, ∃ t82b : Int, en = .returned (.tuple #[.string t82a, .int .i64 t82b]) ∧
 x10.size + t82a.size ≤ 9223372036854775807 ∧
 Calls prog 16 #[.slice x0.a x0.l x0.c, .string (x9 ++ t72), .bool false] w1_8 fun en w1_9 =>
 ∃ t91a : ByteArray, ∃ t91b : Int, en = .returned (.tuple #[.string t91a, .int .i64 t91b]) ∧
 IfB (t82b != (0 : Int))
 (Q (.bool false) w1_9)
 (IfB (!((x10 ++ t82a).toList == t91a.toList))
 (Q (.bool false) w1_9)
 (Calls prog 13 #[.pointer t38a] w1_9 fun en w1_10 =>
 ∃ t103 : Int, en = .returned (.int .i64 t103) ∧
 IfB (t103 != t91b)
 (Q (.bool false) w1_10)
 (∃ n', n' < n_1 ∧ I_1 n' (x9 ++ t72) (x10 ++ t82a) (IntKind.wrap .i64 (x12 + (1 : Int))) w1_10)))))
 (Calls prog 9 #[.slice x0.a x0.l x0.c, .string x9] w1_7 fun en w1_8 =>
 ∃ t110a : ByteArray, ∃ t110b : Int, en = .returned (.tuple #[.string t110a, .int .i64 t110b]) ∧
 IfB (t42 != (0 : Int))
 (IfB (t110b == t42)
 (Q (.bool (t110a.toList == (⟨#[]⟩ : ByteArray).toList)) w1_8)
 (Q (.bool false) w1_8))
 (Calls prog 14 #[.pointer t38a] w1_8 fun en w1_9 =>
 ∃ t124a : ByteArray, ∃ t124b : Int, en = .returned (.tuple #[.string t124a, .int .i64 t124b]) ∧
 Calls prog 16 #[.slice x0.a x0.l x0.c, .string x9, .bool true] w1_9 fun en w1_10 =>
 ∃ t130a : ByteArray, ∃ t130b : Int, en = .returned (.tuple #[.string t130a, .int .i64 t130b]) ∧
 Calls prog 14 #[.pointer t38a] w1_10 fun en w1_11 =>
 ∃ t135a : ByteArray, ∃ t135b : Int, en = .returned (.tuple #[.string t135a, .int .i64 t135b]) ∧
 Calls prog 12 #[.pointer t38a, .string (⟨#[97]⟩ : ByteArray)] w1_11 fun en w1_12 =>
 ∃ t140a : ByteArray, ∃ t140b : Int, en = .returned (.tuple #[.string t140a, .int .i64 t140b]) ∧
 IfB (t124b == (0 : Int))
 (x10.size + t124a.size ≤ 9223372036854775807 ∧
 IfB ((x10 ++ t124a).toList == t130a.toList)
 (Calls prog 13 #[.pointer t38a] w1_12 fun en w1_13 =>
 ∃ t154 : Int, en = .returned (.int .i64 t154) ∧
 IfB (t154 == (0 : Int))
 (IfB (t135b == (50 : Int))
 (IfB (t140b == (50 : Int))
 (IfB (t110b == (0 : Int))
 (Q (.bool (t110a.toList == t130a.toList)) w1_13)
 (Q (.bool false) w1_13))
 (Q (.bool false) w1_13))
 (Q (.bool false) w1_13))
 (Q (.bool false) w1_13))
 (Q (.bool false) w1_12))
 (Q (.bool false) w1_12))))))))
def an5 : Ann := { cut := fun i => bif Nat.beq i 2 then some [(32, .bool)] else bif Nat.beq i 7 then some [(52, .bool)] else none, loop := fun i => bif Nat.beq i 11 then [(11, .int .i64)] else bif Nat.beq i 15 then [(9, .str), (10, .str), (12, .int .i64)] else [] }
theorem eq5 (x0 : Sl) (x1 : Sl) (w : World) (Q : Value → World → Prop) : F5 x0 x1 w Q = vc prog an5 (Try.f5.body.getD .skip) (envOf [.slice x0.a x0.l x0.c, .slice x1.a x1.l x1.c]) w (retK prog Try.f5 Q) := by kernel_rfl
theorem ok5 : codeOk Try.f5.ntmps (Try.f5.body.getD .skip) = true := by kernel_rfl
theorem W5 {x0 : Sl} {x1 : Sl} {w : World} {Q : Value → World → Prop} (h : F5 x0 x1 w Q) : Calls prog 5 #[.slice x0.a x0.l x0.c, .slice x1.a x1.l x1.c] w fun en w' => ∃ v, en = .returned v ∧ Q v w' :=
  calls_of_vc good follows an5 (args := [.slice x0.a x0.l x0.c, .slice x1.a x1.l x1.c]) Try.func5 (by kernel_rfl) ok5 (of_decide_eq_true (by kernel_rfl)) (Eq.mp (eq5 x0 x1 w Q) h)

/-- bastion/bastionlaw21.MaskCuts -/
def F6 (x0 : Sl) (x1 : ByteArray) (x2 : Sl) (w : World) (Q : Value → World → Prop) : Prop :=
 ∃ J : Bool → World → Prop, (Calls prog 7 #[] w fun en w1 =>
 ∃ t20 : Bool, en = .returned (.bool t20) ∧
 IfB (!t20)
 (J true w1)
 (Calls prog 8 #[.slice x0.a x0.l x0.c, .int .i64 2000] w1 fun en w1_1 =>
 ∃ t24 : Bool, en = .returned (.bool t24) ∧
 IfB t24
 (J true w1_1)
 (IfB (decide (((x1.size : Nat) : Int) > (2000 : Int)))
 (J true w1_1)
 (J (decide (((x2.l : Nat) : Int) > (200 : Int))) w1_1)))) ∧
 (∀ (u : Env) (x35 : Bool) (w1 : World), J x35 w1 →
 IfB x35
 (Calls prog 7 #[] w1 fun en w1_1 =>
 ∃ t36 : Bool, en = .returned (.bool t36) ∧
 Q (.bool t36) w1_1)
 (Calls prog 9 #[.slice x0.a x0.l x0.c, .string x1] w1 fun en w1_1 =>
 ∃ t40a : ByteArray, ∃ t40b : Int, en = .returned (.tuple #[.string t40a, .int .i64 t40b]) ∧
 Calls prog 11 #[.slice x0.a x0.l x0.c] w1_1 fun en w1_2 =>
 ∃ t45a : Option Addr, ∃ t45b : Int, en = .returned (.tuple #[.pointer t45a, .int .i64 t45b]) ∧
 ∃ J_1 : Bool → World → Prop, (IfB (t40b != t45b)
 (J_1 true w1_2)
 (J_1 (t40b != (0 : Int)) w1_2)) ∧
 (∀ (u_1 : Env) (x54 : Bool) (w1_3 : World), J_1 x54 w1_3 →
 IfB x54
 (IfB (t40b == t45b)
 (∃ b60 : Bool, BinIs prog .eql 31 (.tmp 59) (.const (.pointer none)) (.pointer t45a) (.pointer none) b60 ∧
 Q (.bool b60) w1_3)
 (Q (.bool false) w1_3))
 (∃ (I : Nat → Int → Int → World → Prop) (n0 : Nat), I n0 (0 : Int) (0 : Int) w1_3 ∧
 ∀ (n : Nat) (u_2 : Env) (x11 : Int) (x12 : Int) (w1_4 : World), I n x11 x12 w1_4 →
 IfB (decide (x12 < ((x0.l : Nat) : Int)))
 (∃ p71, x0.a = some p71 ∧ 0 ≤ x12 ∧ x12 < ((x0.l : Nat) : Int) ∧
 ∃ t72 : ByteArray, Ld w1_4 (p71.add ((x12).toNat * 1)) (.string t72) ∧
 ∃ n', n' < n ∧ I n' (if ((t72.size : Nat) : Int) > x11 then ((t72.size : Nat) : Int) else x11) (IntKind.wrap .i64 (x12 + (1 : Int))) w1_4)
 (∃ (I_1 : Nat → ByteArray → ByteArray → Int → World → Prop) (n0_1 : Nat), I_1 n0_1 x1 (⟨#[]⟩ : ByteArray) (0 : Int) w1_4 ∧
 ∀ (n_1 : Nat) (u_3 : Env) (x1_1 : ByteArray) (x13 : ByteArray) (x14 : Int) (w1_5 : World), I_1 n_1 x1_1 x13 x14 w1_5 →
 IfB (decide (x14 ≤ ((x2.l : Nat) : Int)))
 (IfB (decide (x14 < ((x2.l : Nat) : Int)))
 (∃ p89, x2.a = some p89 ∧ 0 ≤ x14 ∧ x14 < ((x2.l : Nat) : Int) ∧
 ∃ t90 : Int, Ld w1_5 (p89.add ((x14).toNat * 1)) (.int .i64 t90) ∧
 IntKind.wrap .u64 (IntKind.wrap .i64 (((x1_1.size : Nat) : Int) + (1 : Int))) ≠ 0 ∧
 (0 ≤ IntKind.wrap .i64 (Int.tmod (IntKind.wrap .u64 t90) (IntKind.wrap .u64 (IntKind.wrap .i64 (((x1_1.size : Nat) : Int) + (1 : Int))))) ∧ IntKind.wrap .i64 (Int.tmod (IntKind.wrap .u64 t90) (IntKind.wrap .u64 (IntKind.wrap .i64 (((x1_1.size : Nat) : Int) + (1 : Int))))) ≤ ((x1_1.size : Nat) : Int)) ∧
 Calls prog 12 #[.pointer t45a, .string (x1_1.extract 0 ((IntKind.wrap .i64 (Int.tmod (IntKind.wrap .u64 t90) (IntKind.wrap .u64 (IntKind.wrap .i64 (((x1_1.size : Nat) : Int) + (1 : Int)))))).toNat))] w1_5 fun en w1_6 =>
 ∃ t103a : ByteArray, ∃ t103b : Int, en = .returned (.tuple #[.string t103a, .int .i64 t103b]) ∧
 (0 ≤ IntKind.wrap .i64 (Int.tmod (IntKind.wrap .u64 t90) (IntKind.wrap .u64 (IntKind.wrap .i64 (((x1_1.size : Nat) : Int) + (1 : Int))))) ∧ IntKind.wrap .i64 (Int.tmod (IntKind.wrap .u64 t90) (IntKind.wrap .u64 (IntKind.wrap .i64 (((x1_1.size : Nat) : Int) + (1 : Int))))) ≤ ((x1_1.size : Nat) : Int)) ∧
 x13.size + t103a.size ≤ 9223372036854775807 ∧
 IfB (t103b != (0 : Int))
 (Q (.bool false) w1_6)
 (Calls prog 13 #[.pointer t45a] w1_6 fun en w1_7 =>
 ∃ t116 : Int, en = .returned (.int .i64 t116) ∧
 IfB (decide (t116 > (0 : Int)))
 (Calls prog 13 #[.pointer t45a] w1_7 fun en w1_8 =>
 ∃ t120 : Int, en = .returned (.int .i64 t120) ∧
 IfB (decide (t120 ≥ x11))
 (Q (.bool false) w1_8)
 (∃ n', n' < n_1 ∧ I_1 n' (x1_1.extract ((IntKind.wrap .i64 (Int.tmod (IntKind.wrap .u64 t90) (IntKind.wrap .u64 (IntKind.wrap .i64 (((x1_1.size : Nat) : Int) + (1 : Int)))))).toNat) x1_1.size) (x13 ++ t103a) (IntKind.wrap .i64 (x14 + (1 : Int))) w1_8))
 (∃ n', n' < n_1 ∧ I_1 n' (x1_1.extract ((IntKind.wrap .i64 (Int.tmod (IntKind.wrap .u64 t90) (IntKind.wrap .u64 (IntKind.wrap .i64 (((x1_1.size : Nat) : Int) + (1 : Int)))))).toNat) x1_1.size) (x13 ++ t103a) (IntKind.wrap .i64 (x14 + (1 : Int))) w1_7)))
 ((0 ≤ ((x1_1.size : Nat) : Int) ∧ ((x1_1.size : Nat) : Int) ≤ ((x1_1.size : Nat) : Int)) ∧
 Calls prog 12 #[.pointer t45a, .string (x1_1.extract 0 ((((x1_1.size : Nat) : Int)).toNat))] w1_5 fun en w1_6 =>
 ∃ t103a : ByteArray, ∃ t103b : Int, en = .returned (.tuple #[.string t103a, .int .i64 t103b]) ∧
 (0 ≤ ((x1_1.size : Nat) : Int) ∧ ((x1_1.size : Nat) : Int) ≤ ((x1_1.size : Nat) : Int)) ∧
 x13.size + t103a.size ≤ 9223372036854775807 ∧
 IfB (t103b != (0 : Int))
 (Q (.bool false) w1_6)
 (Calls prog 13 #[.pointer t45a] w1_6 fun en w1_7 =>
 ∃ t116 : Int, en = .returned (.int .i64 t116) ∧
 IfB (decide (t116 > (0 : Int)))
 (Calls prog 13 #[.pointer t45a] w1_7 fun en w1_8 =>
 ∃ t120 : Int, en = .returned (.int .i64 t120) ∧
 IfB (decide (t120 ≥ x11))
 (Q (.bool false) w1_8)
 (∃ n', n' < n_1 ∧ I_1 n' (x1_1.extract ((((x1_1.size : Nat) : Int)).toNat) x1_1.size) (x13 ++ t103a) (IntKind.wrap .i64 (x14 + (1 : Int))) w1_8))
 (∃ n', n' < n_1 ∧ I_1 n' (x1_1.extract ((((x1_1.size : Nat) : Int)).toNat) x1_1.size) (x13 ++ t103a) (IntKind.wrap .i64 (x14 + (1 : Int))) w1_7))))
 (Calls prog 14 #[.pointer t45a] w1_5 fun en w1_6 =>
 ∃ t127a : ByteArray, ∃ t127b : Int, en = .returned (.tuple #[.string t127a, .int .i64 t127b]) ∧
 IfB (t127b == (0 : Int))
 (x13.size + t127a.size ≤ 9223372036854775807 ∧
 Q (.bool ((x13 ++ t127a).toList == t40a.toList)) w1_6)
 (Q (.bool false) w1_6)))))))
def an6 : Ann := { cut := fun i => bif Nat.beq i 2 then some [(35, .bool)] else bif Nat.beq i 6 then some [(54, .bool)] else none, loop := fun i => bif Nat.beq i 9 then [(11, .int .i64), (12, .int .i64)] else bif Nat.beq i 14 then [(1, .str), (13, .str), (14, .int .i64)] else [] }
theorem eq6 (x0 : Sl) (x1 : ByteArray) (x2 : Sl) (w : World) (Q : Value → World → Prop) : F6 x0 x1 x2 w Q = vc prog an6 (Try.f6.body.getD .skip) (envOf [.slice x0.a x0.l x0.c, .string x1, .slice x2.a x2.l x2.c]) w (retK prog Try.f6 Q) := by kernel_rfl
theorem ok6 : codeOk Try.f6.ntmps (Try.f6.body.getD .skip) = true := by kernel_rfl
theorem W6 {x0 : Sl} {x1 : ByteArray} {x2 : Sl} {w : World} {Q : Value → World → Prop} (h : F6 x0 x1 x2 w Q) : Calls prog 6 #[.slice x0.a x0.l x0.c, .string x1, .slice x2.a x2.l x2.c] w fun en w' => ∃ v, en = .returned v ∧ Q v w' :=
  calls_of_vc good follows an6 (args := [.slice x0.a x0.l x0.c, .string x1, .slice x2.a x2.l x2.c]) Try.func6 (by kernel_rfl) ok6 (of_decide_eq_true (by kernel_rfl)) (Eq.mp (eq6 x0 x1 x2 w Q) h)

/-- bastion/bastionlaw21.works -/
def F7 (w : World) (Q : Value → World → Prop) : Prop :=
 RunT prog .slice (Instr.buildSlice 22 3 #[(0, .string (⟨#[97, 98]⟩ : ByteArray)), (1, .string (⟨#[97, 98, 99]⟩ : ByteArray)), (2, .string (⟨#[98]⟩ : ByteArray))]) w fun (t14 : Sl) w1 =>
 Calls prog 11 #[.slice t14.a t14.l t14.c] w1 fun en w1_1 =>
 ∃ t15a : Option Addr, ∃ t15b : Int, en = .returned (.tuple #[.pointer t15a, .int .i64 t15b]) ∧
 IfB (t15b != (0 : Int))
 (Q (.bool false) w1_1)
 (Calls prog 12 #[.pointer t15a, .string (⟨#[120, 97, 98]⟩ : ByteArray)] w1_1 fun en w1_2 =>
 ∃ t22a : ByteArray, ∃ t22b : Int, en = .returned (.tuple #[.string t22a, .int .i64 t22b]) ∧
 Calls prog 12 #[.pointer t15a, .string (⟨#[100]⟩ : ByteArray)] w1_2 fun en w1_3 =>
 ∃ t27a : ByteArray, ∃ t27b : Int, en = .returned (.tuple #[.string t27a, .int .i64 t27b]) ∧
 Calls prog 12 #[.pointer t15a, .string (⟨#[97, 98]⟩ : ByteArray)] w1_3 fun en w1_4 =>
 ∃ t32a : ByteArray, ∃ t32b : Int, en = .returned (.tuple #[.string t32a, .int .i64 t32b]) ∧
 Calls prog 14 #[.pointer t15a] w1_4 fun en w1_5 =>
 ∃ t37a : ByteArray, ∃ t37b : Int, en = .returned (.tuple #[.string t37a, .int .i64 t37b]) ∧
 RunT prog .slice (Instr.buildSlice 22 3 #[(0, .string (⟨#[97, 98]⟩ : ByteArray)), (1, .string (⟨#[97, 98, 99]⟩ : ByteArray)), (2, .string (⟨#[98]⟩ : ByteArray))]) w1_5 fun (t41 : Sl) w1_6 =>
 Calls prog 9 #[.slice t41.a t41.l t41.c, .string (⟨#[97, 97, 98]⟩ : ByteArray)] w1_6 fun en w1_7 =>
 ∃ t42a : ByteArray, ∃ t42b : Int, en = .returned (.tuple #[.string t42a, .int .i64 t42b]) ∧
 IfB (t22a.toList == (⟨#[120]⟩ : ByteArray).toList)
 (IfB (t27a.toList == (⟨#[42, 42, 42, 100]⟩ : ByteArray).toList)
 (IfB (t32a.toList == (⟨#[]⟩ : ByteArray).toList)
 (IfB (t37a.toList == (⟨#[42, 42, 42]⟩ : ByteArray).toList)
 (IfB (t42b == (0 : Int))
 (Q (.bool (t42a.toList == (⟨#[97, 42, 42, 42]⟩ : ByteArray).toList)) w1_7)
 (Q (.bool false) w1_7))
 (Q (.bool false) w1_7))
 (Q (.bool false) w1_7))
 (Q (.bool false) w1_7))
 (Q (.bool false) w1_7))
def an7 : Ann := { cut := fun i => none, loop := fun i => [] }
theorem eq7 (w : World) (Q : Value → World → Prop) : F7  w Q = vc prog an7 (Try.f7.body.getD .skip) (envOf []) w (retK prog Try.f7 Q) := by kernel_rfl
theorem ok7 : codeOk Try.f7.ntmps (Try.f7.body.getD .skip) = true := by kernel_rfl
theorem W7 {w : World} {Q : Value → World → Prop} (h : F7  w Q) : Calls prog 7 #[] w fun en w' => ∃ v, en = .returned v ∧ Q v w' :=
  calls_of_vc good follows an7 (args := []) Try.func7 (by kernel_rfl) ok7 (of_decide_eq_true (by kernel_rfl)) (Eq.mp (eq7  w Q) h)

/-- bastion/bastionlaw21.large -/
def F8 (x0 : Sl) (x1 : Int) (w : World) (Q : Value → World → Prop) : Prop :=
 ∃ (I : Nat → Int → Int → World → Prop) (n0 : Nat), I n0 (0 : Int) (0 : Int) w ∧
 ∀ (n : Nat) (u : Env) (x5 : Int) (x6 : Int) (w1 : World), I n x5 x6 w1 →
 IfB (decide (x6 < ((x0.l : Nat) : Int)))
 (IfB (decide (x5 ≤ x1))
 (∃ p22, x0.a = some p22 ∧ 0 ≤ x6 ∧ x6 < ((x0.l : Nat) : Int) ∧
 ∃ t23 : ByteArray, Ld w1 (p22.add ((x6).toNat * 1)) (.string t23) ∧
 ∃ n', n' < n ∧ I n' (IntKind.wrap .i64 ((IntKind.wrap .i64 (x5 + (1 : Int))) + ((t23.size : Nat) : Int))) (IntKind.wrap .i64 (x6 + (1 : Int))) w1)
 (Q (.bool (decide (x5 > x1))) w1))
 (Q (.bool (decide (x5 > x1))) w1)
def an8 : Ann := { cut := fun i => none, loop := fun i => bif Nat.beq i 3 then [(5, .int .i64), (6, .int .i64)] else [] }
theorem eq8 (x0 : Sl) (x1 : Int) (w : World) (Q : Value → World → Prop) : F8 x0 x1 w Q = vc prog an8 (Try.f8.body.getD .skip) (envOf [.slice x0.a x0.l x0.c, .int .i64 x1]) w (retK prog Try.f8 Q) := by kernel_rfl
theorem ok8 : codeOk Try.f8.ntmps (Try.f8.body.getD .skip) = true := by kernel_rfl
theorem W8 {x0 : Sl} {x1 : Int} {w : World} {Q : Value → World → Prop} (h : F8 x0 x1 w Q) : Calls prog 8 #[.slice x0.a x0.l x0.c, .int .i64 x1] w fun en w' => ∃ v, en = .returned v ∧ Q v w' :=
  calls_of_vc good follows an8 (args := [.slice x0.a x0.l x0.c, .int .i64 x1]) Try.func8 (by kernel_rfl) ok8 (of_decide_eq_true (by kernel_rfl)) (Eq.mp (eq8 x0 x1 w Q) h)

/-- bastion/mask.Whole -/
def F9 (x0 : Sl) (x1 : ByteArray) (w : World) (Q : Value → World → Prop) : Prop :=
 Calls prog 11 #[.slice x0.a x0.l x0.c] w fun en w1 =>
 ∃ t10a : Option Addr, ∃ t10b : Int, en = .returned (.tuple #[.pointer t10a, .int .i64 t10b]) ∧
 IfB (t10b != (0 : Int))
 (Q (.tuple #[.string (⟨#[]⟩ : ByteArray), .int .i64 t10b]) w1)
 (∃ p18, t10a = some p18 ∧
 Wr w1 (p18.add 1) ∧ ∀ w1_1, w1_1 = w1.setCell (p18.add 1) (.string x1) →
 Calls prog 17 #[.pointer t10a, .bool true] w1_1 fun en w1_2 =>
 ∃ t21 : ByteArray, en = .returned (.string t21) ∧
 Q (.tuple #[.string t21, .int .i64 0]) w1_2)
def an9 : Ann := { cut := fun i => none, loop := fun i => [] }
theorem eq9 (x0 : Sl) (x1 : ByteArray) (w : World) (Q : Value → World → Prop) : F9 x0 x1 w Q = vc prog an9 (Try.f9.body.getD .skip) (envOf [.slice x0.a x0.l x0.c, .string x1]) w (retK prog Try.f9 Q) := by kernel_rfl
theorem ok9 : codeOk Try.f9.ntmps (Try.f9.body.getD .skip) = true := by kernel_rfl
theorem W9 {x0 : Sl} {x1 : ByteArray} {w : World} {Q : Value → World → Prop} (h : F9 x0 x1 w Q) : Calls prog 9 #[.slice x0.a x0.l x0.c, .string x1] w fun en w' => ∃ v, en = .returned v ∧ Q v w' :=
  calls_of_vc good follows an9 (args := [.slice x0.a x0.l x0.c, .string x1]) Try.func9 (by kernel_rfl) ok9 (of_decide_eq_true (by kernel_rfl)) (Eq.mp (eq9 x0 x1 w Q) h)

/-- bastion/bastionlaw21.has -/
def F10 (x0 : ByteArray) (x1 : ByteArray) (w : World) (Q : Value → World → Prop) : Prop :=
 ∃ (I : Nat → Int → World → Prop) (n0 : Nat), I n0 (0 : Int) w ∧
 ∀ (n : Nat) (u : Env) (x5 : Int) (w1 : World), I n x5 w1 →
 IfB (decide (IntKind.wrap .i64 (x5 + ((x1.size : Nat) : Int)) ≤ ((x0.size : Nat) : Int)))
 ((0 ≤ IntKind.wrap .i64 (x5 + ((x1.size : Nat) : Int)) ∧ IntKind.wrap .i64 (x5 + ((x1.size : Nat) : Int)) ≤ ((x0.size : Nat) : Int)) ∧
 (0 ≤ x5 ∧ x5 ≤ (((IntKind.wrap .i64 (x5 + ((x1.size : Nat) : Int))).toNat : Nat) : Int)) ∧
 IfB ((x0.extract ((x5).toNat) ((IntKind.wrap .i64 (x5 + ((x1.size : Nat) : Int))).toNat)).toList == x1.toList)
 (Q (.bool true) w1)
 (∃ n', n' < n ∧ I n' (IntKind.wrap .i64 (x5 + (1 : Int))) w1))
 (Q (.bool false) w1)
def an10 : Ann := { cut := fun i => none, loop := fun i => bif Nat.beq i 2 then [(5, .int .i64)] else [] }
theorem eq10 (x0 : ByteArray) (x1 : ByteArray) (w : World) (Q : Value → World → Prop) : F10 x0 x1 w Q = vc prog an10 (Try.f10.body.getD .skip) (envOf [.string x0, .string x1]) w (retK prog Try.f10 Q) := by kernel_rfl
theorem ok10 : codeOk Try.f10.ntmps (Try.f10.body.getD .skip) = true := by kernel_rfl
theorem W10 {x0 : ByteArray} {x1 : ByteArray} {w : World} {Q : Value → World → Prop} (h : F10 x0 x1 w Q) : Calls prog 10 #[.string x0, .string x1] w fun en w' => ∃ v, en = .returned v ∧ Q v w' :=
  calls_of_vc good follows an10 (args := [.string x0, .string x1]) Try.func10 (by kernel_rfl) ok10 (of_decide_eq_true (by kernel_rfl)) (Eq.mp (eq10 x0 x1 w Q) h)

/-- bastion/mask.New -/
def F11 (x0 : Sl) (w : World) (Q : Value → World → Prop) : Prop :=
 IfB (decide (((x0.l : Nat) : Int) > (6 : Int)))
 (Q (.tuple #[.pointer none, .int .i64 3]) w)
 (Calls prog 18 #[.slice x0.a x0.l x0.c, .func (.func 19) #[] #[]] w fun en w1 =>
 ∃ t10 : Bool, en = .returned (.bool t10) ∧
 IfB t10
 (Q (.tuple #[.pointer none, .int .i64 1]) w1)
 (Calls prog 20 #[.slice x0.a x0.l x0.c] w1 fun en w1_1 =>
 ∃ t12 : Sl, en = .returned (.slice t12.a t12.l t12.c) ∧
 ∃ t13 : Array Value, BuildIs prog 55 #[] t13 ∧
 ∀ b14 w1_2, NewB w1_1 (.cells t13 55) b14 w1_2 →
 ∃ t15 : Array Value, BuildIs prog 46 #[(0, .slice t12.a t12.l t12.c), (3, .pointer (some (⟨b14, 0, none⟩ : Addr)))] t15 ∧
 ∀ b16 w1_3, NewB w1_2 (.cells t15 46) b16 w1_3 →
 Q (.tuple #[.pointer (some (⟨b16, 0, none⟩ : Addr)), .int .i64 0]) w1_3))
def an11 : Ann := { cut := fun i => none, loop := fun i => [] }
theorem eq11 (x0 : Sl) (w : World) (Q : Value → World → Prop) : F11 x0 w Q = vc prog an11 (Try.f11.body.getD .skip) (envOf [.slice x0.a x0.l x0.c]) w (retK prog Try.f11 Q) := by kernel_rfl
theorem ok11 : codeOk Try.f11.ntmps (Try.f11.body.getD .skip) = true := by kernel_rfl
theorem W11 {x0 : Sl} {w : World} {Q : Value → World → Prop} (h : F11 x0 w Q) : Calls prog 11 #[.slice x0.a x0.l x0.c] w fun en w' => ∃ v, en = .returned v ∧ Q v w' :=
  calls_of_vc good follows an11 (args := [.slice x0.a x0.l x0.c]) Try.func11 (by kernel_rfl) ok11 (of_decide_eq_true (by kernel_rfl)) (Eq.mp (eq11 x0 w Q) h)

/-- (*bastion/mask.Mask).Write -/
def F12 (x0 : Option Addr) (x1 : ByteArray) (w : World) (Q : Value → World → Prop) : Prop :=
 Calls prog 21 #[.pointer x0] w fun en w1 =>
 ∃ t8 : Int, en = .returned (.int .i64 t8) ∧
 IfB (t8 != (0 : Int))
 (Q (.tuple #[.string (⟨#[]⟩ : ByteArray), .int .i64 t8]) w1)
 (∃ p13, x0 = some p13 ∧
 ∃ t15 : ByteArray, Ld w1 (p13.add 1) (.string t15) ∧
 t15.size + x1.size ≤ 9223372036854775807 ∧
 ∃ p18, x0 = some p18 ∧
 Wr w1 (p18.add 1) ∧ ∀ w1_1, w1_1 = w1.setCell (p18.add 1) (.string (t15 ++ x1)) →
 Calls prog 17 #[.pointer x0, .bool false] w1_1 fun en w1_2 =>
 ∃ t21 : ByteArray, en = .returned (.string t21) ∧
 Q (.tuple #[.string t21, .int .i64 0]) w1_2)
def an12 : Ann := { cut := fun i => none, loop := fun i => [] }
theorem eq12 (x0 : Option Addr) (x1 : ByteArray) (w : World) (Q : Value → World → Prop) : F12 x0 x1 w Q = vc prog an12 (Try.f12.body.getD .skip) (envOf [.pointer x0, .string x1]) w (retK prog Try.f12 Q) := by kernel_rfl
theorem ok12 : codeOk Try.f12.ntmps (Try.f12.body.getD .skip) = true := by kernel_rfl
theorem W12 {x0 : Option Addr} {x1 : ByteArray} {w : World} {Q : Value → World → Prop} (h : F12 x0 x1 w Q) : Calls prog 12 #[.pointer x0, .string x1] w fun en w' => ∃ v, en = .returned v ∧ Q v w' :=
  calls_of_vc good follows an12 (args := [.pointer x0, .string x1]) Try.func12 (by kernel_rfl) ok12 (of_decide_eq_true (by kernel_rfl)) (Eq.mp (eq12 x0 x1 w Q) h)

/-- (*bastion/mask.Mask).Held -/
def F13 (x0 : Option Addr) (w : World) (Q : Value → World → Prop) : Prop :=
 ∃ b4 : Bool, BinIs prog .eql 31 (.tmp 3) (.const (.pointer none)) (.pointer x0) (.pointer none) b4 ∧
 IfB b4
 (Q (.int .i64 0) w)
 (∃ p6, x0 = some p6 ∧
 ∃ t8 : ByteArray, Ld w (p6.add 1) (.string t8) ∧
 Q (.int .i64 ((t8.size : Nat) : Int)) w)
def an13 : Ann := { cut := fun i => none, loop := fun i => [] }
theorem eq13 (x0 : Option Addr) (w : World) (Q : Value → World → Prop) : F13 x0 w Q = vc prog an13 (Try.f13.body.getD .skip) (envOf [.pointer x0]) w (retK prog Try.f13 Q) := by kernel_rfl
theorem ok13 : codeOk Try.f13.ntmps (Try.f13.body.getD .skip) = true := by kernel_rfl
theorem W13 {x0 : Option Addr} {w : World} {Q : Value → World → Prop} (h : F13 x0 w Q) : Calls prog 13 #[.pointer x0] w fun en w' => ∃ v, en = .returned v ∧ Q v w' :=
  calls_of_vc good follows an13 (args := [.pointer x0]) Try.func13 (by kernel_rfl) ok13 (of_decide_eq_true (by kernel_rfl)) (Eq.mp (eq13 x0 w Q) h)

/-- (*bastion/mask.Mask).Close -/
def F14 (x0 : Option Addr) (w : World) (Q : Value → World → Prop) : Prop :=
 Calls prog 21 #[.pointer x0] w fun en w1 =>
 ∃ t6 : Int, en = .returned (.int .i64 t6) ∧
 IfB (t6 != (0 : Int))
 (Q (.tuple #[.string (⟨#[]⟩ : ByteArray), .int .i64 t6]) w1)
 (∃ p11, x0 = some p11 ∧
 Wr w1 (p11.add 2) ∧ ∀ w1_1, w1_1 = w1.setCell (p11.add 2) (.bool true) →
 Calls prog 17 #[.pointer x0, .bool true] w1_1 fun en w1_2 =>
 ∃ t14 : ByteArray, en = .returned (.string t14) ∧
 Q (.tuple #[.string t14, .int .i64 0]) w1_2)
def an14 : Ann := { cut := fun i => none, loop := fun i => [] }
theorem eq14 (x0 : Option Addr) (w : World) (Q : Value → World → Prop) : F14 x0 w Q = vc prog an14 (Try.f14.body.getD .skip) (envOf [.pointer x0]) w (retK prog Try.f14 Q) := by kernel_rfl
theorem ok14 : codeOk Try.f14.ntmps (Try.f14.body.getD .skip) = true := by kernel_rfl
theorem W14 {x0 : Option Addr} {w : World} {Q : Value → World → Prop} (h : F14 x0 w Q) : Calls prog 14 #[.pointer x0] w fun en w' => ∃ v, en = .returned v ∧ Q v w' :=
  calls_of_vc good follows an14 (args := [.pointer x0]) Try.func14 (by kernel_rfl) ok14 (of_decide_eq_true (by kernel_rfl)) (Eq.mp (eq14 x0 w Q) h)

/-- bastion/bastionref21.Check -/
def F15 (x0 : Sl) (w : World) (Q : Value → World → Prop) : Prop :=
 IfB (decide (((x0.l : Nat) : Int) > (6 : Int)))
 (Q (.int .i64 3) w)
 (∃ (I : Nat → Int → World → Prop) (n0 : Nat), I n0 (0 : Int) w ∧
 ∀ (n : Nat) (u : Env) (x3 : Int) (w1 : World), I n x3 w1 →
 IfB (decide (x3 < ((x0.l : Nat) : Int)))
 (∃ p15, x0.a = some p15 ∧ 0 ≤ x3 ∧ x3 < ((x0.l : Nat) : Int) ∧
 ∃ t16 : ByteArray, Ld w1 (p15.add ((x3).toNat * 1)) (.string t16) ∧
 IfB (decide (((t16.size : Nat) : Int) < (1 : Int)))
 (Q (.int .i64 1) w1)
 (∃ p22, x0.a = some p22 ∧ 0 ≤ x3 ∧ x3 < ((x0.l : Nat) : Int) ∧
 ∃ t23 : ByteArray, Ld w1 (p22.add ((x3).toNat * 1)) (.string t23) ∧
 IfB (decide (((t23.size : Nat) : Int) > (64 : Int)))
 (Q (.int .i64 1) w1)
 (∃ n', n' < n ∧ I n' (IntKind.wrap .i64 (x3 + (1 : Int))) w1)))
 (Q (.int .i64 0) w1))
def an15 : Ann := { cut := fun i => none, loop := fun i => bif Nat.beq i 4 then [(3, .int .i64)] else [] }
theorem eq15 (x0 : Sl) (w : World) (Q : Value → World → Prop) : F15 x0 w Q = vc prog an15 (Try.f15.body.getD .skip) (envOf [.slice x0.a x0.l x0.c]) w (retK prog Try.f15 Q) := by kernel_rfl
theorem ok15 : codeOk Try.f15.ntmps (Try.f15.body.getD .skip) = true := by kernel_rfl
theorem W15 {x0 : Sl} {w : World} {Q : Value → World → Prop} (h : F15 x0 w Q) : Calls prog 15 #[.slice x0.a x0.l x0.c] w fun en w' => ∃ v, en = .returned v ∧ Q v w' :=
  calls_of_vc good follows an15 (args := [.slice x0.a x0.l x0.c]) Try.func15 (by kernel_rfl) ok15 (of_decide_eq_true (by kernel_rfl)) (Eq.mp (eq15 x0 w Q) h)

/-- bastion/bastionref21.Masked -/
def F16 (x0 : Sl) (x1 : ByteArray) (x2 : Bool) (w : World) (Q : Value → World → Prop) : Prop :=
 ∃ (I : Nat → Sl → Int → World → Prop) (n0 : Nat), I n0 (⟨none, 0, 0⟩ : Sl) (0 : Int) w ∧
 ∀ (n : Nat) (u : Env) (x8 : Sl) (x9 : Int) (w1 : World), I n x8 x9 w1 →
 IfB (decide (x9 < ((x1.size : Nat) : Int)))
 ((0 ≤ x9 ∧ x9 ≤ ((x1.size : Nat) : Int)) ∧
 ∃ (I_1 : Nat → Int → Int → World → Prop) (n0_1 : Nat), I_1 n0_1 (0 : Int) (0 : Int) w1 ∧
 ∀ (n_1 : Nat) (u_1 : Env) (x11 : Int) (x12 : Int) (w1_1 : World), I_1 n_1 x11 x12 w1_1 →
 IfB (decide (x12 < ((x0.l : Nat) : Int)))
 (∃ p29, x0.a = some p29 ∧ 0 ≤ x12 ∧ x12 < ((x0.l : Nat) : Int) ∧
 ∃ t30 : ByteArray, Ld w1_1 (p29.add ((x12).toNat * 1)) (.string t30) ∧
 ∃ J : Bool → World → Prop, (IfB (!x2)
 (IfB (decide (((t30.size : Nat) : Int) > (((x1.extract ((x9).toNat) x1.size).size : Nat) : Int)))
 (Calls prog 22 #[.string t30, .string (x1.extract ((x9).toNat) x1.size)] w1_1 fun en w1_2 =>
 ∃ t43 : Bool, en = .returned (.bool t43) ∧
 J t43 w1_2)
 (J false w1_1))
 (J false w1_1)) ∧
 (∀ (u_2 : Env) (x44 : Bool) (w1_2 : World), J x44 w1_2 →
 IfB x44
 (RunT prog .str (convert 30 9 (.slice x8.a x8.l x8.c)) w1_2 fun (t46 : ByteArray) w1_3 =>
 Q (.tuple #[.string t46, .int .i64 (((x1.extract ((x9).toNat) x1.size).size : Nat) : Int)]) w1_3)
 (Calls prog 22 #[.string (x1.extract ((x9).toNat) x1.size), .string t30] w1_2 fun en w1_3 =>
 ∃ t51 : Bool, en = .returned (.bool t51) ∧
 IfB t51
 (IfB (decide (((t30.size : Nat) : Int) > x11))
 (∃ n', n' < n_1 ∧ I_1 n' ((t30.size : Nat) : Int) (IntKind.wrap .i64 (x12 + (1 : Int))) w1_3)
 (∃ n', n' < n_1 ∧ I_1 n' x11 (IntKind.wrap .i64 (x12 + (1 : Int))) w1_3))
 (∃ n', n' < n_1 ∧ I_1 n' x11 (IntKind.wrap .i64 (x12 + (1 : Int))) w1_3))))
 (IfB (decide (x11 > (0 : Int)))
 (RunT prog .slice (Builtin.append_ #[30, 9] 30 #[.slice x8.a x8.l x8.c, .string (⟨#[42, 42, 42]⟩ : ByteArray)]) w1_1 fun (t63 : Sl) w1_2 =>
 ∃ n', n' < n ∧ I n' t63 (IntKind.wrap .i64 (x9 + x11)) w1_2)
 (0 ≤ x9 ∧ x9 < ((x1.size : Nat) : Int) ∧
 RunT prog .slice (Instr.buildSlice 30 1 #[(0, .int .u8 (bt x1 x9))]) w1_1 fun (t71 : Sl) w1_2 =>
 RunT prog .slice (Builtin.append_ #[30, 30] 30 #[.slice x8.a x8.l x8.c, .slice t71.a t71.l t71.c]) w1_2 fun (t72 : Sl) w1_3 =>
 ∃ n', n' < n ∧ I n' t72 (IntKind.wrap .i64 (x9 + (1 : Int))) w1_3)))
 (RunT prog .str (convert 30 9 (.slice x8.a x8.l x8.c)) w1 fun (t76 : ByteArray) w1_1 =>
 Q (.tuple #[.string t76, .int .i64 0]) w1_1)
def an16 : Ann := { cut := fun i => bif Nat.beq i 11 then some [(44, .bool)] else none, loop := fun i => bif Nat.beq i 3 then [(8, .slice), (9, .int .i64)] else bif Nat.beq i 7 then [(11, .int .i64), (12, .int .i64)] else [] }
theorem eq16 (x0 : Sl) (x1 : ByteArray) (x2 : Bool) (w : World) (Q : Value → World → Prop) : F16 x0 x1 x2 w Q = vc prog an16 (Try.f16.body.getD .skip) (envOf [.slice x0.a x0.l x0.c, .string x1, .bool x2]) w (retK prog Try.f16 Q) := by kernel_rfl
theorem ok16 : codeOk Try.f16.ntmps (Try.f16.body.getD .skip) = true := by kernel_rfl
theorem W16 {x0 : Sl} {x1 : ByteArray} {x2 : Bool} {w : World} {Q : Value → World → Prop} (h : F16 x0 x1 x2 w Q) : Calls prog 16 #[.slice x0.a x0.l x0.c, .string x1, .bool x2] w fun en w' => ∃ v, en = .returned v ∧ Q v w' :=
  calls_of_vc good follows an16 (args := [.slice x0.a x0.l x0.c, .string x1, .bool x2]) Try.func16 (by kernel_rfl) ok16 (of_decide_eq_true (by kernel_rfl)) (Eq.mp (eq16 x0 x1 x2 w Q) h)

/-- (*bastion/mask.Mask).run -/
def F17 (x0 : Option Addr) (x1 : Bool) (w : World) (Q : Value → World → Prop) : Prop :=
 ∀ b2 w1, NewB w (.cells #[.pointer x0] 31) b2 w1 →
 ∃ (I : Nat → World → Prop) (n0 : Nat), I n0  w1 ∧
 ∀ (n : Nat) (u : Env) (w1_1 : World), I n  w1_1 →
 ∃ J : World → Prop, (∃ t10 : Option Addr, Ld w1_1 (⟨b2, 0, none⟩ : Addr) (.pointer t10) ∧
 ∃ p11, t10 = some p11 ∧
 ∃ t13 : ByteArray, Ld w1_1 (p11.add 1) (.string t13) ∧
 IfB (!(t13.toList == (⟨#[]⟩ : ByteArray).toList))
 (IfB x1
 (J  w1_1)
 (CallV prog (.func (.func 23) #[] #[.pointer (some (⟨b2, 0, none⟩ : Addr))]) #[] w1_1 fun v19 w1_2 =>
 ∃ t19 : Bool, v19 = (.bool t19) ∧
 IfB (!t19)
 (J  w1_2)
 (∃ t77 : Option Addr, Ld w1_2 (⟨b2, 0, none⟩ : Addr) (.pointer t77) ∧
 ∃ p78, t77 = some p78 ∧
 ∃ t80 : Option Addr, Ld w1_2 (p78.add 3) (.pointer t80) ∧
 Calls prog 28 #[.pointer t80] w1_2 fun en w1_3 =>
 ∃ t81 : ByteArray, en = .returned (.string t81) ∧
 Q (.string t81) w1_3)))
 (∃ t77 : Option Addr, Ld w1_1 (⟨b2, 0, none⟩ : Addr) (.pointer t77) ∧
 ∃ p78, t77 = some p78 ∧
 ∃ t80 : Option Addr, Ld w1_1 (p78.add 3) (.pointer t80) ∧
 Calls prog 28 #[.pointer t80] w1_1 fun en w1_2 =>
 ∃ t81 : ByteArray, en = .returned (.string t81) ∧
 Q (.string t81) w1_2)) ∧
 (∀ (u_1 : Env) (w1_2 : World), J  w1_2 →
 ∃ t23 : Option Addr, Ld w1_2 (⟨b2, 0, none⟩ : Addr) (.pointer t23) ∧
 ∃ p24, t23 = some p24 ∧
 ∃ t26 : Sl, Ld w1_2 (p24.add 0) (.slice t26.a t26.l t26.c) ∧
 ∃ (I_1 : Nat → Int → Int → World → Prop) (n0_1 : Nat), I_1 n0_1 (0 : Int) (0 : Int) w1_2 ∧
 ∀ (n_1 : Nat) (u_2 : Env) (x6 : Int) (x28 : Int) (w1_3 : World), I_1 n_1 x6 x28 w1_3 →
 IfB (decide (x28 < ((t26.l : Nat) : Int)))
 (∃ p30, t26.a = some p30 ∧ 0 ≤ x28 ∧ x28 < ((t26.l : Nat) : Int) ∧
 ∃ t31 : ByteArray, Ld w1_3 (p30.add ((x28).toNat * 1)) (.string t31) ∧
 IfB (decide (((t31.size : Nat) : Int) > x6))
 (∃ t37 : Option Addr, Ld w1_3 (⟨b2, 0, none⟩ : Addr) (.pointer t37) ∧
 ∃ p38, t37 = some p38 ∧
 ∃ t40 : ByteArray, Ld w1_3 (p38.add 1) (.string t40) ∧
 Calls prog 25 #[.string t40, .string t31] w1_3 fun en w1_4 =>
 ∃ t42 : Bool, en = .returned (.bool t42) ∧
 IfB t42
 (∃ n', n' < n_1 ∧ I_1 n' ((t31.size : Nat) : Int) (IntKind.wrap .i64 (x28 + (1 : Int))) w1_4)
 (∃ n', n' < n_1 ∧ I_1 n' x6 (IntKind.wrap .i64 (x28 + (1 : Int))) w1_4))
 (∃ n', n' < n_1 ∧ I_1 n' x6 (IntKind.wrap .i64 (x28 + (1 : Int))) w1_3))
 (IfB (decide (x6 > (0 : Int)))
 (∃ t49 : Option Addr, Ld w1_3 (⟨b2, 0, none⟩ : Addr) (.pointer t49) ∧
 ∃ p50, t49 = some p50 ∧
 ∃ t52 : Option Addr, Ld w1_3 (p50.add 3) (.pointer t52) ∧
 ∃ p53, t52 = some p53 ∧
 Calls prog 26 #[.pointer (some (p53.add 0)), .string (⟨#[42, 42, 42]⟩ : ByteArray)] w1_3 fun en w1_4 =>
 ∃ t55a : Int, ∃ t55b : Value, en = .returned (.tuple #[.int .i64 t55a, t55b]) ∧
 ∃ S : World → Prop, S w1_4.drew ∧
 ∃ t68 : Option Addr, (∀ w', S w' → Ld w' (⟨b2, 0, none⟩ : Addr) (.pointer t68)) ∧
 ∃ t69 : Option Addr, (∀ w', S w' → Ld w' (⟨b2, 0, none⟩ : Addr) (.pointer t69)) ∧
 ∃ p70, t69 = some p70 ∧
 ∃ t72 : ByteArray, (∀ w', S w' → Ld w' (p70.add 1) (.string t72)) ∧
 (0 ≤ x6 ∧ x6 ≤ ((t72.size : Nat) : Int)) ∧
 ∃ p75, t68 = some p75 ∧
 Wr w1_4.drew (p75.add 1) ∧ ∀ w1_5, w1_5 = w1_4.drew.setCell (p75.add 1) (.string (t72.extract ((x6).toNat) t72.size)) →
 ∃ n', n' < n ∧ I n'  w1_5)
 (∃ S : World → Prop, S w1_3.drew ∧
 ∃ t56 : Option Addr, (∀ w', S w' → Ld w' (⟨b2, 0, none⟩ : Addr) (.pointer t56)) ∧
 ∃ p57, t56 = some p57 ∧
 ∃ t59 : Option Addr, (∀ w', S w' → Ld w' (p57.add 3) (.pointer t59)) ∧
 ∃ p60, t59 = some p60 ∧
 ∃ t62 : Option Addr, (∀ w', S w' → Ld w' (⟨b2, 0, none⟩ : Addr) (.pointer t62)) ∧
 ∃ p63, t62 = some p63 ∧
 ∃ t65 : ByteArray, (∀ w', S w' → Ld w' (p63.add 1) (.string t65)) ∧
 0 ≤ (0 : Int) ∧ (0 : Int) < ((t65.size : Nat) : Int) ∧
 Calls prog 27 #[.pointer (some (p60.add 0)), .int .u8 (bt t65 (0 : Int))] w1_3.drew fun en w1_4 =>
 ∃ t67 : Value, en = .returned (t67) ∧
 ∃ S_1 : World → Prop, S_1 w1_4.drew ∧
 ∃ t68 : Option Addr, (∀ w', S_1 w' → Ld w' (⟨b2, 0, none⟩ : Addr) (.pointer t68)) ∧
 ∃ t69 : Option Addr, (∀ w', S_1 w' → Ld w' (⟨b2, 0, none⟩ : Addr) (.pointer t69)) ∧
 ∃ p70, t69 = some p70 ∧
 ∃ t72 : ByteArray, (∀ w', S_1 w' → Ld w' (p70.add 1) (.string t72)) ∧
 (0 ≤ (1 : Int) ∧ (1 : Int) ≤ ((t72.size : Nat) : Int)) ∧
 ∃ p75, t68 = some p75 ∧
 Wr w1_4.drew (p75.add 1) ∧ ∀ w1_5, w1_5 = w1_4.drew.setCell (p75.add 1) (.string (t72.extract 1 t72.size)) →
 ∃ n', n' < n ∧ I n'  w1_5)))
def an17 : Ann := { cut := fun i => bif Nat.beq i 3 then some [] else none, loop := fun i => bif Nat.beq i 2 then [] else bif Nat.beq i 5 then [(6, .int .i64), (28, .int .i64)] else [] }
theorem eq17 (x0 : Option Addr) (x1 : Bool) (w : World) (Q : Value → World → Prop) : F17 x0 x1 w Q = vc prog an17 (Try.f17.body.getD .skip) (envOf [.pointer x0, .bool x1]) w (retK prog Try.f17 Q) := by kernel_rfl
theorem ok17 : codeOk Try.f17.ntmps (Try.f17.body.getD .skip) = true := by kernel_rfl
theorem W17 {x0 : Option Addr} {x1 : Bool} {w : World} {Q : Value → World → Prop} (h : F17 x0 x1 w Q) : Calls prog 17 #[.pointer x0, .bool x1] w fun en w' => ∃ v, en = .returned v ∧ Q v w' :=
  calls_of_vc good follows an17 (args := [.pointer x0, .bool x1]) Try.func17 (by kernel_rfl) ok17 (of_decide_eq_true (by kernel_rfl)) (Eq.mp (eq17 x0 x1 w Q) h)

/-- slices.ContainsFunc[[]string,string] -/
def F18 (x0 : Sl) (x1 : Value) (w : World) (Q : Value → World → Prop) : Prop :=
 Calls prog 29 #[.slice x0.a x0.l x0.c, x1] w fun en w1 =>
 ∃ t7 : Int, en = .returned (.int .i64 t7) ∧
 Q (.bool (decide (t7 ≥ (0 : Int)))) w1
def an18 : Ann := { cut := fun i => none, loop := fun i => [] }
theorem eq18 (x0 : Sl) (x1 : Value) (w : World) (Q : Value → World → Prop) : F18 x0 x1 w Q = vc prog an18 (Try.f18.body.getD .skip) (envOf [.slice x0.a x0.l x0.c, x1]) w (retK prog Try.f18 Q) := by kernel_rfl
theorem ok18 : codeOk Try.f18.ntmps (Try.f18.body.getD .skip) = true := by kernel_rfl
theorem W18 {x0 : Sl} {x1 : Value} {w : World} {Q : Value → World → Prop} (h : F18 x0 x1 w Q) : Calls prog 18 #[.slice x0.a x0.l x0.c, x1] w fun en w' => ∃ v, en = .returned v ∧ Q v w' :=
  calls_of_vc good follows an18 (args := [.slice x0.a x0.l x0.c, x1]) Try.func18 (by kernel_rfl) ok18 (of_decide_eq_true (by kernel_rfl)) (Eq.mp (eq18 x0 x1 w Q) h)

/-- bastion/mask.New$1 -/
def F19 (x0 : ByteArray) (w : World) (Q : Value → World → Prop) : Prop :=
 IfB (x0.toList == (⟨#[]⟩ : ByteArray).toList)
 (Q (.bool true) w)
 (Q (.bool (decide (((x0.size : Nat) : Int) > (64 : Int)))) w)
def an19 : Ann := { cut := fun i => none, loop := fun i => [] }
theorem eq19 (x0 : ByteArray) (w : World) (Q : Value → World → Prop) : F19 x0 w Q = vc prog an19 (Try.f19.body.getD .skip) (envOf [.string x0]) w (retK prog Try.f19 Q) := by kernel_rfl
theorem ok19 : codeOk Try.f19.ntmps (Try.f19.body.getD .skip) = true := by kernel_rfl
theorem W19 {x0 : ByteArray} {w : World} {Q : Value → World → Prop} (h : F19 x0 w Q) : Calls prog 19 #[.string x0] w fun en w' => ∃ v, en = .returned v ∧ Q v w' :=
  calls_of_vc good follows an19 (args := [.string x0]) Try.func19 (by kernel_rfl) ok19 (of_decide_eq_true (by kernel_rfl)) (Eq.mp (eq19 x0 w Q) h)

/-- slices.Clone[[]string,string] -/
def F20 (x0 : Sl) (w : World) (Q : Value → World → Prop) : Prop :=
 ∃ b4 : Bool, BinIs prog .eql 22 (.tmp 3) (.const (.slice none 0 0)) (.slice x0.a x0.l x0.c) (.slice none 0 0) b4 ∧
 IfB b4
 (Q (.slice none 0 0) w)
 (RunT prog .slice (Instr.buildSlice 22 0 #[]) w fun (t5 : Sl) w1 =>
 RunT prog .slice (Builtin.append_ #[22, 22] 22 #[.slice t5.a t5.l t5.c, .slice x0.a x0.l x0.c]) w1 fun (t7 : Sl) w1_1 =>
 Q (.slice t7.a t7.l t7.c) w1_1)
def an20 : Ann := { cut := fun i => none, loop := fun i => [] }
theorem eq20 (x0 : Sl) (w : World) (Q : Value → World → Prop) : F20 x0 w Q = vc prog an20 (Try.f20.body.getD .skip) (envOf [.slice x0.a x0.l x0.c]) w (retK prog Try.f20 Q) := by kernel_rfl
theorem ok20 : codeOk Try.f20.ntmps (Try.f20.body.getD .skip) = true := by kernel_rfl
theorem W20 {x0 : Sl} {w : World} {Q : Value → World → Prop} (h : F20 x0 w Q) : Calls prog 20 #[.slice x0.a x0.l x0.c] w fun en w' => ∃ v, en = .returned v ∧ Q v w' :=
  calls_of_vc good follows an20 (args := [.slice x0.a x0.l x0.c]) Try.func20 (by kernel_rfl) ok20 (of_decide_eq_true (by kernel_rfl)) (Eq.mp (eq20 x0 w Q) h)

/-- (*bastion/mask.Mask).may -/
def F21 (x0 : Option Addr) (w : World) (Q : Value → World → Prop) : Prop :=
 ∃ b5 : Bool, BinIs prog .eql 31 (.tmp 4) (.const (.pointer none)) (.pointer x0) (.pointer none) b5 ∧
 IfB b5
 (Q (.int .i64 2) w)
 (∃ p8, x0 = some p8 ∧
 ∃ t10 : Bool, Ld w (p8.add 2) (.bool t10) ∧
 IfB t10
 (Q (.int .i64 50) w)
 (Q (.int .i64 0) w))
def an21 : Ann := { cut := fun i => none, loop := fun i => [] }
theorem eq21 (x0 : Option Addr) (w : World) (Q : Value → World → Prop) : F21 x0 w Q = vc prog an21 (Try.f21.body.getD .skip) (envOf [.pointer x0]) w (retK prog Try.f21 Q) := by kernel_rfl
theorem ok21 : codeOk Try.f21.ntmps (Try.f21.body.getD .skip) = true := by kernel_rfl
theorem W21 {x0 : Option Addr} {w : World} {Q : Value → World → Prop} (h : F21 x0 w Q) : Calls prog 21 #[.pointer x0] w fun en w' => ∃ v, en = .returned v ∧ Q v w' :=
  calls_of_vc good follows an21 (args := [.pointer x0]) Try.func21 (by kernel_rfl) ok21 (of_decide_eq_true (by kernel_rfl)) (Eq.mp (eq21 x0 w Q) h)

/-- bastion/bastionref21.begins -/
def F22 (x0 : ByteArray) (x1 : ByteArray) (w : World) (Q : Value → World → Prop) : Prop :=
 IfB (decide (((x0.size : Nat) : Int) ≥ ((x1.size : Nat) : Int)))
 ((0 ≤ ((x1.size : Nat) : Int) ∧ ((x1.size : Nat) : Int) ≤ ((x0.size : Nat) : Int)) ∧
 Q (.bool ((x0.extract 0 ((((x1.size : Nat) : Int)).toNat)).toList == x1.toList)) w)
 (Q (.bool false) w)
def an22 : Ann := { cut := fun i => none, loop := fun i => [] }
theorem eq22 (x0 : ByteArray) (x1 : ByteArray) (w : World) (Q : Value → World → Prop) : F22 x0 x1 w Q = vc prog an22 (Try.f22.body.getD .skip) (envOf [.string x0, .string x1]) w (retK prog Try.f22 Q) := by kernel_rfl
theorem ok22 : codeOk Try.f22.ntmps (Try.f22.body.getD .skip) = true := by kernel_rfl
theorem W22 {x0 : ByteArray} {x1 : ByteArray} {w : World} {Q : Value → World → Prop} (h : F22 x0 x1 w Q) : Calls prog 22 #[.string x0, .string x1] w fun en w' => ∃ v, en = .returned v ∧ Q v w' :=
  calls_of_vc good follows an22 (args := [.string x0, .string x1]) Try.func22 (by kernel_rfl) ok22 (of_decide_eq_true (by kernel_rfl)) (Eq.mp (eq22 x0 x1 w Q) h)

/-- (*bastion/mask.Mask).run$1 -/
def F23 (x0 : Addr) (w : World) (Q : Value → World → Prop) : Prop :=
 ∃ t2 : Option Addr, Ld w x0 (.pointer t2) ∧
 ∃ p3, t2 = some p3 ∧
 ∃ t5 : Sl, Ld w (p3.add 0) (.slice t5.a t5.l t5.c) ∧
 Calls prog 18 #[.slice t5.a t5.l t5.c, .func (.func 24) #[] #[.pointer (some x0)]] w fun en w1 =>
 ∃ t7 : Bool, en = .returned (.bool t7) ∧
 Q (.bool t7) w1
def an23 : Ann := { cut := fun i => none, loop := fun i => [] }
theorem eq23 (x0 : Addr) (w : World) (Q : Value → World → Prop) : F23 x0 w Q = vc prog an23 (Try.f23.body.getD .skip) (envOf [.pointer (some x0)]) w (retK prog Try.f23 Q) := by kernel_rfl
theorem ok23 : codeOk Try.f23.ntmps (Try.f23.body.getD .skip) = true := by kernel_rfl
theorem W23 {x0 : Addr} {w : World} {Q : Value → World → Prop} (h : F23 x0 w Q) : Calls prog 23 #[.pointer (some x0)] w fun en w' => ∃ v, en = .returned v ∧ Q v w' :=
  calls_of_vc good follows an23 (args := [.pointer (some x0)]) Try.func23 (by kernel_rfl) ok23 (of_decide_eq_true (by kernel_rfl)) (Eq.mp (eq23 x0 w Q) h)

/-- (*bastion/mask.Mask).run$1$1 -/
def F24 (x0 : ByteArray) (x1 : Addr) (w : World) (Q : Value → World → Prop) : Prop :=
 ∃ t6 : Option Addr, Ld w x1 (.pointer t6) ∧
 ∃ p7, t6 = some p7 ∧
 ∃ t9 : ByteArray, Ld w (p7.add 1) (.string t9) ∧
 IfB (decide (((x0.size : Nat) : Int) > ((t9.size : Nat) : Int)))
 (∃ t14 : Option Addr, Ld w x1 (.pointer t14) ∧
 ∃ p15, t14 = some p15 ∧
 ∃ t17 : ByteArray, Ld w (p15.add 1) (.string t17) ∧
 Calls prog 25 #[.string x0, .string t17] w fun en w1 =>
 ∃ t18 : Bool, en = .returned (.bool t18) ∧
 Q (.bool t18) w1)
 (Q (.bool false) w)
def an24 : Ann := { cut := fun i => none, loop := fun i => [] }
theorem eq24 (x0 : ByteArray) (x1 : Addr) (w : World) (Q : Value → World → Prop) : F24 x0 x1 w Q = vc prog an24 (Try.f24.body.getD .skip) (envOf [.string x0, .pointer (some x1)]) w (retK prog Try.f24 Q) := by kernel_rfl
theorem ok24 : codeOk Try.f24.ntmps (Try.f24.body.getD .skip) = true := by kernel_rfl
theorem W24 {x0 : ByteArray} {x1 : Addr} {w : World} {Q : Value → World → Prop} (h : F24 x0 x1 w Q) : Calls prog 24 #[.string x0, .pointer (some x1)] w fun en w' => ∃ v, en = .returned v ∧ Q v w' :=
  calls_of_vc good follows an24 (args := [.string x0, .pointer (some x1)]) Try.func24 (by kernel_rfl) ok24 (of_decide_eq_true (by kernel_rfl)) (Eq.mp (eq24 x0 x1 w Q) h)

/-- strings.HasPrefix -/
def F25 (x0 : ByteArray) (x1 : ByteArray) (w : World) (Q : Value → World → Prop) : Prop :=
 Calls prog 30 #[.string x0, .string x1] w fun en w1 =>
 ∃ t7 : Bool, en = .returned (.bool t7) ∧
 Q (.bool t7) w1
def an25 : Ann := { cut := fun i => none, loop := fun i => [] }
theorem eq25 (x0 : ByteArray) (x1 : ByteArray) (w : World) (Q : Value → World → Prop) : F25 x0 x1 w Q = vc prog an25 (Try.f25.body.getD .skip) (envOf [.string x0, .string x1]) w (retK prog Try.f25 Q) := by kernel_rfl
theorem ok25 : codeOk Try.f25.ntmps (Try.f25.body.getD .skip) = true := by kernel_rfl
theorem W25 {x0 : ByteArray} {x1 : ByteArray} {w : World} {Q : Value → World → Prop} (h : F25 x0 x1 w Q) : Calls prog 25 #[.string x0, .string x1] w fun en w' => ∃ v, en = .returned v ∧ Q v w' :=
  calls_of_vc good follows an25 (args := [.string x0, .string x1]) Try.func25 (by kernel_rfl) ok25 (of_decide_eq_true (by kernel_rfl)) (Eq.mp (eq25 x0 x1 w Q) h)

/-- (*strings.Builder).WriteString -/
def F26 (x0 : Option Addr) (x1 : ByteArray) (w : World) (Q : Value → World → Prop) : Prop :=
 Calls prog 31 #[.pointer x0] w fun en w1 =>
 en = .returned (.tuple #[]) ∧
 ∃ p10, x0 = some p10 ∧
 ∃ t12 : Sl, Ld w1 (p10.add 1) (.slice t12.a t12.l t12.c) ∧
 RunT prog .slice (Builtin.append_ #[30, 9] 30 #[.slice t12.a t12.l t12.c, .string x1]) w1 fun (t14 : Sl) w1_1 =>
 ∃ p15, x0 = some p15 ∧
 Wr w1_1 (p15.add 1) ∧ ∀ w1_2, w1_2 = w1_1.setCell (p15.add 1) (.slice t14.a t14.l t14.c) →
 Q (.tuple #[.int .i64 ((x1.size : Nat) : Int), .nilIface]) w1_2
def an26 : Ann := { cut := fun i => none, loop := fun i => [] }
theorem eq26 (x0 : Option Addr) (x1 : ByteArray) (w : World) (Q : Value → World → Prop) : F26 x0 x1 w Q = vc prog an26 (Try.f26.body.getD .skip) (envOf [.pointer x0, .string x1]) w (retK prog Try.f26 Q) := by kernel_rfl
theorem ok26 : codeOk Try.f26.ntmps (Try.f26.body.getD .skip) = true := by kernel_rfl
theorem W26 {x0 : Option Addr} {x1 : ByteArray} {w : World} {Q : Value → World → Prop} (h : F26 x0 x1 w Q) : Calls prog 26 #[.pointer x0, .string x1] w fun en w' => ∃ v, en = .returned v ∧ Q v w' :=
  calls_of_vc good follows an26 (args := [.pointer x0, .string x1]) Try.func26 (by kernel_rfl) ok26 (of_decide_eq_true (by kernel_rfl)) (Eq.mp (eq26 x0 x1 w Q) h)

/-- (*strings.Builder).WriteByte -/
def F27 (x0 : Option Addr) (x1 : Int) (w : World) (Q : Value → World → Prop) : Prop :=
 Calls prog 31 #[.pointer x0] w fun en w1 =>
 en = .returned (.tuple #[]) ∧
 ∃ p9, x0 = some p9 ∧
 ∃ t11 : Sl, Ld w1 (p9.add 1) (.slice t11.a t11.l t11.c) ∧
 RunT prog .slice (Instr.buildSlice 30 1 #[(0, .int .u8 x1)]) w1 fun (t13 : Sl) w1_1 =>
 RunT prog .slice (Builtin.append_ #[30, 30] 30 #[.slice t11.a t11.l t11.c, .slice t13.a t13.l t13.c]) w1_1 fun (t14 : Sl) w1_2 =>
 ∃ p15, x0 = some p15 ∧
 Wr w1_2 (p15.add 1) ∧ ∀ w1_3, w1_3 = w1_2.setCell (p15.add 1) (.slice t14.a t14.l t14.c) →
 Q .nilIface w1_3
def an27 : Ann := { cut := fun i => none, loop := fun i => [] }
theorem eq27 (x0 : Option Addr) (x1 : Int) (w : World) (Q : Value → World → Prop) : F27 x0 x1 w Q = vc prog an27 (Try.f27.body.getD .skip) (envOf [.pointer x0, .int .u8 x1]) w (retK prog Try.f27 Q) := by kernel_rfl
theorem ok27 : codeOk Try.f27.ntmps (Try.f27.body.getD .skip) = true := by kernel_rfl
theorem W27 {x0 : Option Addr} {x1 : Int} {w : World} {Q : Value → World → Prop} (h : F27 x0 x1 w Q) : Calls prog 27 #[.pointer x0, .int .u8 x1] w fun en w' => ∃ v, en = .returned v ∧ Q v w' :=
  calls_of_vc good follows an27 (args := [.pointer x0, .int .u8 x1]) Try.func27 (by kernel_rfl) ok27 (of_decide_eq_true (by kernel_rfl)) (Eq.mp (eq27 x0 x1 w Q) h)

/-- (*bastion/mask.certain).take -/
def F28 (x0 : Option Addr) (w : World) (Q : Value → World → Prop) : Prop :=
 ∃ p5, x0 = some p5 ∧
 Calls prog 32 #[.pointer (some (p5.add 0))] w fun en w1 =>
 ∃ t7 : ByteArray, en = .returned (.string t7) ∧
 ∃ p9, x0 = some p9 ∧
 Calls prog 33 #[.pointer (some (p9.add 0))] w1 fun en w1_1 =>
 en = .returned (.tuple #[]) ∧
 Q (.string t7) w1_1
def an28 : Ann := { cut := fun i => none, loop := fun i => [] }
theorem eq28 (x0 : Option Addr) (w : World) (Q : Value → World → Prop) : F28 x0 w Q = vc prog an28 (Try.f28.body.getD .skip) (envOf [.pointer x0]) w (retK prog Try.f28 Q) := by kernel_rfl
theorem ok28 : codeOk Try.f28.ntmps (Try.f28.body.getD .skip) = true := by kernel_rfl
theorem W28 {x0 : Option Addr} {w : World} {Q : Value → World → Prop} (h : F28 x0 w Q) : Calls prog 28 #[.pointer x0] w fun en w' => ∃ v, en = .returned v ∧ Q v w' :=
  calls_of_vc good follows an28 (args := [.pointer x0]) Try.func28 (by kernel_rfl) ok28 (of_decide_eq_true (by kernel_rfl)) (Eq.mp (eq28 x0 w Q) h)

/-- slices.IndexFunc[[]string,string] -/
def F29 (x0 : Sl) (x1 : Value) (w : World) (Q : Value → World → Prop) : Prop :=
 ∃ (I : Nat → Int → World → Prop) (n0 : Nat), I n0 (0 : Int) w ∧
 ∀ (n : Nat) (u : Env) (x8 : Int) (w1 : World), I n x8 w1 →
 IfB (decide (x8 < ((x0.l : Nat) : Int)))
 (∃ p14, x0.a = some p14 ∧ 0 ≤ x8 ∧ x8 < ((x0.l : Nat) : Int) ∧
 ∃ t15 : ByteArray, Ld w1 (p14.add ((x8).toNat * 1)) (.string t15) ∧
 CallV prog x1 #[.string t15] w1 fun v16 w1_1 =>
 ∃ t16 : Bool, v16 = (.bool t16) ∧
 IfB t16
 (Q (.int .i64 x8) w1_1)
 (∃ n', n' < n ∧ I n' (IntKind.wrap .i64 (x8 + (1 : Int))) w1_1))
 (Q (.int .i64 (-1)) w1)
def an29 : Ann := { cut := fun i => none, loop := fun i => bif Nat.beq i 2 then [(8, .int .i64)] else [] }
theorem eq29 (x0 : Sl) (x1 : Value) (w : World) (Q : Value → World → Prop) : F29 x0 x1 w Q = vc prog an29 (Try.f29.body.getD .skip) (envOf [.slice x0.a x0.l x0.c, x1]) w (retK prog Try.f29 Q) := by kernel_rfl
theorem ok29 : codeOk Try.f29.ntmps (Try.f29.body.getD .skip) = true := by kernel_rfl
theorem W29 {x0 : Sl} {x1 : Value} {w : World} {Q : Value → World → Prop} (h : F29 x0 x1 w Q) : Calls prog 29 #[.slice x0.a x0.l x0.c, x1] w fun en w' => ∃ v, en = .returned v ∧ Q v w' :=
  calls_of_vc good follows an29 (args := [.slice x0.a x0.l x0.c, x1]) Try.func29 (by kernel_rfl) ok29 (of_decide_eq_true (by kernel_rfl)) (Eq.mp (eq29 x0 x1 w Q) h)

/-- internal/stringslite.HasPrefix -/
def F30 (x0 : ByteArray) (x1 : ByteArray) (w : World) (Q : Value → World → Prop) : Prop :=
 IfB (decide (((x0.size : Nat) : Int) ≥ ((x1.size : Nat) : Int)))
 ((0 ≤ ((x1.size : Nat) : Int) ∧ ((x1.size : Nat) : Int) ≤ ((x0.size : Nat) : Int)) ∧
 Q (.bool ((x0.extract 0 ((((x1.size : Nat) : Int)).toNat)).toList == x1.toList)) w)
 (Q (.bool false) w)
def an30 : Ann := { cut := fun i => none, loop := fun i => [] }
theorem eq30 (x0 : ByteArray) (x1 : ByteArray) (w : World) (Q : Value → World → Prop) : F30 x0 x1 w Q = vc prog an30 (Try.f30.body.getD .skip) (envOf [.string x0, .string x1]) w (retK prog Try.f30 Q) := by kernel_rfl
theorem ok30 : codeOk Try.f30.ntmps (Try.f30.body.getD .skip) = true := by kernel_rfl
theorem W30 {x0 : ByteArray} {x1 : ByteArray} {w : World} {Q : Value → World → Prop} (h : F30 x0 x1 w Q) : Calls prog 30 #[.string x0, .string x1] w fun en w' => ∃ v, en = .returned v ∧ Q v w' :=
  calls_of_vc good follows an30 (args := [.string x0, .string x1]) Try.func30 (by kernel_rfl) ok30 (of_decide_eq_true (by kernel_rfl)) (Eq.mp (eq30 x0 x1 w Q) h)

/-- (*strings.Builder).copyCheck -/
def F31 (x0 : Option Addr) (w : World) (Q : Value → World → Prop) : Prop :=
 ∃ p3, x0 = some p3 ∧
 ∃ t5 : Option Addr, Ld w (p3.add 0) (.pointer t5) ∧
 ∃ b6 : Bool, BinIs prog .eql 51 (.tmp 5) (.const (.pointer none)) (.pointer t5) (.pointer none) b6 ∧
 IfB b6
 (RunT prog .val (convert 51 64 (.pointer x0)) w fun (t9 : Value) w1 =>
 RunN prog (callFunc 34 #[t9]) w1 fun v10 w1_1 =>
 ∃ t10 : Value, v10 = (t10) ∧
 RunT prog .ptr (convert 64 51 t10) w1_1 fun (t11 : Option Addr) w1_2 =>
 ∃ p12, x0 = some p12 ∧
 Wr w1_2 (p12.add 0) ∧ ∀ w1_3, w1_3 = w1_2.setCell (p12.add 0) (.pointer t11) →
 Q (.tuple #[]) w1_3)
 (∃ p15, x0 = some p15 ∧
 ∃ t17 : Option Addr, Ld w (p15.add 0) (.pointer t17) ∧
 RunT prog .bool (do eqGuard .neq 51 (.tmp 17) (.tmp 18) (.pointer t17) (.pointer x0); binOp .neq 51 (.pointer t17) (.pointer x0)) w fun (t19 : Bool) w1 =>
 IfB t19
 (False)
 (Q (.tuple #[]) w1))
def an31 : Ann := { cut := fun i => none, loop := fun i => [] }
theorem eq31 (x0 : Option Addr) (w : World) (Q : Value → World → Prop) : F31 x0 w Q = vc prog an31 (Try.f31.body.getD .skip) (envOf [.pointer x0]) w (retK prog Try.f31 Q) := by kernel_rfl
theorem ok31 : codeOk Try.f31.ntmps (Try.f31.body.getD .skip) = true := by kernel_rfl
theorem W31 {x0 : Option Addr} {w : World} {Q : Value → World → Prop} (h : F31 x0 w Q) : Calls prog 31 #[.pointer x0] w fun en w' => ∃ v, en = .returned v ∧ Q v w' :=
  calls_of_vc good follows an31 (args := [.pointer x0]) Try.func31 (by kernel_rfl) ok31 (of_decide_eq_true (by kernel_rfl)) (Eq.mp (eq31 x0 w Q) h)

/-- (*strings.Builder).String -/
def F32 (x0 : Option Addr) (w : World) (Q : Value → World → Prop) : Prop :=
 ∃ S : World → Prop, S w.drew ∧
 ∃ p4, x0 = some p4 ∧
 ∃ t6 : Sl, (∀ w', S w' → Ld w' (p4.add 1) (.slice t6.a t6.l t6.c)) ∧
 ∃ p9, x0 = some p9 ∧
 ∃ t11 : Sl, (∀ w', S w' → Ld w' (p9.add 1) (.slice t11.a t11.l t11.c)) ∧
 RunT prog .ptr (Builtin.unsafeSliceData_ #[30] 66 #[.slice t6.a t6.l t6.c]) w.drew fun (t7 : Option Addr) w1 =>
 S w1 ∧
 RunT prog .str (Builtin.unsafeString_ #[66, 3] 9 #[.pointer t7, .int .i64 ((t11.l : Nat) : Int)]) w1 fun (t13 : ByteArray) w1_1 =>
 Q (.string t13) w1_1
def an32 : Ann := { cut := fun i => none, loop := fun i => [] }
theorem eq32 (x0 : Option Addr) (w : World) (Q : Value → World → Prop) : F32 x0 w Q = vc prog an32 (Try.f32.body.getD .skip) (envOf [.pointer x0]) w (retK prog Try.f32 Q) := by kernel_rfl
theorem ok32 : codeOk Try.f32.ntmps (Try.f32.body.getD .skip) = true := by kernel_rfl
theorem W32 {x0 : Option Addr} {w : World} {Q : Value → World → Prop} (h : F32 x0 w Q) : Calls prog 32 #[.pointer x0] w fun en w' => ∃ v, en = .returned v ∧ Q v w' :=
  calls_of_vc good follows an32 (args := [.pointer x0]) Try.func32 (by kernel_rfl) ok32 (of_decide_eq_true (by kernel_rfl)) (Eq.mp (eq32 x0 w Q) h)

/-- (*strings.Builder).Reset -/
def F33 (x0 : Option Addr) (w : World) (Q : Value → World → Prop) : Prop :=
 ∃ p3, x0 = some p3 ∧
 Wr w (p3.add 0) ∧ ∀ w1, w1 = w.setCell (p3.add 0) (.pointer none) →
 ∃ p6, x0 = some p6 ∧
 Wr w1 (p6.add 1) ∧ ∀ w1_1, w1_1 = w1.setCell (p6.add 1) (.slice none 0 0) →
 Q (.tuple #[]) w1_1
def an33 : Ann := { cut := fun i => none, loop := fun i => [] }
theorem eq33 (x0 : Option Addr) (w : World) (Q : Value → World → Prop) : F33 x0 w Q = vc prog an33 (Try.f33.body.getD .skip) (envOf [.pointer x0]) w (retK prog Try.f33 Q) := by kernel_rfl
theorem ok33 : codeOk Try.f33.ntmps (Try.f33.body.getD .skip) = true := by kernel_rfl
theorem W33 {x0 : Option Addr} {w : World} {Q : Value → World → Prop} (h : F33 x0 w Q) : Calls prog 33 #[.pointer x0] w fun en w' => ∃ v, en = .returned v ∧ Q v w' :=
  calls_of_vc good follows an33 (args := [.pointer x0]) Try.func33 (by kernel_rfl) ok33 (of_decide_eq_true (by kernel_rfl)) (Eq.mp (eq33 x0 w Q) h)
end Go.Proofs.Ytcnjopheoeeggaa

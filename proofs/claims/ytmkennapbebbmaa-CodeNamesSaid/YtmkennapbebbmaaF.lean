/-  YtmkennapbebbmaaF: weakest preconditions of functions, by wip/gen/gen.py; each is held against the machine's code by the kernel. -/
import Derived.Test.YtmkennapbebbmaaV
import Derived.Test.YtmkennapbebbmaaProg
import Derived.Test.YtmkennapbebbmaaGood
import Derived.KernelRfl
set_option linter.unusedVariables false
set_option maxRecDepth 1000000
namespace Go.Proofs.Ytmkennapbebbmaa
open Go Go.Proofs.YtmkennapbebbmaaV

/-- bastion/bastionlaw01.CodeLays -/
def F3 (x0 : Sl) (x1 : Sl) (w : World) (Q : Value → World → Prop) : Prop :=
 ∃ J : Bool → World → Prop, (IfB (decide (((x0.l : Nat) : Int) > (5000 : Int)))
 (J true w)
 (Calls prog 11 #[.slice x1.a x1.l x1.c] w fun en w1 =>
 ∃ t18 : Bool, en = .returned (.bool t18) ∧
 J t18 w1)) ∧
 (∀ (u : Env) (x19 : Bool) (w1 : World), J x19 w1 →
 IfB x19
 (Q (.bool true) w1)
 (RunT prog .slice (Instr.makeSlice 22 (.int .i64 0) (.int .i64 (IntKind.wrap .i64 (((x0.l : Nat) : Int) + (64 : Int))))) w1 fun (t23 : Sl) w1_1 =>
 RunT prog .slice (Builtin.append_ #[22, 22] 22 #[.slice t23.a t23.l t23.c, .slice x0.a x0.l x0.c]) w1_1 fun (t25 : Sl) w1_2 =>
 RunT prog .slice (Instr.buildSlice 22 0 #[]) w1_2 fun (t26 : Sl) w1_3 =>
 RunT prog .slice (Builtin.append_ #[22, 22] 22 #[.slice t26.a t26.l t26.c, .slice x0.a x0.l x0.c]) w1_3 fun (t28 : Sl) w1_4 =>
 RunT prog .slice (Instr.buildSlice 25 1 #[(0, .slice t25.a t25.l t25.c)]) w1_4 fun (t30 : Sl) w1_5 =>
 RunT prog .str (convert 22 9 (.slice t28.a t28.l t28.c)) w1_5 fun (t32 : ByteArray) w1_6 =>
 RunT prog .slice (Instr.buildSlice 26 1 #[(0, .string t32)]) w1_6 fun (t33 : Sl) w1_7 =>
 ∃ (I : Nat → Sl → Sl → Sl → Sl → Int → World → Prop) (n0 : Nat), I n0 t25 t28 t30 t33 (0 : Int) w1_7 ∧
 ∀ (n : Nat) (u_1 : Env) (x5 : Sl) (x6 : Sl) (x7 : Sl) (x8 : Sl) (x9 : Int) (w1_8 : World), I n x5 x6 x7 x8 x9 w1_8 →
 IfB (decide (x9 < ((x1.l : Nat) : Int)))
 (∃ p42, x1.a = some p42 ∧ 0 ≤ x9 ∧ x9 < ((x1.l : Nat) : Int) ∧
 ∃ t43 : Array Value, LdA w1_8 (p42.add ((x9).toNat * 3)) 3 t43 ∧
 Calls prog 12 #[.agg t43, .slice x5.a x5.l x5.c] w1_8 fun en w1_9 =>
 ∃ t45 : Sl, en = .returned (.slice t45.a t45.l t45.c) ∧
 ∃ p48, x1.a = some p48 ∧ 0 ≤ x9 ∧ x9 < ((x1.l : Nat) : Int) ∧
 ∃ t49 : Array Value, LdA w1_9 (p48.add ((x9).toNat * 3)) 3 t49 ∧
 Calls prog 13 #[.agg t49, .slice x6.a x6.l x6.c] w1_9 fun en w1_10 =>
 ∃ t51 : Sl, en = .returned (.slice t51.a t51.l t51.c) ∧
 RunT prog .slice (Instr.buildSlice 25 1 #[(0, .slice t45.a t45.l t45.c)]) w1_10 fun (t54 : Sl) w1_11 =>
 RunT prog .slice (Builtin.append_ #[25, 25] 25 #[.slice x7.a x7.l x7.c, .slice t54.a t54.l t54.c]) w1_11 fun (t55 : Sl) w1_12 =>
 RunT prog .str (convert 22 9 (.slice t51.a t51.l t51.c)) w1_12 fun (t58 : ByteArray) w1_13 =>
 RunT prog .slice (Instr.buildSlice 26 1 #[(0, .string t58)]) w1_13 fun (t59 : Sl) w1_14 =>
 RunT prog .slice (Builtin.append_ #[26, 26] 26 #[.slice x8.a x8.l x8.c, .slice t59.a t59.l t59.c]) w1_14 fun (t60 : Sl) w1_15 =>
 ∃ n', n' < n ∧ I n' t45 t51 t55 t60 (IntKind.wrap .i64 (x9 + (1 : Int))) w1_15)
 (∃ (I_1 : Nat → Int → World → Prop) (n0_1 : Nat), I_1 n0_1 (0 : Int) w1_8 ∧
 ∀ (n_1 : Nat) (u_2 : Env) (x10 : Int) (w1_9 : World), I_1 n_1 x10 w1_9 →
 IfB (decide (x10 < ((x7.l : Nat) : Int)))
 (∃ S : World → Prop, S w1_9.drew ∧
 ∃ p69, x7.a = some p69 ∧ 0 ≤ x10 ∧ x10 < ((x7.l : Nat) : Int) ∧
 ∃ t70 : Sl, (∀ w', S w' → Ld w' (p69.add ((x10).toNat * 1)) (.slice t70.a t70.l t70.c)) ∧
 ∃ p74, x8.a = some p74 ∧ 0 ≤ x10 ∧ x10 < ((x8.l : Nat) : Int) ∧
 ∃ t75 : ByteArray, (∀ w', S w' → Ld w' (p74.add ((x10).toNat * 1)) (.string t75)) ∧
 RunT prog .str (convert 22 9 (.slice t70.a t70.l t70.c)) w1_9.drew fun (t71 : ByteArray) w1_10 =>
 S w1_10 ∧
 IfB (!(t71.toList == t75.toList))
 (Q (.bool false) w1_10)
 (∃ n', n' < n_1 ∧ I_1 n' (IntKind.wrap .i64 (x10 + (1 : Int))) w1_10))
 (∃ J_1 : World → Prop, (∃ (I_2 : Nat → Int → World → Prop) (n0_2 : Nat), I_2 n0_2 (0 : Int) w1_9 ∧
 ∀ (n_2 : Nat) (u_3 : Env) (x11 : Int) (w1_10 : World), I_2 n_2 x11 w1_10 →
 IfB (decide (x11 < ((x5.l : Nat) : Int)))
 (IfB (decide (((x1.l : Nat) : Int) > (0 : Int)))
 (∃ p92, x5.a = some p92 ∧ 0 ≤ x11 ∧ x11 < ((x5.l : Nat) : Int) ∧
 ∃ t93 : Int, Ld w1_10 (p92.add ((x11).toNat * 1)) (.int .u8 t93) ∧
 ∃ p95, x5.a = some p95 ∧ 0 ≤ x11 ∧ x11 < ((x5.l : Nat) : Int) ∧
 Wr w1_10 (p95.add ((x11).toNat * 1)) ∧ ∀ w1_11, w1_11 = w1_10.setCell (p95.add ((x11).toNat * 1)) (.int .u8 (IntKind.wrap .u8 (t93 + (1 : Int)))) →
 ∃ n', n' < n_2 ∧ I_2 n' (IntKind.wrap .i64 (x11 + (1 : Int))) w1_11)
 (J_1  w1_10))
 (J_1  w1_10)) ∧
 (∀ (u_3 : Env) (w1_10 : World), J_1  w1_10 →
 ∃ (I_2 : Nat → Int → World → Prop) (n0_2 : Nat), I_2 n0_2 (0 : Int) w1_10 ∧
 ∀ (n_2 : Nat) (u_4 : Env) (x12 : Int) (w1_11 : World), I_2 n_2 x12 w1_11 →
 IfB (decide (x12 < ((x1.l : Nat) : Int)))
 (∃ S : World → Prop, S w1_11.drew ∧
 ∃ p104, x7.a = some p104 ∧ 0 ≤ x12 ∧ x12 < ((x7.l : Nat) : Int) ∧
 ∃ t105 : Sl, (∀ w', S w' → Ld w' (p104.add ((x12).toNat * 1)) (.slice t105.a t105.l t105.c)) ∧
 ∃ p109, x8.a = some p109 ∧ 0 ≤ x12 ∧ x12 < ((x8.l : Nat) : Int) ∧
 ∃ t110 : ByteArray, (∀ w', S w' → Ld w' (p109.add ((x12).toNat * 1)) (.string t110)) ∧
 RunT prog .str (convert 22 9 (.slice t105.a t105.l t105.c)) w1_11.drew fun (t106 : ByteArray) w1_12 =>
 S w1_12 ∧
 IfB (!(t106.toList == t110.toList))
 (Q (.bool false) w1_12)
 (∃ n', n' < n_2 ∧ I_2 n' (IntKind.wrap .i64 (x12 + (1 : Int))) w1_12))
 (Q (.bool true) w1_11))))))
def an3 : Ann := { cut := fun i => bif Nat.beq i 2 then some [(19, .bool)] else bif Nat.beq i 23 then some [] else none, loop := fun i => bif Nat.beq i 8 then [(5, .slice), (6, .slice), (7, .slice), (8, .slice), (9, .int .i64)] else bif Nat.beq i 15 then [(10, .int .i64)] else bif Nat.beq i 20 then [(11, .int .i64)] else bif Nat.beq i 24 then [(12, .int .i64)] else [] }
theorem eq3 (x0 : Sl) (x1 : Sl) (w : World) (Q : Value → World → Prop) : F3 x0 x1 w Q = vc prog an3 (Try.f3.body.getD .skip) (envOf [.slice x0.a x0.l x0.c, .slice x1.a x1.l x1.c]) w (retK prog Try.f3 Q) := by kernel_rfl
theorem ok3 : codeOk Try.f3.ntmps (Try.f3.body.getD .skip) = true := by kernel_rfl
theorem W3 {x0 : Sl} {x1 : Sl} {w : World} {Q : Value → World → Prop} (h : F3 x0 x1 w Q) : Calls prog 3 #[.slice x0.a x0.l x0.c, .slice x1.a x1.l x1.c] w fun en w' => ∃ v, en = .returned v ∧ Q v w' :=
  calls_of_vc good follows an3 (args := [.slice x0.a x0.l x0.c, .slice x1.a x1.l x1.c]) Try.func3 (by kernel_rfl) ok3 (of_decide_eq_true (by kernel_rfl)) (Eq.mp (eq3 x0 x1 w Q) h)

/-- bastion/bastionlaw01.CodeTurns -/
def F4 (x0 : Sl) (x1 : Sl) (x2 : Sl) (w : World) (Q : Value → World → Prop) : Prop :=
 ∃ J : Bool → World → Prop, (IfB (decide (((x0.l : Nat) : Int) > (5000 : Int)))
 (J true w)
 (Calls prog 11 #[.slice x1.a x1.l x1.c] w fun en w1 =>
 ∃ t18 : Bool, en = .returned (.bool t18) ∧
 IfB t18
 (J true w1)
 (Calls prog 11 #[.slice x2.a x2.l x2.c] w1 fun en w1_1 =>
 ∃ t22 : Bool, en = .returned (.bool t22) ∧
 J t22 w1_1))) ∧
 (∀ (u : Env) (x23 : Bool) (w1 : World), J x23 w1 →
 IfB x23
 (Q (.bool true) w1)
 (RunT prog .slice (Instr.buildSlice 22 0 #[]) w1 fun (t24 : Sl) w1_1 =>
 RunT prog .slice (Builtin.append_ #[22, 22] 22 #[.slice t24.a t24.l t24.c, .slice x0.a x0.l x0.c]) w1_1 fun (t26 : Sl) w1_2 =>
 Calls prog 14 #[.slice t26.a t26.l t26.c] w1_2 fun en w1_3 =>
 ∃ t28 : Option Addr, en = .returned (.pointer t28) ∧
 Calls prog 14 #[.slice t26.a t26.l t26.c] w1_3 fun en w1_4 =>
 ∃ t30 : Option Addr, en = .returned (.pointer t30) ∧
 Calls prog 15 #[.slice x0.a x0.l x0.c] w1_4 fun en w1_5 =>
 ∃ t32 : Option Addr, en = .returned (.pointer t32) ∧
 Calls prog 15 #[.slice x0.a x0.l x0.c] w1_5 fun en w1_6 =>
 ∃ t34 : Option Addr, en = .returned (.pointer t34) ∧
 ∃ (I : Nat → Int → World → Prop) (n0 : Nat), I n0 (0 : Int) w1_6 ∧
 ∀ (n : Nat) (u_1 : Env) (x12 : Int) (w1_7 : World), I n x12 w1_7 →
 ∃ J_1 : World → Prop, (IfB (decide (x12 < ((x1.l : Nat) : Int)))
 (J_1  w1_7)
 (IfB (decide (x12 < ((x2.l : Nat) : Int)))
 (J_1  w1_7)
 (Calls prog 22 #[.pointer t28] w1_7 fun en w1_8 =>
 ∃ t140 : Bool, en = .returned (.bool t140) ∧
 Calls prog 23 #[.pointer t32] w1_8 fun en w1_9 =>
 ∃ t142 : Bool, en = .returned (.bool t142) ∧
 ∃ b143 : Bool, BinIs prog .eql 4 (.tmp 140) (.tmp 142) (.bool t140) (.bool t142) b143 ∧
 IfB b143
 (Calls prog 20 #[.pointer t30] w1_9 fun en w1_10 =>
 ∃ t146 : Int, en = .returned (.int .i64 t146) ∧
 Calls prog 21 #[.pointer t34] w1_10 fun en w1_11 =>
 ∃ t148 : Int, en = .returned (.int .i64 t148) ∧
 Q (.bool (t146 == t148)) w1_11)
 (Q (.bool false) w1_9)))) ∧
 (∀ (u_2 : Env) (w1_8 : World), J_1  w1_8 →
 ∃ J_2 : World → Prop, (IfB (decide (x12 < ((t26.l : Nat) : Int)))
 (∃ p55, t26.a = some p55 ∧ 0 ≤ x12 ∧ x12 < ((t26.l : Nat) : Int) ∧
 ∃ t56 : Int, Ld w1_8 (p55.add ((x12).toNat * 1)) (.int .u8 t56) ∧
 ∃ p58, t26.a = some p58 ∧ 0 ≤ x12 ∧ x12 < ((t26.l : Nat) : Int) ∧
 Wr w1_8 (p58.add ((x12).toNat * 1)) ∧ ∀ w1_9, w1_9 = w1_8.setCell (p58.add ((x12).toNat * 1)) (.int .u8 (IntKind.wrap .u8 (t56 + (77 : Int)))) →
 J_2  w1_9)
 (J_2  w1_8)) ∧
 (∀ (u_3 : Env) (w1_9 : World), J_2  w1_9 →
 ∃ J_3 : Bool → World → Prop, (∃ S : World → Prop, S w1_9.drew ∧
 IfB (decide (x12 < ((x1.l : Nat) : Int)))
 (∃ p66, x1.a = some p66 ∧ 0 ≤ x12 ∧ x12 < ((x1.l : Nat) : Int) ∧
 ∃ t67 : Array Value, (∀ w', S w' → LdA w' (p66.add ((x12).toNat * 3)) 3 t67) ∧
 ∃ p72, x1.a = some p72 ∧ 0 ≤ x12 ∧ x12 < ((x1.l : Nat) : Int) ∧
 ∃ t73 : Array Value, (∀ w', S w' → LdA w' (p72.add ((x12).toNat * 3)) 3 t73) ∧
 Calls prog 16 #[.agg t67, .pointer t28] w1_9.drew fun en w1_10 =>
 ∃ t69 : Array Value, en = .returned (.agg t69) ∧
 ∃ S_1 : World → Prop, (∀ w', S_1 w' → S w') ∧ S_1 w1_10 ∧
 Calls prog 17 #[.agg t73, .pointer t32] w1_10 fun en w1_11 =>
 ∃ t75 : Array Value, en = .returned (.agg t75) ∧
 ∃ S_2 : World → Prop, (∀ w', S_2 w' → S_1 w') ∧ S_2 w1_11 ∧
 ∃ b76 : Bool, BinIs prog .neq 36 (.tmp 69) (.tmp 75) (.agg t69) (.agg t75) b76 ∧
 IfB b76
 (J_3 true w1_11)
 (IfB (decide (x12 < ((x2.l : Nat) : Int)))
 (∃ p86, x2.a = some p86 ∧ 0 ≤ x12 ∧ x12 < ((x2.l : Nat) : Int) ∧
 ∃ t87 : Array Value, (∀ w', S_2 w' → LdA w' (p86.add ((x12).toNat * 3)) 3 t87) ∧
 ∃ p92, x2.a = some p92 ∧ 0 ≤ x12 ∧ x12 < ((x2.l : Nat) : Int) ∧
 ∃ t93 : Array Value, (∀ w', S_2 w' → LdA w' (p92.add ((x12).toNat * 3)) 3 t93) ∧
 Calls prog 16 #[.agg t87, .pointer t30] w1_11 fun en w1_12 =>
 ∃ t89 : Array Value, en = .returned (.agg t89) ∧
 S_2 w1_12 ∧
 Calls prog 17 #[.agg t93, .pointer t34] w1_12 fun en w1_13 =>
 ∃ t95 : Array Value, en = .returned (.agg t95) ∧
 ∃ b96 : Bool, BinIs prog .neq 36 (.tmp 89) (.tmp 95) (.agg t89) (.agg t95) b96 ∧
 J_3 b96 w1_13)
 (J_3 false w1_11)))
 (IfB (decide (x12 < ((x2.l : Nat) : Int)))
 (∃ p86, x2.a = some p86 ∧ 0 ≤ x12 ∧ x12 < ((x2.l : Nat) : Int) ∧
 ∃ t87 : Array Value, (∀ w', S w' → LdA w' (p86.add ((x12).toNat * 3)) 3 t87) ∧
 ∃ p92, x2.a = some p92 ∧ 0 ≤ x12 ∧ x12 < ((x2.l : Nat) : Int) ∧
 ∃ t93 : Array Value, (∀ w', S w' → LdA w' (p92.add ((x12).toNat * 3)) 3 t93) ∧
 Calls prog 16 #[.agg t87, .pointer t30] w1_9.drew fun en w1_10 =>
 ∃ t89 : Array Value, en = .returned (.agg t89) ∧
 S w1_10 ∧
 Calls prog 17 #[.agg t93, .pointer t34] w1_10 fun en w1_11 =>
 ∃ t95 : Array Value, en = .returned (.agg t95) ∧
 ∃ b96 : Bool, BinIs prog .neq 36 (.tmp 89) (.tmp 95) (.agg t89) (.agg t95) b96 ∧
 J_3 b96 w1_11)
 (J_3 false w1_9.drew))) ∧
 (∀ (u_4 : Env) (x98 : Bool) (w1_10 : World), J_3 x98 w1_10 →
 IfB x98
 (Q (.bool false) w1_10)
 (Calls prog 18 #[.pointer t28] w1_10 fun en w1_11 =>
 ∃ t100 : Bool, en = .returned (.bool t100) ∧
 Calls prog 19 #[.pointer t32] w1_11 fun en w1_12 =>
 ∃ t102 : Bool, en = .returned (.bool t102) ∧
 ∃ b103 : Bool, BinIs prog .neq 4 (.tmp 100) (.tmp 102) (.bool t100) (.bool t102) b103 ∧
 IfB b103
 (Q (.bool false) w1_12)
 (Calls prog 20 #[.pointer t28] w1_12 fun en w1_13 =>
 ∃ t106 : Int, en = .returned (.int .i64 t106) ∧
 Calls prog 21 #[.pointer t32] w1_13 fun en w1_14 =>
 ∃ t108 : Int, en = .returned (.int .i64 t108) ∧
 IfB (t106 != t108)
 (Q (.bool false) w1_14)
 (Calls prog 22 #[.pointer t28] w1_14 fun en w1_15 =>
 ∃ t113 : Bool, en = .returned (.bool t113) ∧
 Calls prog 23 #[.pointer t32] w1_15 fun en w1_16 =>
 ∃ t115 : Bool, en = .returned (.bool t115) ∧
 ∃ b116 : Bool, BinIs prog .neq 4 (.tmp 113) (.tmp 115) (.bool t113) (.bool t115) b116 ∧
 IfB b116
 (Q (.bool false) w1_16)
 (Calls prog 18 #[.pointer t30] w1_16 fun en w1_17 =>
 ∃ t120 : Bool, en = .returned (.bool t120) ∧
 Calls prog 19 #[.pointer t34] w1_17 fun en w1_18 =>
 ∃ t122 : Bool, en = .returned (.bool t122) ∧
 ∃ b123 : Bool, BinIs prog .neq 4 (.tmp 120) (.tmp 122) (.bool t120) (.bool t122) b123 ∧
 IfB b123
 (Q (.bool false) w1_18)
 (Calls prog 20 #[.pointer t30] w1_18 fun en w1_19 =>
 ∃ t127 : Int, en = .returned (.int .i64 t127) ∧
 Calls prog 21 #[.pointer t34] w1_19 fun en w1_20 =>
 ∃ t129 : Int, en = .returned (.int .i64 t129) ∧
 IfB (t127 != t129)
 (Q (.bool false) w1_20)
 (Calls prog 22 #[.pointer t30] w1_20 fun en w1_21 =>
 ∃ t134 : Bool, en = .returned (.bool t134) ∧
 Calls prog 23 #[.pointer t34] w1_21 fun en w1_22 =>
 ∃ t136 : Bool, en = .returned (.bool t136) ∧
 ∃ b137 : Bool, BinIs prog .neq 4 (.tmp 134) (.tmp 136) (.bool t134) (.bool t136) b137 ∧
 IfB b137
 (Q (.bool false) w1_22)
 (∃ n', n' < n ∧ I n' (IntKind.wrap .i64 (x12 + (1 : Int))) w1_22))))))))))))
def an4 : Ann := { cut := fun i => bif Nat.beq i 2 then some [(23, .bool)] else bif Nat.beq i 9 then some [] else bif Nat.beq i 11 then some [] else bif Nat.beq i 12 then some [(98, .bool)] else none, loop := fun i => bif Nat.beq i 7 then [(12, .int .i64)] else [] }
theorem eq4 (x0 : Sl) (x1 : Sl) (x2 : Sl) (w : World) (Q : Value → World → Prop) : F4 x0 x1 x2 w Q = vc prog an4 (Try.f4.body.getD .skip) (envOf [.slice x0.a x0.l x0.c, .slice x1.a x1.l x1.c, .slice x2.a x2.l x2.c]) w (retK prog Try.f4 Q) := by kernel_rfl
theorem ok4 : codeOk Try.f4.ntmps (Try.f4.body.getD .skip) = true := by kernel_rfl
theorem W4 {x0 : Sl} {x1 : Sl} {x2 : Sl} {w : World} {Q : Value → World → Prop} (h : F4 x0 x1 x2 w Q) : Calls prog 4 #[.slice x0.a x0.l x0.c, .slice x1.a x1.l x1.c, .slice x2.a x2.l x2.c] w fun en w' => ∃ v, en = .returned v ∧ Q v w' :=
  calls_of_vc good follows an4 (args := [.slice x0.a x0.l x0.c, .slice x1.a x1.l x1.c, .slice x2.a x2.l x2.c]) Try.func4 (by kernel_rfl) ok4 (of_decide_eq_true (by kernel_rfl)) (Eq.mp (eq4 x0 x1 x2 w Q) h)

/-- bastion/bastionlaw01.CodeNames -/
def F5 (w : World) (Q : Value → World → Prop) : Prop :=
 ∃ J : Bool → World → Prop, (Calls prog 24 #[] w fun en w1 =>
 ∃ t7 : Bool, en = .returned (.bool t7) ∧
 IfB (!t7)
 (J true w1)
 (Calls prog 18 #[.pointer none] w1 fun en w1_1 =>
 ∃ t13 : Bool, en = .returned (.bool t13) ∧
 IfB t13
 (J true w1_1)
 (Calls prog 22 #[.pointer none] w1_1 fun en w1_2 =>
 ∃ t17 : Bool, en = .returned (.bool t17) ∧
 IfB t17
 (J true w1_2)
 (Calls prog 20 #[.pointer none] w1_2 fun en w1_3 =>
 ∃ t21 : Int, en = .returned (.int .i64 t21) ∧
 IfB (t21 != (0 : Int))
 (J true w1_3)
 (Calls prog 25 #[.pointer none] w1_3 fun en w1_4 =>
 ∃ t26 : Int, en = .returned (.int .i64 t26) ∧
 IfB (t26 != (0 : Int))
 (J true w1_4)
 (Calls prog 26 #[.pointer none, .int .i64 1] w1_4 fun en w1_5 =>
 ∃ t31 : Int, en = .returned (.int .i64 t31) ∧
 IfB (t31 != (0 : Int))
 (J true w1_5)
 (Calls prog 27 #[.pointer none, .int .i64 1] w1_5 fun en w1_6 =>
 ∃ t36 : ByteArray, en = .returned (.string t36) ∧
 IfB (!(t36.toList == (⟨#[]⟩ : ByteArray).toList))
 (J true w1_6)
 (Calls prog 28 #[.pointer none] w1_6 fun en w1_7 =>
 ∃ t41 : Bool, en = .returned (.bool t41) ∧
 J t41 w1_7)))))))) ∧
 (∀ (u : Env) (x42 : Bool) (w1 : World), J x42 w1 →
 IfB x42
 (Q (.bool false) w1)
 (∃ t43 : Array Value, BuildIs prog 28 #[(0, .int .u8 1), (1, .int .i64 (-5))] t43 ∧
 ∃ t44 : Array Value, BuildIs prog 45 #[(0, .agg t43), (1, .string (⟨#[]⟩ : ByteArray))] t44 ∧
 ∃ t45 : Array Value, BuildIs prog 28 #[(0, .int .u8 1), (1, .int .i64 2147483648)] t45 ∧
 ∃ t46 : Array Value, BuildIs prog 45 #[(0, .agg t45), (1, .string (⟨#[]⟩ : ByteArray))] t46 ∧
 ∃ t47 : Array Value, BuildIs prog 28 #[(0, .int .u8 1), (1, .int .i64 2147483647)] t47 ∧
 ∃ t48 : Array Value, BuildIs prog 45 #[(0, .agg t47), (1, .string (⟨#[255, 255, 255, 255, 7]⟩ : ByteArray))] t48 ∧
 ∃ t49 : Array Value, BuildIs prog 28 #[(0, .int .u8 1)] t49 ∧
 ∃ t50 : Array Value, BuildIs prog 45 #[(0, .agg t49), (1, .string (⟨#[0]⟩ : ByteArray))] t50 ∧
 ∃ t51 : Array Value, BuildIs prog 28 #[(1, .int .i64 64)] t51 ∧
 ∃ t52 : Array Value, BuildIs prog 45 #[(0, .agg t51), (1, .string (⟨#[128, 1]⟩ : ByteArray))] t52 ∧
 ∃ t53 : Array Value, BuildIs prog 28 #[(1, .int .i64 (-64))] t53 ∧
 ∃ t54 : Array Value, BuildIs prog 45 #[(0, .agg t53), (1, .string (⟨#[127]⟩ : ByteArray))] t54 ∧
 ∃ t55 : Array Value, BuildIs prog 28 #[(1, .int .i64 9223372036854775807)] t55 ∧
 ∃ t56 : Array Value, BuildIs prog 45 #[(0, .agg t55), (1, .string (⟨#[254, 255, 255, 255, 255, 255, 255, 255, 255, 1]⟩ : ByteArray))] t56 ∧
 ∃ t57 : Array Value, BuildIs prog 28 #[(1, .int .i64 (-9223372036854775808))] t57 ∧
 ∃ t58 : Array Value, BuildIs prog 45 #[(0, .agg t57), (1, .string (⟨#[255, 255, 255, 255, 255, 255, 255, 255, 255, 1]⟩ : ByteArray))] t58 ∧
 ∃ t59 : Array Value, BuildIs prog 28 #[(0, .int .u8 2)] t59 ∧
 ∃ t60 : Array Value, BuildIs prog 45 #[(0, .agg t59), (1, .string (⟨#[0]⟩ : ByteArray))] t60 ∧
 ∃ t61 : Array Value, BuildIs prog 28 #[(0, .int .u8 3), (1, .int .i64 1)] t61 ∧
 ∃ t62 : Array Value, BuildIs prog 45 #[(0, .agg t61), (1, .string (⟨#[1]⟩ : ByteArray))] t62 ∧
 RunT prog .slice (Instr.buildSlice 46 10 #[(0, .agg t44), (1, .agg t46), (2, .agg t48), (3, .agg t50), (4, .agg t52), (5, .agg t54), (6, .agg t56), (7, .agg t58), (8, .agg t60), (9, .agg t62)]) w1 fun (t63 : Sl) w1_1 =>
 ∃ (I : Nat → Int → World → Prop) (n0 : Nat), I n0 (0 : Int) w1_1 ∧
 ∀ (n : Nat) (u_1 : Env) (x65 : Int) (w1_2 : World), I n x65 w1_2 →
 IfB (decide (x65 < ((t63.l : Nat) : Int)))
 (∃ p67, t63.a = some p67 ∧ 0 ≤ x65 ∧ x65 < ((t63.l : Nat) : Int) ∧
 ∃ t68 : Array Value, LdA w1_2 (p67.add ((x65).toNat * 4)) 4 t68 ∧
 ∀ b3 w1_3, NewB w1_2 (.cells #[.int .u8 0, .int .i64 0, .string (⟨#[]⟩ : ByteArray), .string (⟨#[]⟩ : ByteArray)] 45) b3 w1_3 →
 t68.size = 4 ∧ (∀ u, u ∈ t68.toList → u.oneCell' = true) ∧ WrA w1_3 (⟨b3, 0, none⟩ : Addr) 4 ∧ ∀ w1_4, w1_4 = setAt w1_3 (⟨b3, 0, none⟩ : Addr) t68.toList 0 →
 ∃ S : World → Prop, S w1_4.drew ∧
 ∃ t70 : Array Value, (∀ w', S w' → LdA w' ((⟨b3, 0, none⟩ : Addr).add 0) 3 t70) ∧
 ∃ t76 : ByteArray, (∀ w', S w' → Ld w' ((⟨b3, 0, none⟩ : Addr).add 3) (.string t76)) ∧
 (⟨#[98]⟩ : ByteArray).size + t76.size ≤ 9223372036854775807 ∧
 RunT prog .slice (Instr.buildSlice 22 1 #[(0, .int .u8 98)]) w1_4.drew fun (t71 : Sl) w1_5 =>
 S w1_5 ∧
 RunT prog .slice (convert 22 22 (.slice t71.a t71.l t71.c)) w1_5 fun (t72 : Sl) w1_6 =>
 S w1_6 ∧
 Calls prog 12 #[.agg t70, .slice t72.a t72.l t72.c] w1_6 fun en w1_7 =>
 ∃ t73 : Sl, en = .returned (.slice t73.a t73.l t73.c) ∧
 S w1_7 ∧
 RunT prog .str (convert 22 9 (.slice t73.a t73.l t73.c)) w1_7 fun (t74 : ByteArray) w1_8 =>
 S w1_8 ∧
 IfB (!(t74.toList == ((⟨#[98]⟩ : ByteArray) ++ t76).toList))
 (Q (.bool false) w1_8)
 (∃ n', n' < n ∧ I n' (IntKind.wrap .i64 (x65 + (1 : Int))) w1_8))
 (∃ t80 : Array Value, BuildIs prog 28 #[(0, .int .u8 1), (1, .int .i64 299)] t80 ∧
 ∃ t81 : Array Value, BuildIs prog 47 #[(0, .string (⟨#[172, 2, 2, 110, 111, 5, 0]⟩ : ByteArray)), (1, .agg t80)] t81 ∧
 ∃ t82 : Array Value, BuildIs prog 28 #[] t82 ∧
 ∃ t83 : Array Value, BuildIs prog 47 #[(0, .string (⟨#[129, 0]⟩ : ByteArray)), (1, .agg t82)] t83 ∧
 ∃ t84 : Array Value, BuildIs prog 28 #[(0, .int .u8 3)] t84 ∧
 ∃ t85 : Array Value, BuildIs prog 47 #[(0, .string (⟨#[2]⟩ : ByteArray)), (1, .agg t84)] t85 ∧
 ∃ t86 : Array Value, BuildIs prog 28 #[(0, .int .u8 1), (1, .int .i64 9)] t86 ∧
 ∃ t87 : Array Value, BuildIs prog 47 #[(0, .string (⟨#[131]⟩ : ByteArray)), (1, .agg t86)] t87 ∧
 ∃ t88 : Array Value, BuildIs prog 28 #[(0, .int .u8 2), (1, .int .i64 9)] t88 ∧
 ∃ t89 : Array Value, BuildIs prog 47 #[(0, .string (⟨#[3, 110, 111]⟩ : ByteArray)), (1, .agg t88)] t89 ∧
 ∃ t90 : Array Value, BuildIs prog 28 #[] t90 ∧
 ∃ t91 : Array Value, BuildIs prog 47 #[(0, .string (⟨#[]⟩ : ByteArray)), (1, .agg t90)] t91 ∧
 ∃ t92 : Array Value, BuildIs prog 28 #[(0, .int .u8 2)] t92 ∧
 ∃ t93 : Array Value, BuildIs prog 47 #[(0, .string (⟨#[]⟩ : ByteArray)), (1, .agg t92)] t93 ∧
 ∃ t94 : Array Value, BuildIs prog 28 #[(0, .int .u8 1), (1, .int .i64 (-1))] t94 ∧
 ∃ t95 : Array Value, BuildIs prog 47 #[(0, .string (⟨#[0]⟩ : ByteArray)), (1, .agg t94)] t95 ∧
 ∃ t96 : Array Value, BuildIs prog 28 #[(0, .int .u8 2), (1, .int .i64 (-1))] t96 ∧
 ∃ t97 : Array Value, BuildIs prog 47 #[(0, .string (⟨#[0]⟩ : ByteArray)), (1, .agg t96)] t97 ∧
 ∃ t98 : Array Value, BuildIs prog 28 #[(0, .int .u8 2), (1, .int .i64 1)] t98 ∧
 ∃ t99 : Array Value, BuildIs prog 47 #[(0, .string (⟨#[2, 110, 111]⟩ : ByteArray)), (1, .agg t98)] t99 ∧
 ∃ t100 : Array Value, BuildIs prog 28 #[] t100 ∧
 ∃ t101 : Array Value, BuildIs prog 47 #[(0, .string (⟨#[255, 255, 255, 255, 255, 255, 255, 255, 255, 3]⟩ : ByteArray)), (1, .agg t100)] t101 ∧
 ∃ t102 : Array Value, BuildIs prog 28 #[] t102 ∧
 ∃ t103 : Array Value, BuildIs prog 47 #[(0, .string (⟨#[128, 128, 128, 128, 128, 128, 128, 128, 128, 128, 1]⟩ : ByteArray)), (1, .agg t102)] t103 ∧
 ∃ t104 : Array Value, BuildIs prog 28 #[(0, .int .u8 1), (1, .int .i64 4611686018427387904)] t104 ∧
 ∃ t105 : Array Value, BuildIs prog 47 #[(0, .string (⟨#[128, 128, 128, 128, 8]⟩ : ByteArray)), (1, .agg t104)] t105 ∧
 ∃ t106 : Array Value, BuildIs prog 28 #[(0, .int .u8 1), (1, .int .i64 4611686018427387904)] t106 ∧
 ∃ t107 : Array Value, BuildIs prog 47 #[(0, .string (⟨#[128, 128, 128, 128, 128, 128, 128, 128, 128, 1]⟩ : ByteArray)), (1, .agg t106)] t107 ∧
 RunT prog .slice (Instr.buildSlice 48 14 #[(0, .agg t81), (1, .agg t83), (2, .agg t85), (3, .agg t87), (4, .agg t89), (5, .agg t91), (6, .agg t93), (7, .agg t95), (8, .agg t97), (9, .agg t99), (10, .agg t101), (11, .agg t103), (12, .agg t105), (13, .agg t107)]) w1_2 fun (t108 : Sl) w1_3 =>
 ∃ (I_1 : Nat → Int → World → Prop) (n0_1 : Nat), I_1 n0_1 (0 : Int) w1_3 ∧
 ∀ (n_1 : Nat) (u_2 : Env) (x110 : Int) (w1_4 : World), I_1 n_1 x110 w1_4 →
 IfB (decide (x110 < ((t108.l : Nat) : Int)))
 (∃ p112, t108.a = some p112 ∧ 0 ≤ x110 ∧ x110 < ((t108.l : Nat) : Int) ∧
 ∃ t113 : Array Value, LdA w1_4 (p112.add ((x110).toNat * 4)) 4 t113 ∧
 ∀ b5 w1_5, NewB w1_4 (.cells #[.string (⟨#[]⟩ : ByteArray), .int .u8 0, .int .i64 0, .string (⟨#[]⟩ : ByteArray)] 47) b5 w1_5 →
 t113.size = 4 ∧ (∀ u, u ∈ t113.toList → u.oneCell' = true) ∧ WrA w1_5 (⟨b5, 0, none⟩ : Addr) 4 ∧ ∀ w1_6, w1_6 = setAt w1_5 (⟨b5, 0, none⟩ : Addr) t113.toList 0 →
 ∃ t115 : ByteArray, Ld w1_6 ((⟨b5, 0, none⟩ : Addr).add 0) (.string t115) ∧
 ∃ t117 : Array Value, LdA w1_6 ((⟨b5, 0, none⟩ : Addr).add 1) 3 t117 ∧
 Calls prog 29 #[.string t115, .agg t117] w1_6 fun en w1_7 =>
 ∃ t118 : Bool, en = .returned (.bool t118) ∧
 IfB (!t118)
 (Q (.bool false) w1_7)
 (∃ n', n' < n_1 ∧ I_1 n' (IntKind.wrap .i64 (x110 + (1 : Int))) w1_7))
 (RunT prog .slice (Instr.buildSlice 22 11 #[(0, .int .u8 255), (1, .int .u8 255), (2, .int .u8 255), (3, .int .u8 255), (4, .int .u8 255), (5, .int .u8 255), (6, .int .u8 255), (7, .int .u8 255), (8, .int .u8 255), (9, .int .u8 1), (10, .int .u8 33)]) w1_4 fun (t121 : Sl) w1_5 =>
 RunT prog .slice (convert 22 22 (.slice t121.a t121.l t121.c)) w1_5 fun (t122 : Sl) w1_6 =>
 Calls prog 14 #[.slice t122.a t122.l t122.c] w1_6 fun en w1_7 =>
 ∃ t123 : Option Addr, en = .returned (.pointer t123) ∧
 Calls prog 25 #[.pointer t123] w1_7 fun en w1_8 =>
 ∃ t125 : Int, en = .returned (.int .i64 t125) ∧
 IfB (t125 == (-9223372036854775808 : Int))
 (Calls prog 20 #[.pointer t123] w1_8 fun en w1_9 =>
 ∃ t129 : Int, en = .returned (.int .i64 t129) ∧
 IfB (t129 == (1 : Int))
 (Calls prog 18 #[.pointer t123] w1_9 fun en w1_10 =>
 ∃ t134 : Bool, en = .returned (.bool t134) ∧
 IfB t134
 (Calls prog 22 #[.pointer t123] w1_10 fun en w1_11 =>
 ∃ t138 : Bool, en = .returned (.bool t138) ∧
 Q (.bool (!t138)) w1_11)
 (Q (.bool false) w1_10))
 (Q (.bool false) w1_9))
 (Q (.bool false) w1_8)))))
def an5 : Ann := { cut := fun i => bif Nat.beq i 3 then some [(42, .bool)] else none, loop := fun i => bif Nat.beq i 5 then [(65, .int .i64)] else bif Nat.beq i 11 then [(110, .int .i64)] else [] }
theorem eq5 (w : World) (Q : Value → World → Prop) : F5  w Q = vc prog an5 (Try.f5.body.getD .skip) (envOf []) w (retK prog Try.f5 Q) := by kernel_rfl
theorem ok5 : codeOk Try.f5.ntmps (Try.f5.body.getD .skip) = true := by kernel_rfl
theorem W5 {w : World} {Q : Value → World → Prop} (h : F5  w Q) : Calls prog 5 #[] w fun en w' => ∃ v, en = .returned v ∧ Q v w' :=
  calls_of_vc good follows an5 (args := []) Try.func5 (by kernel_rfl) ok5 (of_decide_eq_true (by kernel_rfl)) (Eq.mp (eq5  w Q) h)

/-- bastion/bastionlaw01.CodeApart -/
def F6 (x0 : Array Value) (x1 : Array Value) (w : World) (Q : Value → World → Prop) : Prop :=
 ∀ b2 w1, NewB w (.cells x0 28) b2 w1 →
 ∀ b3 w1_1, NewB w1 (.cells x1 28) b3 w1_1 →
 ∃ J : Bool → World → Prop, (Calls prog 24 #[] w1_1 fun en w1_2 =>
 ∃ t8 : Bool, en = .returned (.bool t8) ∧
 IfB (!t8)
 (J true w1_2)
 (∃ t12 : ByteArray, Ld w1_2 ((⟨b2, 0, none⟩ : Addr).add 2) (.string t12) ∧
 ∃ t15 : ByteArray, Ld w1_2 ((⟨b3, 0, none⟩ : Addr).add 2) (.string t15) ∧
 J (decide (IntKind.wrap .i64 (((t12.size : Nat) : Int) + ((t15.size : Nat) : Int)) > (100000 : Int))) w1_2)) ∧
 (∀ (u : Env) (x19 : Bool) (w1_2 : World), J x19 w1_2 →
 IfB x19
 (Calls prog 24 #[] w1_2 fun en w1_3 =>
 ∃ t20 : Bool, en = .returned (.bool t20) ∧
 Q (.bool t20) w1_3)
 (∃ t22 : Int, Ld w1_2 ((⟨b2, 0, none⟩ : Addr).add 0) (.int .u8 t22) ∧
 Wr w1_2 ((⟨b3, 0, none⟩ : Addr).add 0) ∧ ∀ w1_3, w1_3 = w1_2.setCell ((⟨b3, 0, none⟩ : Addr).add 0) (.int .u8 t22) →
 ∃ J_1 : Bool → World → Prop, (∃ t24 : Array Value, LdA w1_3 (⟨b2, 0, none⟩ : Addr) 3 t24 ∧
 Calls prog 30 #[.agg t24] w1_3 fun en w1_4 =>
 ∃ t25 : Bool, en = .returned (.bool t25) ∧
 IfB (!t25)
 (J_1 true w1_4)
 (∃ t28 : Array Value, LdA w1_4 (⟨b3, 0, none⟩ : Addr) 3 t28 ∧
 Calls prog 30 #[.agg t28] w1_4 fun en w1_5 =>
 ∃ t29 : Bool, en = .returned (.bool t29) ∧
 J_1 (!t29) w1_5)) ∧
 (∀ (u_1 : Env) (x31 : Bool) (w1_4 : World), J_1 x31 w1_4 →
 IfB x31
 (∃ t32 : Array Value, LdA w1_4 (⟨b2, 0, none⟩ : Addr) 3 t32 ∧
 Calls prog 12 #[.agg t32, .slice none 0 0] w1_4 fun en w1_5 =>
 ∃ t33 : Sl, en = .returned (.slice t33.a t33.l t33.c) ∧
 IfB (((t33.l : Nat) : Int) == (0 : Int))
 (Q (.bool true) w1_5)
 (∃ t37 : Array Value, LdA w1_5 (⟨b3, 0, none⟩ : Addr) 3 t37 ∧
 Calls prog 12 #[.agg t37, .slice none 0 0] w1_5 fun en w1_6 =>
 ∃ t38 : Sl, en = .returned (.slice t38.a t38.l t38.c) ∧
 Q (.bool (((t38.l : Nat) : Int) == (0 : Int))) w1_6))
 (∃ t43 : Int, Ld w1_4 ((⟨b2, 0, none⟩ : Addr).add 1) (.int .i64 t43) ∧
 ∃ t45 : Int, Ld w1_4 ((⟨b3, 0, none⟩ : Addr).add 1) (.int .i64 t45) ∧
 ∃ J_2 : Bool → World → Prop, (∃ t49 : Int, Ld w1_4 ((⟨b2, 0, none⟩ : Addr).add 0) (.int .u8 t49) ∧
 IfB (t49 == (2 : Int))
 (∃ t52 : ByteArray, Ld w1_4 ((⟨b2, 0, none⟩ : Addr).add 2) (.string t52) ∧
 ∃ t54 : ByteArray, Ld w1_4 ((⟨b3, 0, none⟩ : Addr).add 2) (.string t54) ∧
 J_2 (t52.toList == t54.toList) w1_4)
 (∃ t58 : Int, Ld w1_4 ((⟨b2, 0, none⟩ : Addr).add 0) (.int .u8 t58) ∧
 IfB (decide (t58 > (2 : Int)))
 (∃ t61 : Int, Ld w1_4 ((⟨b2, 0, none⟩ : Addr).add 1) (.int .i64 t61) ∧
 (2 : Int) ≠ 0 ∧
 ∃ t65 : Int, Ld w1_4 ((⟨b3, 0, none⟩ : Addr).add 1) (.int .i64 t65) ∧
 (2 : Int) ≠ 0 ∧
 ∃ b68 : Bool, BinIs prog .eql 4 (.tmp 63) (.tmp 67) (.bool (Int.tmod t61 (2 : Int) != (0 : Int))) (.bool (Int.tmod t65 (2 : Int) != (0 : Int))) b68 ∧
 J_2 b68 w1_4)
 (J_2 (t43 == t45) w1_4))) ∧
 (∀ (u_2 : Env) (x5 : Bool) (w1_5 : World), J_2 x5 w1_5 →
 ∃ S : World → Prop, S w1_5.drew ∧
 ∃ t69 : Array Value, (∀ w', S w' → LdA w' (⟨b2, 0, none⟩ : Addr) 3 t69) ∧
 ∃ t72 : Array Value, (∀ w', S w' → LdA w' (⟨b3, 0, none⟩ : Addr) 3 t72) ∧
 Calls prog 12 #[.agg t69, .slice none 0 0] w1_5.drew fun en w1_6 =>
 ∃ t70 : Sl, en = .returned (.slice t70.a t70.l t70.c) ∧
 S w1_6 ∧
 (RunT prog .str (convert 22 9 (.slice t70.a t70.l t70.c)) w1_6 fun (t71 : ByteArray) w1_7 =>
 S w1_7 ∧
 Calls prog 12 #[.agg t72, .slice none 0 0] w1_7 fun en w1_8 =>
 ∃ t73 : Sl, en = .returned (.slice t73.a t73.l t73.c) ∧
 RunT prog .str (convert 22 9 (.slice t73.a t73.l t73.c)) w1_8 fun (t74 : ByteArray) w1_9 =>
 Calls prog 31 #[.string t71, .string t74] w1_9 fun en w1_10 =>
 ∃ t77 : Bool, en = .returned (.bool t77) ∧
 ∃ b79 : Bool, BinIs prog .eql 4 (.tmp 77) (.tmp 78) (.bool t77) (.bool x5) b79 ∧
 IfB b79
 (Calls prog 31 #[.string t74, .string t71] w1_10 fun en w1_11 =>
 ∃ t83 : Bool, en = .returned (.bool t83) ∧
 ∃ b85 : Bool, BinIs prog .eql 4 (.tmp 83) (.tmp 84) (.bool t83) (.bool x5) b85 ∧
 IfB b85
 (Q (.bool (decide (((t71.size : Nat) : Int) > (0 : Int)))) w1_11)
 (Q (.bool false) w1_11))
 (Q (.bool false) w1_10)) ∧
 (Calls prog 12 #[.agg t72, .slice none 0 0] w1_6 fun en w1_7 =>
 ∃ t73 : Sl, en = .returned (.slice t73.a t73.l t73.c) ∧
 (RunT prog .str (convert 22 9 (.slice t70.a t70.l t70.c)) w1_7 fun (t71 : ByteArray) w1_8 =>
 TrueW w1_8 ∧
 RunT prog .str (convert 22 9 (.slice t73.a t73.l t73.c)) w1_8 fun (t74 : ByteArray) w1_9 =>
 Calls prog 31 #[.string t71, .string t74] w1_9 fun en w1_10 =>
 ∃ t77 : Bool, en = .returned (.bool t77) ∧
 ∃ b79 : Bool, BinIs prog .eql 4 (.tmp 77) (.tmp 78) (.bool t77) (.bool x5) b79 ∧
 IfB b79
 (Calls prog 31 #[.string t74, .string t71] w1_10 fun en w1_11 =>
 ∃ t83 : Bool, en = .returned (.bool t83) ∧
 ∃ b85 : Bool, BinIs prog .eql 4 (.tmp 83) (.tmp 84) (.bool t83) (.bool x5) b85 ∧
 IfB b85
 (Q (.bool (decide (((t71.size : Nat) : Int) > (0 : Int)))) w1_11)
 (Q (.bool false) w1_11))
 (Q (.bool false) w1_10)) ∧
 (RunT prog .str (convert 22 9 (.slice t73.a t73.l t73.c)) w1_7 fun (t74 : ByteArray) w1_8 =>
 RunT prog .str (convert 22 9 (.slice t70.a t70.l t70.c)) w1_8 fun (t71 : ByteArray) w1_9 =>
 TrueW w1_9 ∧
 Calls prog 31 #[.string t71, .string t74] w1_9 fun en w1_10 =>
 ∃ t77 : Bool, en = .returned (.bool t77) ∧
 ∃ b79 : Bool, BinIs prog .eql 4 (.tmp 77) (.tmp 78) (.bool t77) (.bool x5) b79 ∧
 IfB b79
 (Calls prog 31 #[.string t74, .string t71] w1_10 fun en w1_11 =>
 ∃ t83 : Bool, en = .returned (.bool t83) ∧
 ∃ b85 : Bool, BinIs prog .eql 4 (.tmp 83) (.tmp 84) (.bool t83) (.bool x5) b85 ∧
 IfB b85
 (Q (.bool (decide (((t71.size : Nat) : Int) > (0 : Int)))) w1_11)
 (Q (.bool false) w1_11))
 (Q (.bool false) w1_10))))))))
def an6 : Ann := { cut := fun i => bif Nat.beq i 2 then some [(19, .bool)] else bif Nat.beq i 5 then some [(31, .bool)] else bif Nat.beq i 11 then some [(5, .bool)] else none, loop := fun i => [] }
theorem eq6 (x0 : Array Value) (x1 : Array Value) (w : World) (Q : Value → World → Prop) : F6 x0 x1 w Q = vc prog an6 (Try.f6.body.getD .skip) (envOf [.agg x0, .agg x1]) w (retK prog Try.f6 Q) := by kernel_rfl
theorem ok6 : codeOk Try.f6.ntmps (Try.f6.body.getD .skip) = true := by kernel_rfl
theorem W6 {x0 : Array Value} {x1 : Array Value} {w : World} {Q : Value → World → Prop} (h : F6 x0 x1 w Q) : Calls prog 6 #[.agg x0, .agg x1] w fun en w' => ∃ v, en = .returned v ∧ Q v w' :=
  calls_of_vc good follows an6 (args := [.agg x0, .agg x1]) Try.func6 (by kernel_rfl) ok6 (of_decide_eq_true (by kernel_rfl)) (Eq.mp (eq6 x0 x1 w Q) h)

/-- bastion/bastionlaw01.CodeSizes -/
def F7 (x0 : Int) (x1 : Int) (x2 : ByteArray) (w : World) (Q : Value → World → Prop) : Prop :=
 ∃ J : Bool → World → Prop, (Calls prog 24 #[] w fun en w1 =>
 ∃ t11 : Bool, en = .returned (.bool t11) ∧
 IfB (!t11)
 (J true w1)
 (J (decide (((x2.size : Nat) : Int) > (100000 : Int))) w1)) ∧
 (∀ (u : Env) (x17 : Bool) (w1 : World), J x17 w1 →
 IfB x17
 (Calls prog 24 #[] w1 fun en w1_1 =>
 ∃ t18 : Bool, en = .returned (.bool t18) ∧
 Q (.bool t18) w1_1)
 (Calls prog 32 #[.slice none 0 0, .int .i64 x0] w1 fun en w1_1 =>
 ∃ t20 : Sl, en = .returned (.slice t20.a t20.l t20.c) ∧
 Calls prog 32 #[.slice none 0 0, .int .i64 x1] w1_1 fun en w1_2 =>
 ∃ t23 : Sl, en = .returned (.slice t23.a t23.l t23.c) ∧
 ∃ J_1 : Bool → World → Prop, (∃ b29 : Bool, BinIs prog .eql 4 (.tmp 26) (.tmp 28) (.bool (decide (x0 < (0 : Int)))) (.bool (decide (x1 < (0 : Int)))) b29 ∧
 IfB b29
 (∃ b36 : Bool, BinIs prog .eql 4 (.tmp 32) (.tmp 35) (.bool (decide (x0 < (0 : Int)))) (.bool (decide (x0 > x1))) b36 ∧
 IfB b36
 (IfB (x0 != x1)
 (IfB (decide (((t20.l : Nat) : Int) > ((t23.l : Nat) : Int)))
 (J_1 true w1_2)
 (∃ b53 : Bool, BinIs prog .eql 4 (.tmp 49) (.tmp 52) (.bool (decide (x0 < (0 : Int)))) (.bool (decide (x1 > x0))) b53 ∧
 IfB b53
 (IfB (x0 != x1)
 (J_1 (decide (((t23.l : Nat) : Int) > ((t20.l : Nat) : Int))) w1_2)
 (J_1 false w1_2))
 (J_1 false w1_2)))
 (∃ b53 : Bool, BinIs prog .eql 4 (.tmp 49) (.tmp 52) (.bool (decide (x0 < (0 : Int)))) (.bool (decide (x1 > x0))) b53 ∧
 IfB b53
 (IfB (x0 != x1)
 (J_1 (decide (((t23.l : Nat) : Int) > ((t20.l : Nat) : Int))) w1_2)
 (J_1 false w1_2))
 (J_1 false w1_2)))
 (∃ b53 : Bool, BinIs prog .eql 4 (.tmp 49) (.tmp 52) (.bool (decide (x0 < (0 : Int)))) (.bool (decide (x1 > x0))) b53 ∧
 IfB b53
 (IfB (x0 != x1)
 (J_1 (decide (((t23.l : Nat) : Int) > ((t20.l : Nat) : Int))) w1_2)
 (J_1 false w1_2))
 (J_1 false w1_2)))
 (J_1 false w1_2)) ∧
 (∀ (u_1 : Env) (x65 : Bool) (w1_3 : World), J_1 x65 w1_3 →
 IfB x65
 (Q (.bool false) w1_3)
 (Calls prog 33 #[.slice none 0 0, .int .i64 (bitsI .and .i64 x0 (2147483647 : Int))] w1_3 fun en w1_4 =>
 ∃ t69 : Sl, en = .returned (.slice t69.a t69.l t69.c) ∧
 IfB (decide (((t20.l : Nat) : Int) ≥ (1 : Int)))
 (IfB (decide (((t20.l : Nat) : Int) ≤ (10 : Int)))
 (IfB (decide (((t69.l : Nat) : Int) ≥ (1 : Int)))
 (IfB (decide (((t69.l : Nat) : Int) ≤ (5 : Int)))
 (Calls prog 32 #[.slice none 0 0, .int .i64 (bitsI .and .i64 x0 (2147483647 : Int))] w1_4 fun en w1_5 =>
 ∃ t88 : Sl, en = .returned (.slice t88.a t88.l t88.c) ∧
 IfB (decide (((t69.l : Nat) : Int) ≤ ((t88.l : Nat) : Int)))
 (Calls prog 34 #[.slice none 0 0, .string x2] w1_5 fun en w1_6 =>
 ∃ t94 : Sl, en = .returned (.slice t94.a t94.l t94.c) ∧
 Calls prog 33 #[.slice none 0 0, .int .i64 ((x2.size : Nat) : Int)] w1_6 fun en w1_7 =>
 ∃ t100 : Sl, en = .returned (.slice t100.a t100.l t100.c) ∧
 IfB (((t94.l : Nat) : Int) == IntKind.wrap .i64 (((x2.size : Nat) : Int) + ((t100.l : Nat) : Int)))
 (Calls prog 35 #[.slice none 0 0, .bool (decide (x0 > x1))] w1_7 fun en w1_8 =>
 ∃ t109 : Sl, en = .returned (.slice t109.a t109.l t109.c) ∧
 Q (.bool (((t109.l : Nat) : Int) == (1 : Int))) w1_8)
 (Q (.bool false) w1_7))
 (Q (.bool false) w1_5))
 (Q (.bool false) w1_4))
 (Q (.bool false) w1_4))
 (Q (.bool false) w1_4))
 (Q (.bool false) w1_4)))))
def an7 : Ann := { cut := fun i => bif Nat.beq i 2 then some [(17, .bool)] else bif Nat.beq i 5 then some [(65, .bool)] else none, loop := fun i => [] }
theorem eq7 (x0 : Int) (x1 : Int) (x2 : ByteArray) (w : World) (Q : Value → World → Prop) : F7 x0 x1 x2 w Q = vc prog an7 (Try.f7.body.getD .skip) (envOf [.int .i64 x0, .int .i64 x1, .string x2]) w (retK prog Try.f7 Q) := by kernel_rfl
theorem ok7 : codeOk Try.f7.ntmps (Try.f7.body.getD .skip) = true := by kernel_rfl
theorem W7 {x0 : Int} {x1 : Int} {x2 : ByteArray} {w : World} {Q : Value → World → Prop} (h : F7 x0 x1 x2 w Q) : Calls prog 7 #[.int .i64 x0, .int .i64 x1, .string x2] w fun en w' => ∃ v, en = .returned v ∧ Q v w' :=
  calls_of_vc good follows an7 (args := [.int .i64 x0, .int .i64 x1, .string x2]) Try.func7 (by kernel_rfl) ok7 (of_decide_eq_true (by kernel_rfl)) (Eq.mp (eq7 x0 x1 x2 w Q) h)

/-- bastion/bastionlaw01.CodeOnward -/
def F8 (x0 : Sl) (x1 : Sl) (w : World) (Q : Value → World → Prop) : Prop :=
 ∃ J : Bool → World → Prop, (Calls prog 24 #[] w fun en w1 =>
 ∃ t10 : Bool, en = .returned (.bool t10) ∧
 IfB (!t10)
 (J true w1)
 (IfB (decide (((x0.l : Nat) : Int) > (20000 : Int)))
 (J true w1)
 (Calls prog 11 #[.slice x1.a x1.l x1.c] w1 fun en w1_1 =>
 ∃ t19 : Bool, en = .returned (.bool t19) ∧
 J t19 w1_1))) ∧
 (∀ (u : Env) (x20 : Bool) (w1 : World), J x20 w1 →
 IfB x20
 (Calls prog 24 #[] w1 fun en w1_1 =>
 ∃ t21 : Bool, en = .returned (.bool t21) ∧
 Q (.bool t21) w1_1)
 (Calls prog 14 #[.slice x0.a x0.l x0.c] w1 fun en w1_1 =>
 ∃ t23 : Option Addr, en = .returned (.pointer t23) ∧
 ∃ (I : Nat → Int → Int → World → Prop) (n0 : Nat), I n0 (0 : Int) (0 : Int) w1_1 ∧
 ∀ (n : Nat) (u_1 : Env) (x6 : Int) (x7 : Int) (w1_2 : World), I n x6 x7 w1_2 →
 IfB (decide (x7 < ((x1.l : Nat) : Int)))
 (∃ p32, x1.a = some p32 ∧ 0 ≤ x7 ∧ x7 < ((x1.l : Nat) : Int) ∧
 ∃ t33 : Array Value, LdA w1_2 (p32.add ((x7).toNat * 3)) 3 t33 ∧
 Calls prog 16 #[.agg t33, .pointer t23] w1_2 fun en w1_3 =>
 ∃ t35 : Array Value, en = .returned (.agg t35) ∧
 ∀ b8 w1_4, NewB w1_3 (.cells #[.int .i64 0, .string (⟨#[]⟩ : ByteArray)] 36) b8 w1_4 →
 t35.size = 2 ∧ (∀ u, u ∈ t35.toList → u.oneCell' = true) ∧ WrA w1_4 (⟨b8, 0, none⟩ : Addr) 2 ∧ ∀ w1_5, w1_5 = setAt w1_4 (⟨b8, 0, none⟩ : Addr) t35.toList 0 →
 Calls prog 18 #[.pointer t23] w1_5 fun en w1_6 =>
 ∃ t37 : Bool, en = .returned (.bool t37) ∧
 IfB (!t37)
 (∃ J_1 : Bool → World → Prop, (∃ t39 : Array Value, LdA w1_6 (⟨b8, 0, none⟩ : Addr) 2 t39 ∧
 ∃ t40 : Array Value, BuildIs prog 36 #[] t40 ∧
 ∃ b41 : Bool, BinIs prog .neq 36 (.tmp 39) (.tmp 40) (.agg t39) (.agg t40) b41 ∧
 IfB b41
 (J_1 true w1_6)
 (Calls prog 20 #[.pointer t23] w1_6 fun en w1_7 =>
 ∃ t44 : Int, en = .returned (.int .i64 t44) ∧
 IfB (t44 != (0 : Int))
 (J_1 true w1_7)
 (Calls prog 22 #[.pointer t23] w1_7 fun en w1_8 =>
 ∃ t49 : Bool, en = .returned (.bool t49) ∧
 J_1 t49 w1_8))) ∧
 (∀ (u_2 : Env) (x50 : Bool) (w1_7 : World), J_1 x50 w1_7 →
 IfB x50
 (Q (.bool false) w1_7)
 (∃ n', n' < n ∧ I n' ((x0.l : Nat) : Int) (IntKind.wrap .i64 (x7 + (1 : Int))) w1_7)))
 (∃ S : World → Prop, S w1_6.drew ∧
 ∃ p55, x1.a = some p55 ∧ 0 ≤ x7 ∧ x7 < ((x1.l : Nat) : Int) ∧
 ∃ t57 : Int, (∀ w', S w' → Ld w' ((p55.add ((x7).toNat * 3)).add 0) (.int .u8 t57)) ∧
 ∃ t59 : Int, (∀ w', S w' → Ld w' ((⟨b8, 0, none⟩ : Addr).add 0) (.int .i64 t59)) ∧
 ∃ t61 : ByteArray, (∀ w', S w' → Ld w' ((⟨b8, 0, none⟩ : Addr).add 1) (.string t61)) ∧
 ∃ t62 : Array Value, BuildIs prog 28 #[(0, .int .u8 t57), (1, .int .i64 t59), (2, .string t61)] t62 ∧
 Calls prog 12 #[.agg t62, .slice none 0 0] w1_6.drew fun en w1_7 =>
 ∃ t63 : Sl, en = .returned (.slice t63.a t63.l t63.c) ∧
 RunT prog .str (convert 22 9 (.slice t63.a t63.l t63.c)) w1_7 fun (t64 : ByteArray) w1_8 =>
 ∃ J_1 : Bool → World → Prop, (∃ S_1 : World → Prop, S_1 w1_8.drew ∧
 IfB (decide (x6 > ((x0.l : Nat) : Int)))
 (J_1 true w1_8.drew)
 ((0 ≤ x6 ∧ x6 ≤ ((x0.l : Nat) : Int)) ∧
 RunT prog .str (convert 22 9 (.slice (slA x0.a ((x6).toNat) x0.c 1) (x0.l - ((x6).toNat)) (x0.c - ((x6).toNat)))) w1_8.drew fun (t73 : ByteArray) w1_9 =>
 ∃ S_2 : World → Prop, (∀ w', S_2 w' → S_1 w') ∧ S_2 w1_9 ∧
 Calls prog 31 #[.string t73, .string t64] w1_9 fun en w1_10 =>
 ∃ t75 : Bool, en = .returned (.bool t75) ∧
 ∃ S_3 : World → Prop, (∀ w', S_3 w' → S_2 w') ∧ S_3 w1_10 ∧
 IfB (!t75)
 (J_1 true w1_10)
 (IfB (t64.toList == (⟨#[]⟩ : ByteArray).toList)
 (J_1 true w1_10)
 (∃ p85, x1.a = some p85 ∧ 0 ≤ x7 ∧ x7 < ((x1.l : Nat) : Int) ∧
 ∃ t87 : Int, (∀ w', S_3 w' → Ld w' ((p85.add ((x7).toNat * 3)).add 0) (.int .u8 t87)) ∧
 IfB (t87 == (1 : Int))
 (∃ t91 : Int, (∀ w', S_3 w' → Ld w' ((⟨b8, 0, none⟩ : Addr).add 0) (.int .i64 t91)) ∧
 ∃ p94, x1.a = some p94 ∧ 0 ≤ x7 ∧ x7 < ((x1.l : Nat) : Int) ∧
 ∃ t96 : Int, (∀ w', S_3 w' → Ld w' ((p94.add ((x7).toNat * 3)).add 1) (.int .i64 t96)) ∧
 IfB (decide (t91 > t96))
 (J_1 true w1_10)
 (∃ p103, x1.a = some p103 ∧ 0 ≤ x7 ∧ x7 < ((x1.l : Nat) : Int) ∧
 ∃ t105 : Int, (∀ w', S_3 w' → Ld w' ((p103.add ((x7).toNat * 3)).add 0) (.int .u8 t105)) ∧
 IfB (t105 == (2 : Int))
 (∃ t109 : ByteArray, (∀ w', S_3 w' → Ld w' ((⟨b8, 0, none⟩ : Addr).add 1) (.string t109)) ∧
 ∃ p113, x1.a = some p113 ∧ 0 ≤ x7 ∧ x7 < ((x1.l : Nat) : Int) ∧
 ∃ t115 : Int, (∀ w', S_3 w' → Ld w' ((p113.add ((x7).toNat * 3)).add 1) (.int .i64 t115)) ∧
 J_1 (decide (((t109.size : Nat) : Int) > t115)) w1_10)
 (J_1 false w1_10)))
 (∃ p103, x1.a = some p103 ∧ 0 ≤ x7 ∧ x7 < ((x1.l : Nat) : Int) ∧
 ∃ t105 : Int, (∀ w', S_3 w' → Ld w' ((p103.add ((x7).toNat * 3)).add 0) (.int .u8 t105)) ∧
 IfB (t105 == (2 : Int))
 (∃ t109 : ByteArray, (∀ w', S_3 w' → Ld w' ((⟨b8, 0, none⟩ : Addr).add 1) (.string t109)) ∧
 ∃ p113, x1.a = some p113 ∧ 0 ≤ x7 ∧ x7 < ((x1.l : Nat) : Int) ∧
 ∃ t115 : Int, (∀ w', S_3 w' → Ld w' ((p113.add ((x7).toNat * 3)).add 1) (.int .i64 t115)) ∧
 J_1 (decide (((t109.size : Nat) : Int) > t115)) w1_10)
 (J_1 false w1_10)))))) ∧
 (∀ (u_2 : Env) (x118 : Bool) (w1_9 : World), J_1 x118 w1_9 →
 IfB x118
 (Q (.bool false) w1_9)
 (Calls prog 20 #[.pointer t23] w1_9 fun en w1_10 =>
 ∃ t124 : Int, en = .returned (.int .i64 t124) ∧
 IfB (t124 != IntKind.wrap .i64 (((x0.l : Nat) : Int) - (IntKind.wrap .i64 (x6 + ((t64.size : Nat) : Int)))))
 (Q (.bool false) w1_10)
 (Calls prog 22 #[.pointer t23] w1_10 fun en w1_11 =>
 ∃ t132 : Bool, en = .returned (.bool t132) ∧
 ∃ b137 : Bool, BinIs prog .neq 4 (.tmp 132) (.tmp 136) (.bool t132) (.bool (IntKind.wrap .i64 (x6 + ((t64.size : Nat) : Int)) == ((x0.l : Nat) : Int))) b137 ∧
 IfB b137
 (Q (.bool false) w1_11)
 (∃ n', n' < n ∧ I n' (IntKind.wrap .i64 (x6 + ((t64.size : Nat) : Int))) (IntKind.wrap .i64 (x7 + (1 : Int))) w1_11))))))
 (Calls prog 18 #[.pointer t23] w1_2 fun en w1_3 =>
 ∃ t140 : Bool, en = .returned (.bool t140) ∧
 IfB t140
 (Q (.bool true) w1_3)
 (Calls prog 20 #[.pointer t23] w1_3 fun en w1_4 =>
 ∃ t143 : Int, en = .returned (.int .i64 t143) ∧
 Q (.bool (t143 == (0 : Int))) w1_4))))
def an8 : Ann := { cut := fun i => bif Nat.beq i 2 then some [(20, .bool)] else bif Nat.beq i 11 then some [(50, .bool)] else bif Nat.beq i 15 then some [(118, .bool)] else none, loop := fun i => bif Nat.beq i 6 then [(6, .int .i64), (7, .int .i64)] else [] }
theorem eq8 (x0 : Sl) (x1 : Sl) (w : World) (Q : Value → World → Prop) : F8 x0 x1 w Q = vc prog an8 (Try.f8.body.getD .skip) (envOf [.slice x0.a x0.l x0.c, .slice x1.a x1.l x1.c]) w (retK prog Try.f8 Q) := by kernel_rfl
theorem ok8 : codeOk Try.f8.ntmps (Try.f8.body.getD .skip) = true := by kernel_rfl
theorem W8 {x0 : Sl} {x1 : Sl} {w : World} {Q : Value → World → Prop} (h : F8 x0 x1 w Q) : Calls prog 8 #[.slice x0.a x0.l x0.c, .slice x1.a x1.l x1.c] w fun en w' => ∃ v, en = .returned v ∧ Q v w' :=
  calls_of_vc good follows an8 (args := [.slice x0.a x0.l x0.c, .slice x1.a x1.l x1.c]) Try.func8 (by kernel_rfl) ok8 (of_decide_eq_true (by kernel_rfl)) (Eq.mp (eq8 x0 x1 w Q) h)

/-- bastion/bastionlaw01.CodeBehind -/
def F9 (x0 : Sl) (x1 : Sl) (x2 : Sl) (w : World) (Q : Value → World → Prop) : Prop :=
 ∃ J : Bool → World → Prop, (Calls prog 24 #[] w fun en w1 =>
 ∃ t11 : Bool, en = .returned (.bool t11) ∧
 IfB (!t11)
 (J true w1)
 (IfB (decide (((x0.l : Nat) : Int) > (20000 : Int)))
 (J true w1)
 (IfB (decide (((x1.l : Nat) : Int) > (20000 : Int)))
 (J true w1)
 (Calls prog 11 #[.slice x2.a x2.l x2.c] w1 fun en w1_1 =>
 ∃ t25 : Bool, en = .returned (.bool t25) ∧
 J t25 w1_1)))) ∧
 (∀ (u : Env) (x26 : Bool) (w1 : World), J x26 w1 →
 IfB x26
 (Calls prog 24 #[] w1 fun en w1_1 =>
 ∃ t27 : Bool, en = .returned (.bool t27) ∧
 Q (.bool t27) w1_1)
 (Calls prog 14 #[.slice x0.a x0.l x0.c] w1 fun en w1_1 =>
 ∃ t29 : Option Addr, en = .returned (.pointer t29) ∧
 RunT prog .slice (Instr.buildSlice 22 0 #[]) w1_1 fun (t30 : Sl) w1_2 =>
 RunT prog .slice (Builtin.append_ #[22, 22] 22 #[.slice t30.a t30.l t30.c, .slice x0.a x0.l x0.c]) w1_2 fun (t32 : Sl) w1_3 =>
 RunT prog .slice (Builtin.append_ #[22, 22] 22 #[.slice t32.a t32.l t32.c, .slice x1.a x1.l x1.c]) w1_3 fun (t34 : Sl) w1_4 =>
 Calls prog 14 #[.slice t34.a t34.l t34.c] w1_4 fun en w1_5 =>
 ∃ t35 : Option Addr, en = .returned (.pointer t35) ∧
 ∃ (I : Nat → Int → World → Prop) (n0 : Nat), I n0 (0 : Int) w1_5 ∧
 ∀ (n : Nat) (u_1 : Env) (x9 : Int) (w1_6 : World), I n x9 w1_6 →
 IfB (decide (x9 < ((x2.l : Nat) : Int)))
 (∃ p44, x2.a = some p44 ∧ 0 ≤ x9 ∧ x9 < ((x2.l : Nat) : Int) ∧
 ∃ t45 : Array Value, LdA w1_6 (p44.add ((x9).toNat * 3)) 3 t45 ∧
 Calls prog 16 #[.agg t45, .pointer t29] w1_6 fun en w1_7 =>
 ∃ t47 : Array Value, en = .returned (.agg t47) ∧
 ∀ b10 w1_8, NewB w1_7 (.cells #[.int .i64 0, .string (⟨#[]⟩ : ByteArray)] 36) b10 w1_8 →
 t47.size = 2 ∧ (∀ u, u ∈ t47.toList → u.oneCell' = true) ∧ WrA w1_8 (⟨b10, 0, none⟩ : Addr) 2 ∧ ∀ w1_9, w1_9 = setAt w1_8 (⟨b10, 0, none⟩ : Addr) t47.toList 0 →
 Calls prog 18 #[.pointer t29] w1_9 fun en w1_10 =>
 ∃ t49 : Bool, en = .returned (.bool t49) ∧
 IfB (!t49)
 (Q (.bool true) w1_10)
 (∃ S : World → Prop, S w1_10.drew ∧
 ∃ p53, x2.a = some p53 ∧ 0 ≤ x9 ∧ x9 < ((x2.l : Nat) : Int) ∧
 ∃ t54 : Array Value, (∀ w', S w' → LdA w' (p53.add ((x9).toNat * 3)) 3 t54) ∧
 ∃ t57 : Array Value, (∀ w', S w' → LdA w' (⟨b10, 0, none⟩ : Addr) 2 t57) ∧
 Calls prog 16 #[.agg t54, .pointer t35] w1_10.drew fun en w1_11 =>
 ∃ t56 : Array Value, en = .returned (.agg t56) ∧
 S w1_11 ∧
 ∃ b58 : Bool, BinIs prog .neq 36 (.tmp 56) (.tmp 57) (.agg t56) (.agg t57) b58 ∧
 IfB b58
 (Q (.bool false) w1_11)
 (Calls prog 18 #[.pointer t35] w1_11 fun en w1_12 =>
 ∃ t61 : Bool, en = .returned (.bool t61) ∧
 IfB (!t61)
 (Q (.bool false) w1_12)
 (Calls prog 20 #[.pointer t35] w1_12 fun en w1_13 =>
 ∃ t66 : Int, en = .returned (.int .i64 t66) ∧
 Calls prog 20 #[.pointer t29] w1_13 fun en w1_14 =>
 ∃ t68 : Int, en = .returned (.int .i64 t68) ∧
 IfB (t66 != IntKind.wrap .i64 (t68 + ((x1.l : Nat) : Int)))
 (Q (.bool false) w1_14)
 (∃ n', n' < n ∧ I n' (IntKind.wrap .i64 (x9 + (1 : Int))) w1_14)))))
 (Calls prog 22 #[.pointer t29] w1_6 fun en w1_7 =>
 ∃ t75 : Bool, en = .returned (.bool t75) ∧
 Calls prog 20 #[.pointer t35] w1_7 fun en w1_8 =>
 ∃ t77 : Int, en = .returned (.int .i64 t77) ∧
 ∃ b81 : Bool, BinIs prog .eql 4 (.tmp 75) (.tmp 80) (.bool t75) (.bool (t77 == ((x1.l : Nat) : Int))) b81 ∧
 Q (.bool b81) w1_8)))
def an9 : Ann := { cut := fun i => bif Nat.beq i 2 then some [(26, .bool)] else none, loop := fun i => bif Nat.beq i 6 then [(9, .int .i64)] else [] }
theorem eq9 (x0 : Sl) (x1 : Sl) (x2 : Sl) (w : World) (Q : Value → World → Prop) : F9 x0 x1 x2 w Q = vc prog an9 (Try.f9.body.getD .skip) (envOf [.slice x0.a x0.l x0.c, .slice x1.a x1.l x1.c, .slice x2.a x2.l x2.c]) w (retK prog Try.f9 Q) := by kernel_rfl
theorem ok9 : codeOk Try.f9.ntmps (Try.f9.body.getD .skip) = true := by kernel_rfl
theorem W9 {x0 : Sl} {x1 : Sl} {x2 : Sl} {w : World} {Q : Value → World → Prop} (h : F9 x0 x1 x2 w Q) : Calls prog 9 #[.slice x0.a x0.l x0.c, .slice x1.a x1.l x1.c, .slice x2.a x2.l x2.c] w fun en w' => ∃ v, en = .returned v ∧ Q v w' :=
  calls_of_vc good follows an9 (args := [.slice x0.a x0.l x0.c, .slice x1.a x1.l x1.c, .slice x2.a x2.l x2.c]) Try.func9 (by kernel_rfl) ok9 (of_decide_eq_true (by kernel_rfl)) (Eq.mp (eq9 x0 x1 x2 w Q) h)

/-- bastion/bastionlaw01.CodeCuts -/
def F10 (x0 : Sl) (x1 : Int) (w : World) (Q : Value → World → Prop) : Prop :=
 ∃ J : Bool → World → Prop, (Calls prog 24 #[] w fun en w1 =>
 ∃ t16 : Bool, en = .returned (.bool t16) ∧
 IfB (!t16)
 (J true w1)
 (Calls prog 11 #[.slice x0.a x0.l x0.c] w1 fun en w1_1 =>
 ∃ t20 : Bool, en = .returned (.bool t20) ∧
 J t20 w1_1)) ∧
 (∀ (u : Env) (x21 : Bool) (w1 : World), J x21 w1 →
 IfB x21
 (Calls prog 24 #[] w1 fun en w1_1 =>
 ∃ t22 : Bool, en = .returned (.bool t22) ∧
 Q (.bool t22) w1_1)
 (∃ (I : Nat → Sl → Sl → Sl → Int → World → Prop) (n0 : Nat), I n0 (⟨none, 0, 0⟩ : Sl) (⟨none, 0, 0⟩ : Sl) (⟨none, 0, 0⟩ : Sl) (0 : Int) w1 ∧
 ∀ (n : Nat) (u_1 : Env) (x5 : Sl) (x6 : Sl) (x7 : Sl) (x8 : Int) (w1_1 : World), I n x5 x6 x7 x8 w1_1 →
 IfB (decide (x8 < ((x0.l : Nat) : Int)))
 (∃ p31, x0.a = some p31 ∧ 0 ≤ x8 ∧ x8 < ((x0.l : Nat) : Int) ∧
 ∃ t32 : Array Value, LdA w1_1 (p31.add ((x8).toNat * 3)) 3 t32 ∧
 ∀ b9 w1_2, NewB w1_1 (.cells #[.int .u8 0, .int .i64 0, .string (⟨#[]⟩ : ByteArray)] 28) b9 w1_2 →
 t32.size = 3 ∧ (∀ u, u ∈ t32.toList → u.oneCell' = true) ∧ WrA w1_2 (⟨b9, 0, none⟩ : Addr) 3 ∧ ∀ w1_3, w1_3 = setAt w1_2 (⟨b9, 0, none⟩ : Addr) t32.toList 0 →
 ∃ t34 : Int, Ld w1_3 ((⟨b9, 0, none⟩ : Addr).add 0) (.int .u8 t34) ∧
 IfB (t34 == (1 : Int))
 (∃ t37 : Int, Ld w1_3 ((⟨b9, 0, none⟩ : Addr).add 1) (.int .i64 t37) ∧
 Wr w1_3 ((⟨b9, 0, none⟩ : Addr).add 1) ∧ ∀ w1_4, w1_4 = w1_3.setCell ((⟨b9, 0, none⟩ : Addr).add 1) (.int .i64 (bitsI .and .i64 t37 (2147483647 : Int))) →
 ∃ t41 : Array Value, LdA w1_4 (⟨b9, 0, none⟩ : Addr) 3 t41 ∧
 RunT prog .slice (Instr.buildSlice 23 1 #[(0, .agg t41)]) w1_4 fun (t42 : Sl) w1_5 =>
 RunT prog .slice (Builtin.append_ #[23, 23] 23 #[.slice x7.a x7.l x7.c, .slice t42.a t42.l t42.c]) w1_5 fun (t43 : Sl) w1_6 =>
 ∃ t44 : Array Value, LdA w1_6 (⟨b9, 0, none⟩ : Addr) 3 t44 ∧
 Calls prog 12 #[.agg t44, .slice x5.a x5.l x5.c] w1_6 fun en w1_7 =>
 ∃ t46 : Sl, en = .returned (.slice t46.a t46.l t46.c) ∧
 RunT prog .slice (Instr.buildSlice 58 1 #[(0, .int .i64 ((t46.l : Nat) : Int))]) w1_7 fun (t50 : Sl) w1_8 =>
 RunT prog .slice (Builtin.append_ #[58, 58] 58 #[.slice x6.a x6.l x6.c, .slice t50.a t50.l t50.c]) w1_8 fun (t51 : Sl) w1_9 =>
 ∃ n', n' < n ∧ I n' t46 t51 t43 (IntKind.wrap .i64 (x8 + (1 : Int))) w1_9)
 (∃ t41 : Array Value, LdA w1_3 (⟨b9, 0, none⟩ : Addr) 3 t41 ∧
 RunT prog .slice (Instr.buildSlice 23 1 #[(0, .agg t41)]) w1_3 fun (t42 : Sl) w1_4 =>
 RunT prog .slice (Builtin.append_ #[23, 23] 23 #[.slice x7.a x7.l x7.c, .slice t42.a t42.l t42.c]) w1_4 fun (t43 : Sl) w1_5 =>
 ∃ t44 : Array Value, LdA w1_5 (⟨b9, 0, none⟩ : Addr) 3 t44 ∧
 Calls prog 12 #[.agg t44, .slice x5.a x5.l x5.c] w1_5 fun en w1_6 =>
 ∃ t46 : Sl, en = .returned (.slice t46.a t46.l t46.c) ∧
 RunT prog .slice (Instr.buildSlice 58 1 #[(0, .int .i64 ((t46.l : Nat) : Int))]) w1_6 fun (t50 : Sl) w1_7 =>
 RunT prog .slice (Builtin.append_ #[58, 58] 58 #[.slice x6.a x6.l x6.c, .slice t50.a t50.l t50.c]) w1_7 fun (t51 : Sl) w1_8 =>
 ∃ n', n' < n ∧ I n' t46 t51 t43 (IntKind.wrap .i64 (x8 + (1 : Int))) w1_8))
 (IntKind.wrap .u64 (IntKind.wrap .i64 (((x5.l : Nat) : Int) + (1 : Int))) ≠ 0 ∧
 (0 ≤ IntKind.wrap .i64 (Int.tmod (IntKind.wrap .u64 x1) (IntKind.wrap .u64 (IntKind.wrap .i64 (((x5.l : Nat) : Int) + (1 : Int))))) ∧ IntKind.wrap .i64 (Int.tmod (IntKind.wrap .u64 x1) (IntKind.wrap .u64 (IntKind.wrap .i64 (((x5.l : Nat) : Int) + (1 : Int))))) ≤ ((x5.c : Nat) : Int)) ∧
 Calls prog 14 #[.slice (slA x5.a 0 x5.c 1) ((IntKind.wrap .i64 (Int.tmod (IntKind.wrap .u64 x1) (IntKind.wrap .u64 (IntKind.wrap .i64 (((x5.l : Nat) : Int) + (1 : Int)))))).toNat - 0) (x5.c - 0)] w1_1 fun en w1_2 =>
 ∃ t63 : Option Addr, en = .returned (.pointer t63) ∧
 ∃ (I_1 : Nat → Int → World → Prop) (n0_1 : Nat), I_1 n0_1 (0 : Int) w1_2 ∧
 ∀ (n_1 : Nat) (u_2 : Env) (x12 : Int) (w1_3 : World), I_1 n_1 x12 w1_3 →
 IfB (decide (x12 < ((x7.l : Nat) : Int)))
 (∃ p72, x7.a = some p72 ∧ 0 ≤ x12 ∧ x12 < ((x7.l : Nat) : Int) ∧
 ∃ t73 : Array Value, LdA w1_3 (p72.add ((x12).toNat * 3)) 3 t73 ∧
 ∀ b13 w1_4, NewB w1_3 (.cells #[.int .u8 0, .int .i64 0, .string (⟨#[]⟩ : ByteArray)] 28) b13 w1_4 →
 t73.size = 3 ∧ (∀ u, u ∈ t73.toList → u.oneCell' = true) ∧ WrA w1_4 (⟨b13, 0, none⟩ : Addr) 3 ∧ ∀ w1_5, w1_5 = setAt w1_4 (⟨b13, 0, none⟩ : Addr) t73.toList 0 →
 ∃ t75 : Int, Ld w1_5 ((⟨b13, 0, none⟩ : Addr).add 1) (.int .i64 t75) ∧
 ∃ t76 : Array Value, BuildIs prog 36 #[(0, .int .i64 t75)] t76 ∧
 ∀ b14 w1_6, NewB w1_5 (.cells #[.int .i64 0, .string (⟨#[]⟩ : ByteArray)] 36) b14 w1_6 →
 t76.size = 2 ∧ (∀ u, u ∈ t76.toList → u.oneCell' = true) ∧ WrA w1_6 (⟨b14, 0, none⟩ : Addr) 2 ∧ ∀ w1_7, w1_7 = setAt w1_6 (⟨b14, 0, none⟩ : Addr) t76.toList 0 →
 ∃ J_1 : World → Prop, (∃ t79 : Int, Ld w1_7 ((⟨b13, 0, none⟩ : Addr).add 0) (.int .u8 t79) ∧
 IfB (t79 == (2 : Int))
 (∃ t82 : ByteArray, Ld w1_7 ((⟨b13, 0, none⟩ : Addr).add 2) (.string t82) ∧
 ∃ t83 : Array Value, BuildIs prog 36 #[(1, .string t82)] t83 ∧
 t83.size = 2 ∧ (∀ u, u ∈ t83.toList → u.oneCell' = true) ∧ WrA w1_7 (⟨b14, 0, none⟩ : Addr) 2 ∧ ∀ w1_8, w1_8 = setAt w1_7 (⟨b14, 0, none⟩ : Addr) t83.toList 0 →
 ∃ t85 : ByteArray, Ld w1_8 ((⟨b13, 0, none⟩ : Addr).add 2) (.string t85) ∧
 Wr w1_8 ((⟨b13, 0, none⟩ : Addr).add 1) ∧ ∀ w1_9, w1_9 = w1_8.setCell ((⟨b13, 0, none⟩ : Addr).add 1) (.int .i64 ((t85.size : Nat) : Int)) →
 J_1  w1_9)
 (∃ t90 : Int, Ld w1_7 ((⟨b13, 0, none⟩ : Addr).add 0) (.int .u8 t90) ∧
 IfB (decide (t90 > (2 : Int)))
 (∃ t93 : Int, Ld w1_7 ((⟨b13, 0, none⟩ : Addr).add 1) (.int .i64 t93) ∧
 (2 : Int) ≠ 0 ∧
 Calls prog 36 #[.bool (Int.tmod t93 (2 : Int) != (0 : Int))] w1_7 fun en w1_8 =>
 ∃ t96 : Int, en = .returned (.int .i64 t96) ∧
 ∃ t97 : Array Value, BuildIs prog 36 #[(0, .int .i64 t96)] t97 ∧
 t97.size = 2 ∧ (∀ u, u ∈ t97.toList → u.oneCell' = true) ∧ WrA w1_8 (⟨b14, 0, none⟩ : Addr) 2 ∧ ∀ w1_9, w1_9 = setAt w1_8 (⟨b14, 0, none⟩ : Addr) t97.toList 0 →
 J_1  w1_9)
 (J_1  w1_7))) ∧
 (∀ (u_3 : Env) (w1_8 : World), J_1  w1_8 →
 ∃ t98 : Array Value, LdA w1_8 (⟨b13, 0, none⟩ : Addr) 3 t98 ∧
 Calls prog 16 #[.agg t98, .pointer t63] w1_8 fun en w1_9 =>
 ∃ t100 : Array Value, en = .returned (.agg t100) ∧
 ∀ b15 w1_10, NewB w1_9 (.cells #[.int .i64 0, .string (⟨#[]⟩ : ByteArray)] 36) b15 w1_10 →
 t100.size = 2 ∧ (∀ u, u ∈ t100.toList → u.oneCell' = true) ∧ WrA w1_10 (⟨b15, 0, none⟩ : Addr) 2 ∧ ∀ w1_11, w1_11 = setAt w1_10 (⟨b15, 0, none⟩ : Addr) t100.toList 0 →
 ∃ p103, x6.a = some p103 ∧ 0 ≤ x12 ∧ x12 < ((x6.l : Nat) : Int) ∧
 ∃ t104 : Int, Ld w1_11 (p103.add ((x12).toNat * 1)) (.int .i64 t104) ∧
 IfB (decide (t104 > IntKind.wrap .i64 (Int.tmod (IntKind.wrap .u64 x1) (IntKind.wrap .u64 (IntKind.wrap .i64 (((x5.l : Nat) : Int) + (1 : Int)))))))
 (∃ t107 : Array Value, LdA w1_11 (⟨b15, 0, none⟩ : Addr) 2 t107 ∧
 ∃ t108 : Array Value, BuildIs prog 36 #[] t108 ∧
 ∃ b109 : Bool, BinIs prog .eql 36 (.tmp 107) (.tmp 108) (.agg t107) (.agg t108) b109 ∧
 IfB b109
 (Calls prog 18 #[.pointer t63] w1_11 fun en w1_12 =>
 ∃ t112 : Bool, en = .returned (.bool t112) ∧
 IfB (!t112)
 (Calls prog 22 #[.pointer t63] w1_12 fun en w1_13 =>
 ∃ t117 : Bool, en = .returned (.bool t117) ∧
 Q (.bool (!t117)) w1_13)
 (Q (.bool false) w1_12))
 (Q (.bool false) w1_11))
 (∃ S : World → Prop, S w1_11.drew ∧
 ∃ t120 : Array Value, (∀ w', S w' → LdA w' (⟨b15, 0, none⟩ : Addr) 2 t120) ∧
 ∃ t121 : Array Value, (∀ w', S w' → LdA w' (⟨b14, 0, none⟩ : Addr) 2 t121) ∧
 ∃ b122 : Bool, BinIs prog .neq 36 (.tmp 120) (.tmp 121) (.agg t120) (.agg t121) b122 ∧
 IfB b122
 (Q (.bool false) w1_11.drew)
 (Calls prog 18 #[.pointer t63] w1_11.drew fun en w1_12 =>
 ∃ t125 : Bool, en = .returned (.bool t125) ∧
 ∃ S_1 : World → Prop, (∀ w', S_1 w' → S w') ∧ S_1 w1_12 ∧
 IfB (!t125)
 (Q (.bool false) w1_12)
 (∃ p134, x6.a = some p134 ∧ 0 ≤ x12 ∧ x12 < ((x6.l : Nat) : Int) ∧
 ∃ t135 : Int, (∀ w', S_1 w' → Ld w' (p134.add ((x12).toNat * 1)) (.int .i64 t135)) ∧
 Calls prog 20 #[.pointer t63] w1_12 fun en w1_13 =>
 ∃ t130 : Int, en = .returned (.int .i64 t130) ∧
 S_1 w1_13 ∧
 IfB (t130 != IntKind.wrap .i64 ((IntKind.wrap .i64 (Int.tmod (IntKind.wrap .u64 x1) (IntKind.wrap .u64 (IntKind.wrap .i64 (((x5.l : Nat) : Int) + (1 : Int)))))) - t135))
 (Q (.bool false) w1_13)
 (∃ n', n' < n_1 ∧ I_1 n' (IntKind.wrap .i64 (x12 + (1 : Int))) w1_13))))))
 (Calls prog 22 #[.pointer t63] w1_3 fun en w1_4 =>
 ∃ t140 : Bool, en = .returned (.bool t140) ∧
 Q (.bool t140) w1_4))))
def an10 : Ann := { cut := fun i => bif Nat.beq i 2 then some [(21, .bool)] else bif Nat.beq i 27 then some [] else none, loop := fun i => bif Nat.beq i 7 then [(5, .slice), (6, .slice), (7, .slice), (8, .int .i64)] else bif Nat.beq i 18 then [(12, .int .i64)] else [] }
theorem eq10 (x0 : Sl) (x1 : Int) (w : World) (Q : Value → World → Prop) : F10 x0 x1 w Q = vc prog an10 (Try.f10.body.getD .skip) (envOf [.slice x0.a x0.l x0.c, .int .i64 x1]) w (retK prog Try.f10 Q) := by kernel_rfl
theorem ok10 : codeOk Try.f10.ntmps (Try.f10.body.getD .skip) = true := by kernel_rfl
theorem W10 {x0 : Sl} {x1 : Int} {w : World} {Q : Value → World → Prop} (h : F10 x0 x1 w Q) : Calls prog 10 #[.slice x0.a x0.l x0.c, .int .i64 x1] w fun en w' => ∃ v, en = .returned v ∧ Q v w' :=
  calls_of_vc good follows an10 (args := [.slice x0.a x0.l x0.c, .int .i64 x1]) Try.func10 (by kernel_rfl) ok10 (of_decide_eq_true (by kernel_rfl)) (Eq.mp (eq10 x0 x1 w Q) h)

/-- bastion/bastionlaw01.long -/
def F11 (x0 : Sl) (w : World) (Q : Value → World → Prop) : Prop :=
 ∃ (I : Nat → Int → Int → World → Prop) (n0 : Nat), I n0 (0 : Int) (0 : Int) w ∧
 ∀ (n : Nat) (u : Env) (x3 : Int) (x4 : Int) (w1 : World), I n x3 x4 w1 →
 IfB (decide (x4 < ((x0.l : Nat) : Int)))
 (IfB (decide (x3 < (20000 : Int)))
 (∃ p19, x0.a = some p19 ∧ 0 ≤ x4 ∧ x4 < ((x0.l : Nat) : Int) ∧
 ∃ t21 : ByteArray, Ld w1 ((p19.add ((x4).toNat * 3)).add 2) (.string t21) ∧
 ∃ n', n' < n ∧ I n' (IntKind.wrap .i64 ((IntKind.wrap .i64 (x3 + (20 : Int))) + ((t21.size : Nat) : Int))) (IntKind.wrap .i64 (x4 + (1 : Int))) w1)
 (Q (.bool (decide (x3 ≥ (20000 : Int)))) w1))
 (Q (.bool (decide (x3 ≥ (20000 : Int)))) w1)
def an11 : Ann := { cut := fun i => none, loop := fun i => bif Nat.beq i 3 then [(3, .int .i64), (4, .int .i64)] else [] }
theorem eq11 (x0 : Sl) (w : World) (Q : Value → World → Prop) : F11 x0 w Q = vc prog an11 (Try.f11.body.getD .skip) (envOf [.slice x0.a x0.l x0.c]) w (retK prog Try.f11 Q) := by kernel_rfl
theorem ok11 : codeOk Try.f11.ntmps (Try.f11.body.getD .skip) = true := by kernel_rfl
theorem W11 {x0 : Sl} {w : World} {Q : Value → World → Prop} (h : F11 x0 w Q) : Calls prog 11 #[.slice x0.a x0.l x0.c] w fun en w' => ∃ v, en = .returned v ∧ Q v w' :=
  calls_of_vc good follows an11 (args := [.slice x0.a x0.l x0.c]) Try.func11 (by kernel_rfl) ok11 (of_decide_eq_true (by kernel_rfl)) (Eq.mp (eq11 x0 w Q) h)

/-- (bastion/bastionlaw01.Thing).lay -/
def F12 (x0 : Array Value) (x1 : Sl) (w : World) (Q : Value → World → Prop) : Prop :=
 ∀ b2 w1, NewB w (.cells x0 28) b2 w1 →
 ∃ t6 : Int, Ld w1 ((⟨b2, 0, none⟩ : Addr).add 0) (.int .u8 t6) ∧
 IfB (t6 == (0 : Int))
 (∃ t11 : Int, Ld w1 ((⟨b2, 0, none⟩ : Addr).add 1) (.int .i64 t11) ∧
 Calls prog 32 #[.slice x1.a x1.l x1.c, .int .i64 t11] w1 fun en w1_1 =>
 ∃ t12 : Sl, en = .returned (.slice t12.a t12.l t12.c) ∧
 Q (.slice t12.a t12.l t12.c) w1_1)
 (IfB (t6 == (1 : Int))
 (∃ t17 : Int, Ld w1 ((⟨b2, 0, none⟩ : Addr).add 1) (.int .i64 t17) ∧
 Calls prog 33 #[.slice x1.a x1.l x1.c, .int .i64 t17] w1 fun en w1_1 =>
 ∃ t18 : Sl, en = .returned (.slice t18.a t18.l t18.c) ∧
 Q (.slice t18.a t18.l t18.c) w1_1)
 (IfB (t6 == (2 : Int))
 (∃ t23 : ByteArray, Ld w1 ((⟨b2, 0, none⟩ : Addr).add 2) (.string t23) ∧
 Calls prog 34 #[.slice x1.a x1.l x1.c, .string t23] w1 fun en w1_1 =>
 ∃ t24 : Sl, en = .returned (.slice t24.a t24.l t24.c) ∧
 Q (.slice t24.a t24.l t24.c) w1_1)
 (∃ t27 : Int, Ld w1 ((⟨b2, 0, none⟩ : Addr).add 1) (.int .i64 t27) ∧
 (2 : Int) ≠ 0 ∧
 Calls prog 35 #[.slice x1.a x1.l x1.c, .bool (Int.tmod t27 (2 : Int) != (0 : Int))] w1 fun en w1_1 =>
 ∃ t30 : Sl, en = .returned (.slice t30.a t30.l t30.c) ∧
 Q (.slice t30.a t30.l t30.c) w1_1)))
def an12 : Ann := { cut := fun i => none, loop := fun i => [] }
theorem eq12 (x0 : Array Value) (x1 : Sl) (w : World) (Q : Value → World → Prop) : F12 x0 x1 w Q = vc prog an12 (Try.f12.body.getD .skip) (envOf [.agg x0, .slice x1.a x1.l x1.c]) w (retK prog Try.f12 Q) := by kernel_rfl
theorem ok12 : codeOk Try.f12.ntmps (Try.f12.body.getD .skip) = true := by kernel_rfl
theorem W12 {x0 : Array Value} {x1 : Sl} {w : World} {Q : Value → World → Prop} (h : F12 x0 x1 w Q) : Calls prog 12 #[.agg x0, .slice x1.a x1.l x1.c] w fun en w' => ∃ v, en = .returned v ∧ Q v w' :=
  calls_of_vc good follows an12 (args := [.agg x0, .slice x1.a x1.l x1.c]) Try.func12 (by kernel_rfl) ok12 (of_decide_eq_true (by kernel_rfl)) (Eq.mp (eq12 x0 x1 w Q) h)

/-- (bastion/bastionlaw01.Thing).ref -/
def F13 (x0 : Array Value) (x1 : Sl) (w : World) (Q : Value → World → Prop) : Prop :=
 ∀ b2 w1, NewB w (.cells x0 28) b2 w1 →
 ∃ t6 : Int, Ld w1 ((⟨b2, 0, none⟩ : Addr).add 0) (.int .u8 t6) ∧
 IfB (t6 == (0 : Int))
 (∃ t11 : Int, Ld w1 ((⟨b2, 0, none⟩ : Addr).add 1) (.int .i64 t11) ∧
 Calls prog 37 #[.slice x1.a x1.l x1.c, .int .i64 t11] w1 fun en w1_1 =>
 ∃ t12 : Sl, en = .returned (.slice t12.a t12.l t12.c) ∧
 Q (.slice t12.a t12.l t12.c) w1_1)
 (IfB (t6 == (1 : Int))
 (∃ t17 : Int, Ld w1 ((⟨b2, 0, none⟩ : Addr).add 1) (.int .i64 t17) ∧
 Calls prog 38 #[.slice x1.a x1.l x1.c, .int .i64 t17] w1 fun en w1_1 =>
 ∃ t18 : Sl, en = .returned (.slice t18.a t18.l t18.c) ∧
 Q (.slice t18.a t18.l t18.c) w1_1)
 (IfB (t6 == (2 : Int))
 (∃ t23 : ByteArray, Ld w1 ((⟨b2, 0, none⟩ : Addr).add 2) (.string t23) ∧
 Calls prog 39 #[.slice x1.a x1.l x1.c, .string t23] w1 fun en w1_1 =>
 ∃ t24 : Sl, en = .returned (.slice t24.a t24.l t24.c) ∧
 Q (.slice t24.a t24.l t24.c) w1_1)
 (∃ t27 : Int, Ld w1 ((⟨b2, 0, none⟩ : Addr).add 1) (.int .i64 t27) ∧
 (2 : Int) ≠ 0 ∧
 Calls prog 40 #[.slice x1.a x1.l x1.c, .bool (Int.tmod t27 (2 : Int) != (0 : Int))] w1 fun en w1_1 =>
 ∃ t30 : Sl, en = .returned (.slice t30.a t30.l t30.c) ∧
 Q (.slice t30.a t30.l t30.c) w1_1)))
def an13 : Ann := { cut := fun i => none, loop := fun i => [] }
theorem eq13 (x0 : Array Value) (x1 : Sl) (w : World) (Q : Value → World → Prop) : F13 x0 x1 w Q = vc prog an13 (Try.f13.body.getD .skip) (envOf [.agg x0, .slice x1.a x1.l x1.c]) w (retK prog Try.f13 Q) := by kernel_rfl
theorem ok13 : codeOk Try.f13.ntmps (Try.f13.body.getD .skip) = true := by kernel_rfl
theorem W13 {x0 : Array Value} {x1 : Sl} {w : World} {Q : Value → World → Prop} (h : F13 x0 x1 w Q) : Calls prog 13 #[.agg x0, .slice x1.a x1.l x1.c] w fun en w' => ∃ v, en = .returned v ∧ Q v w' :=
  calls_of_vc good follows an13 (args := [.agg x0, .slice x1.a x1.l x1.c]) Try.func13 (by kernel_rfl) ok13 (of_decide_eq_true (by kernel_rfl)) (Eq.mp (eq13 x0 x1 w Q) h)

/-- bastion/code.NewReader -/
def F14 (x0 : Sl) (w : World) (Q : Value → World → Prop) : Prop :=
 RunT prog .str (convert 22 9 (.slice x0.a x0.l x0.c)) w fun (t4 : ByteArray) w1 =>
 ∃ t5 : Array Value, BuildIs prog 63 #[(0, .string t4)] t5 ∧
 ∃ t6 : Array Value, BuildIs prog 65 #[(0, .agg t5)] t6 ∧
 ∀ b7 w1_1, NewB w1 (.cells t6 65) b7 w1_1 →
 Q (.pointer (some (⟨b7, 0, none⟩ : Addr))) w1_1
def an14 : Ann := { cut := fun i => none, loop := fun i => [] }
theorem eq14 (x0 : Sl) (w : World) (Q : Value → World → Prop) : F14 x0 w Q = vc prog an14 (Try.f14.body.getD .skip) (envOf [.slice x0.a x0.l x0.c]) w (retK prog Try.f14 Q) := by kernel_rfl
theorem ok14 : codeOk Try.f14.ntmps (Try.f14.body.getD .skip) = true := by kernel_rfl
theorem W14 {x0 : Sl} {w : World} {Q : Value → World → Prop} (h : F14 x0 w Q) : Calls prog 14 #[.slice x0.a x0.l x0.c] w fun en w' => ∃ v, en = .returned v ∧ Q v w' :=
  calls_of_vc good follows an14 (args := [.slice x0.a x0.l x0.c]) Try.func14 (by kernel_rfl) ok14 (of_decide_eq_true (by kernel_rfl)) (Eq.mp (eq14 x0 w Q) h)

/-- bastion/bastionref01.NewReader -/
def F15 (x0 : Sl) (w : World) (Q : Value → World → Prop) : Prop :=
 Calls prog 41 #[.slice x0.a x0.l x0.c, .string (⟨#[]⟩ : ByteArray)] w fun en w1 =>
 ∃ t4 : Sl, en = .returned (.slice t4.a t4.l t4.c) ∧
 ∃ t5 : Array Value, BuildIs prog 67 #[(0, .slice t4.a t4.l t4.c)] t5 ∧
 ∀ b6 w1_1, NewB w1 (.cells t5 67) b6 w1_1 →
 Q (.pointer (some (⟨b6, 0, none⟩ : Addr))) w1_1
def an15 : Ann := { cut := fun i => none, loop := fun i => [] }
theorem eq15 (x0 : Sl) (w : World) (Q : Value → World → Prop) : F15 x0 w Q = vc prog an15 (Try.f15.body.getD .skip) (envOf [.slice x0.a x0.l x0.c]) w (retK prog Try.f15 Q) := by kernel_rfl
theorem ok15 : codeOk Try.f15.ntmps (Try.f15.body.getD .skip) = true := by kernel_rfl
theorem W15 {x0 : Sl} {w : World} {Q : Value → World → Prop} (h : F15 x0 w Q) : Calls prog 15 #[.slice x0.a x0.l x0.c] w fun en w' => ∃ v, en = .returned v ∧ Q v w' :=
  calls_of_vc good follows an15 (args := [.slice x0.a x0.l x0.c]) Try.func15 (by kernel_rfl) ok15 (of_decide_eq_true (by kernel_rfl)) (Eq.mp (eq15 x0 w Q) h)

/-- (bastion/bastionlaw01.Thing).ask -/
def F16 (x0 : Array Value) (x1 : Option Addr) (w : World) (Q : Value → World → Prop) : Prop :=
 ∀ b2 w1, NewB w (.cells x0 28) b2 w1 →
 ∀ b4 w1_1, NewB w1 (.cells #[.int .i64 0, .string (⟨#[]⟩ : ByteArray)] 36) b4 w1_1 →
 ∃ t6 : Int, Ld w1_1 ((⟨b2, 0, none⟩ : Addr).add 0) (.int .u8 t6) ∧
 IfB (t6 == (0 : Int))
 (Calls prog 25 #[.pointer x1] w1_1 fun en w1_2 =>
 ∃ t10 : Int, en = .returned (.int .i64 t10) ∧
 ∃ t11 : Array Value, BuildIs prog 36 #[(0, .int .i64 t10)] t11 ∧
 t11.size = 2 ∧ (∀ u, u ∈ t11.toList → u.oneCell' = true) ∧ WrA w1_2 (⟨b4, 0, none⟩ : Addr) 2 ∧ ∀ w1_3, w1_3 = setAt w1_2 (⟨b4, 0, none⟩ : Addr) t11.toList 0 →
 ∃ t4r : Array Value, LdA w1_3 (⟨b4, 0, none⟩ : Addr) 2 t4r ∧
 Q (.agg t4r) w1_3)
 (IfB (t6 == (1 : Int))
 (∃ t16 : Int, Ld w1_1 ((⟨b2, 0, none⟩ : Addr).add 1) (.int .i64 t16) ∧
 Calls prog 26 #[.pointer x1, .int .i64 t16] w1_1 fun en w1_2 =>
 ∃ t17 : Int, en = .returned (.int .i64 t17) ∧
 ∃ t18 : Array Value, BuildIs prog 36 #[(0, .int .i64 t17)] t18 ∧
 t18.size = 2 ∧ (∀ u, u ∈ t18.toList → u.oneCell' = true) ∧ WrA w1_2 (⟨b4, 0, none⟩ : Addr) 2 ∧ ∀ w1_3, w1_3 = setAt w1_2 (⟨b4, 0, none⟩ : Addr) t18.toList 0 →
 ∃ t4r : Array Value, LdA w1_3 (⟨b4, 0, none⟩ : Addr) 2 t4r ∧
 Q (.agg t4r) w1_3)
 (IfB (t6 == (2 : Int))
 (∃ t23 : Int, Ld w1_1 ((⟨b2, 0, none⟩ : Addr).add 1) (.int .i64 t23) ∧
 Calls prog 27 #[.pointer x1, .int .i64 t23] w1_1 fun en w1_2 =>
 ∃ t24 : ByteArray, en = .returned (.string t24) ∧
 ∃ t25 : Array Value, BuildIs prog 36 #[(1, .string t24)] t25 ∧
 t25.size = 2 ∧ (∀ u, u ∈ t25.toList → u.oneCell' = true) ∧ WrA w1_2 (⟨b4, 0, none⟩ : Addr) 2 ∧ ∀ w1_3, w1_3 = setAt w1_2 (⟨b4, 0, none⟩ : Addr) t25.toList 0 →
 ∃ t4r : Array Value, LdA w1_3 (⟨b4, 0, none⟩ : Addr) 2 t4r ∧
 Q (.agg t4r) w1_3)
 (Calls prog 28 #[.pointer x1] w1_1 fun en w1_2 =>
 ∃ t27 : Bool, en = .returned (.bool t27) ∧
 Calls prog 36 #[.bool t27] w1_2 fun en w1_3 =>
 ∃ t28 : Int, en = .returned (.int .i64 t28) ∧
 ∃ t29 : Array Value, BuildIs prog 36 #[(0, .int .i64 t28)] t29 ∧
 t29.size = 2 ∧ (∀ u, u ∈ t29.toList → u.oneCell' = true) ∧ WrA w1_3 (⟨b4, 0, none⟩ : Addr) 2 ∧ ∀ w1_4, w1_4 = setAt w1_3 (⟨b4, 0, none⟩ : Addr) t29.toList 0 →
 ∃ t4r : Array Value, LdA w1_4 (⟨b4, 0, none⟩ : Addr) 2 t4r ∧
 Q (.agg t4r) w1_4)))
def an16 : Ann := { cut := fun i => none, loop := fun i => [] }
theorem eq16 (x0 : Array Value) (x1 : Option Addr) (w : World) (Q : Value → World → Prop) : F16 x0 x1 w Q = vc prog an16 (Try.f16.body.getD .skip) (envOf [.agg x0, .pointer x1]) w (retK prog Try.f16 Q) := by kernel_rfl
theorem ok16 : codeOk Try.f16.ntmps (Try.f16.body.getD .skip) = true := by kernel_rfl
theorem W16 {x0 : Array Value} {x1 : Option Addr} {w : World} {Q : Value → World → Prop} (h : F16 x0 x1 w Q) : Calls prog 16 #[.agg x0, .pointer x1] w fun en w' => ∃ v, en = .returned v ∧ Q v w' :=
  calls_of_vc good follows an16 (args := [.agg x0, .pointer x1]) Try.func16 (by kernel_rfl) ok16 (of_decide_eq_true (by kernel_rfl)) (Eq.mp (eq16 x0 x1 w Q) h)

/-- (bastion/bastionlaw01.Thing).asked -/
def F17 (x0 : Array Value) (x1 : Option Addr) (w : World) (Q : Value → World → Prop) : Prop :=
 ∀ b2 w1, NewB w (.cells x0 28) b2 w1 →
 ∀ b4 w1_1, NewB w1 (.cells #[.int .i64 0, .string (⟨#[]⟩ : ByteArray)] 36) b4 w1_1 →
 ∃ t6 : Int, Ld w1_1 ((⟨b2, 0, none⟩ : Addr).add 0) (.int .u8 t6) ∧
 IfB (t6 == (0 : Int))
 (Calls prog 42 #[.pointer x1] w1_1 fun en w1_2 =>
 ∃ t10 : Int, en = .returned (.int .i64 t10) ∧
 ∃ t11 : Array Value, BuildIs prog 36 #[(0, .int .i64 t10)] t11 ∧
 t11.size = 2 ∧ (∀ u, u ∈ t11.toList → u.oneCell' = true) ∧ WrA w1_2 (⟨b4, 0, none⟩ : Addr) 2 ∧ ∀ w1_3, w1_3 = setAt w1_2 (⟨b4, 0, none⟩ : Addr) t11.toList 0 →
 ∃ t4r : Array Value, LdA w1_3 (⟨b4, 0, none⟩ : Addr) 2 t4r ∧
 Q (.agg t4r) w1_3)
 (IfB (t6 == (1 : Int))
 (∃ t16 : Int, Ld w1_1 ((⟨b2, 0, none⟩ : Addr).add 1) (.int .i64 t16) ∧
 Calls prog 43 #[.pointer x1, .int .i64 t16] w1_1 fun en w1_2 =>
 ∃ t17 : Int, en = .returned (.int .i64 t17) ∧
 ∃ t18 : Array Value, BuildIs prog 36 #[(0, .int .i64 t17)] t18 ∧
 t18.size = 2 ∧ (∀ u, u ∈ t18.toList → u.oneCell' = true) ∧ WrA w1_2 (⟨b4, 0, none⟩ : Addr) 2 ∧ ∀ w1_3, w1_3 = setAt w1_2 (⟨b4, 0, none⟩ : Addr) t18.toList 0 →
 ∃ t4r : Array Value, LdA w1_3 (⟨b4, 0, none⟩ : Addr) 2 t4r ∧
 Q (.agg t4r) w1_3)
 (IfB (t6 == (2 : Int))
 (∃ t23 : Int, Ld w1_1 ((⟨b2, 0, none⟩ : Addr).add 1) (.int .i64 t23) ∧
 Calls prog 44 #[.pointer x1, .int .i64 t23] w1_1 fun en w1_2 =>
 ∃ t24 : ByteArray, en = .returned (.string t24) ∧
 ∃ t25 : Array Value, BuildIs prog 36 #[(1, .string t24)] t25 ∧
 t25.size = 2 ∧ (∀ u, u ∈ t25.toList → u.oneCell' = true) ∧ WrA w1_2 (⟨b4, 0, none⟩ : Addr) 2 ∧ ∀ w1_3, w1_3 = setAt w1_2 (⟨b4, 0, none⟩ : Addr) t25.toList 0 →
 ∃ t4r : Array Value, LdA w1_3 (⟨b4, 0, none⟩ : Addr) 2 t4r ∧
 Q (.agg t4r) w1_3)
 (Calls prog 45 #[.pointer x1] w1_1 fun en w1_2 =>
 ∃ t27 : Bool, en = .returned (.bool t27) ∧
 Calls prog 36 #[.bool t27] w1_2 fun en w1_3 =>
 ∃ t28 : Int, en = .returned (.int .i64 t28) ∧
 ∃ t29 : Array Value, BuildIs prog 36 #[(0, .int .i64 t28)] t29 ∧
 t29.size = 2 ∧ (∀ u, u ∈ t29.toList → u.oneCell' = true) ∧ WrA w1_3 (⟨b4, 0, none⟩ : Addr) 2 ∧ ∀ w1_4, w1_4 = setAt w1_3 (⟨b4, 0, none⟩ : Addr) t29.toList 0 →
 ∃ t4r : Array Value, LdA w1_4 (⟨b4, 0, none⟩ : Addr) 2 t4r ∧
 Q (.agg t4r) w1_4)))
def an17 : Ann := { cut := fun i => none, loop := fun i => [] }
theorem eq17 (x0 : Array Value) (x1 : Option Addr) (w : World) (Q : Value → World → Prop) : F17 x0 x1 w Q = vc prog an17 (Try.f17.body.getD .skip) (envOf [.agg x0, .pointer x1]) w (retK prog Try.f17 Q) := by kernel_rfl
theorem ok17 : codeOk Try.f17.ntmps (Try.f17.body.getD .skip) = true := by kernel_rfl
theorem W17 {x0 : Array Value} {x1 : Option Addr} {w : World} {Q : Value → World → Prop} (h : F17 x0 x1 w Q) : Calls prog 17 #[.agg x0, .pointer x1] w fun en w' => ∃ v, en = .returned v ∧ Q v w' :=
  calls_of_vc good follows an17 (args := [.agg x0, .pointer x1]) Try.func17 (by kernel_rfl) ok17 (of_decide_eq_true (by kernel_rfl)) (Eq.mp (eq17 x0 x1 w Q) h)

/-- (*bastion/code.Reader).OK -/
def F18 (x0 : Option Addr) (w : World) (Q : Value → World → Prop) : Prop :=
 ∃ b4 : Bool, BinIs prog .neq 31 (.tmp 3) (.const (.pointer none)) (.pointer x0) (.pointer none) b4 ∧
 IfB b4
 (∃ p7, x0 = some p7 ∧
 Calls prog 46 #[.pointer (some (p7.add 0))] w fun en w1 =>
 ∃ t9 : Bool, en = .returned (.bool t9) ∧
 Q (.bool t9) w1)
 (Q (.bool false) w)
def an18 : Ann := { cut := fun i => none, loop := fun i => [] }
theorem eq18 (x0 : Option Addr) (w : World) (Q : Value → World → Prop) : F18 x0 w Q = vc prog an18 (Try.f18.body.getD .skip) (envOf [.pointer x0]) w (retK prog Try.f18 Q) := by kernel_rfl
theorem ok18 : codeOk Try.f18.ntmps (Try.f18.body.getD .skip) = true := by kernel_rfl
theorem W18 {x0 : Option Addr} {w : World} {Q : Value → World → Prop} (h : F18 x0 w Q) : Calls prog 18 #[.pointer x0] w fun en w' => ∃ v, en = .returned v ∧ Q v w' :=
  calls_of_vc good follows an18 (args := [.pointer x0]) Try.func18 (by kernel_rfl) ok18 (of_decide_eq_true (by kernel_rfl)) (Eq.mp (eq18 x0 w Q) h)

/-- (*bastion/bastionref01.Reader).OK -/
def F19 (x0 : Option Addr) (w : World) (Q : Value → World → Prop) : Prop :=
 ∃ p4, x0 = some p4 ∧
 ∃ t6 : Bool, Ld w (p4.add 1) (.bool t6) ∧
 Q (.bool (!t6)) w
def an19 : Ann := { cut := fun i => none, loop := fun i => [] }
theorem eq19 (x0 : Option Addr) (w : World) (Q : Value → World → Prop) : F19 x0 w Q = vc prog an19 (Try.f19.body.getD .skip) (envOf [.pointer x0]) w (retK prog Try.f19 Q) := by kernel_rfl
theorem ok19 : codeOk Try.f19.ntmps (Try.f19.body.getD .skip) = true := by kernel_rfl
theorem W19 {x0 : Option Addr} {w : World} {Q : Value → World → Prop} (h : F19 x0 w Q) : Calls prog 19 #[.pointer x0] w fun en w' => ∃ v, en = .returned v ∧ Q v w' :=
  calls_of_vc good follows an19 (args := [.pointer x0]) Try.func19 (by kernel_rfl) ok19 (of_decide_eq_true (by kernel_rfl)) (Eq.mp (eq19 x0 w Q) h)

/-- (*bastion/code.Reader).Left -/
def F20 (x0 : Option Addr) (w : World) (Q : Value → World → Prop) : Prop :=
 ∃ b4 : Bool, BinIs prog .eql 31 (.tmp 3) (.const (.pointer none)) (.pointer x0) (.pointer none) b4 ∧
 IfB b4
 (Q (.int .i64 0) w)
 (∃ p6, x0 = some p6 ∧
 Calls prog 47 #[.pointer (some (p6.add 0))] w fun en w1 =>
 ∃ t8 : Int, en = .returned (.int .i64 t8) ∧
 Q (.int .i64 t8) w1)
def an20 : Ann := { cut := fun i => none, loop := fun i => [] }
theorem eq20 (x0 : Option Addr) (w : World) (Q : Value → World → Prop) : F20 x0 w Q = vc prog an20 (Try.f20.body.getD .skip) (envOf [.pointer x0]) w (retK prog Try.f20 Q) := by kernel_rfl
theorem ok20 : codeOk Try.f20.ntmps (Try.f20.body.getD .skip) = true := by kernel_rfl
theorem W20 {x0 : Option Addr} {w : World} {Q : Value → World → Prop} (h : F20 x0 w Q) : Calls prog 20 #[.pointer x0] w fun en w' => ∃ v, en = .returned v ∧ Q v w' :=
  calls_of_vc good follows an20 (args := [.pointer x0]) Try.func20 (by kernel_rfl) ok20 (of_decide_eq_true (by kernel_rfl)) (Eq.mp (eq20 x0 w Q) h)

/-- (*bastion/bastionref01.Reader).Left -/
def F21 (x0 : Option Addr) (w : World) (Q : Value → World → Prop) : Prop :=
 ∃ p4, x0 = some p4 ∧
 ∃ t6 : Sl, Ld w (p4.add 0) (.slice t6.a t6.l t6.c) ∧
 Q (.int .i64 ((t6.l : Nat) : Int)) w
def an21 : Ann := { cut := fun i => none, loop := fun i => [] }
theorem eq21 (x0 : Option Addr) (w : World) (Q : Value → World → Prop) : F21 x0 w Q = vc prog an21 (Try.f21.body.getD .skip) (envOf [.pointer x0]) w (retK prog Try.f21 Q) := by kernel_rfl
theorem ok21 : codeOk Try.f21.ntmps (Try.f21.body.getD .skip) = true := by kernel_rfl
theorem W21 {x0 : Option Addr} {w : World} {Q : Value → World → Prop} (h : F21 x0 w Q) : Calls prog 21 #[.pointer x0] w fun en w' => ∃ v, en = .returned v ∧ Q v w' :=
  calls_of_vc good follows an21 (args := [.pointer x0]) Try.func21 (by kernel_rfl) ok21 (of_decide_eq_true (by kernel_rfl)) (Eq.mp (eq21 x0 w Q) h)

/-- (*bastion/code.Reader).Done -/
def F22 (x0 : Option Addr) (w : World) (Q : Value → World → Prop) : Prop :=
 ∃ b4 : Bool, BinIs prog .neq 31 (.tmp 3) (.const (.pointer none)) (.pointer x0) (.pointer none) b4 ∧
 IfB b4
 (∃ p7, x0 = some p7 ∧
 Calls prog 48 #[.pointer (some (p7.add 0))] w fun en w1 =>
 ∃ t9 : Bool, en = .returned (.bool t9) ∧
 Q (.bool t9) w1)
 (Q (.bool false) w)
def an22 : Ann := { cut := fun i => none, loop := fun i => [] }
theorem eq22 (x0 : Option Addr) (w : World) (Q : Value → World → Prop) : F22 x0 w Q = vc prog an22 (Try.f22.body.getD .skip) (envOf [.pointer x0]) w (retK prog Try.f22 Q) := by kernel_rfl
theorem ok22 : codeOk Try.f22.ntmps (Try.f22.body.getD .skip) = true := by kernel_rfl
theorem W22 {x0 : Option Addr} {w : World} {Q : Value → World → Prop} (h : F22 x0 w Q) : Calls prog 22 #[.pointer x0] w fun en w' => ∃ v, en = .returned v ∧ Q v w' :=
  calls_of_vc good follows an22 (args := [.pointer x0]) Try.func22 (by kernel_rfl) ok22 (of_decide_eq_true (by kernel_rfl)) (Eq.mp (eq22 x0 w Q) h)

/-- (*bastion/bastionref01.Reader).Done -/
def F23 (x0 : Option Addr) (w : World) (Q : Value → World → Prop) : Prop :=
 ∃ p4, x0 = some p4 ∧
 ∃ t6 : Bool, Ld w (p4.add 1) (.bool t6) ∧
 IfB (!t6)
 (∃ p10, x0 = some p10 ∧
 ∃ t12 : Sl, Ld w (p10.add 0) (.slice t12.a t12.l t12.c) ∧
 Q (.bool (((t12.l : Nat) : Int) == (0 : Int))) w)
 (Q (.bool false) w)
def an23 : Ann := { cut := fun i => none, loop := fun i => [] }
theorem eq23 (x0 : Option Addr) (w : World) (Q : Value → World → Prop) : F23 x0 w Q = vc prog an23 (Try.f23.body.getD .skip) (envOf [.pointer x0]) w (retK prog Try.f23 Q) := by kernel_rfl
theorem ok23 : codeOk Try.f23.ntmps (Try.f23.body.getD .skip) = true := by kernel_rfl
theorem W23 {x0 : Option Addr} {w : World} {Q : Value → World → Prop} (h : F23 x0 w Q) : Calls prog 23 #[.pointer x0] w fun en w' => ∃ v, en = .returned v ∧ Q v w' :=
  calls_of_vc good follows an23 (args := [.pointer x0]) Try.func23 (by kernel_rfl) ok23 (of_decide_eq_true (by kernel_rfl)) (Eq.mp (eq23 x0 w Q) h)

/-- bastion/bastionlaw01.works -/
def F24 (w : World) (Q : Value → World → Prop) : Prop :=
 Calls prog 33 #[.slice none 0 0, .int .i64 300] w fun en w1 =>
 ∃ t3 : Sl, en = .returned (.slice t3.a t3.l t3.c) ∧
 Calls prog 34 #[.slice t3.a t3.l t3.c, .string (⟨#[110, 111]⟩ : ByteArray)] w1 fun en w1_1 =>
 ∃ t4 : Sl, en = .returned (.slice t4.a t4.l t4.c) ∧
 Calls prog 32 #[.slice t4.a t4.l t4.c, .int .i64 (-3)] w1_1 fun en w1_2 =>
 ∃ t5 : Sl, en = .returned (.slice t5.a t5.l t5.c) ∧
 Calls prog 35 #[.slice t5.a t5.l t5.c, .bool false] w1_2 fun en w1_3 =>
 ∃ t6 : Sl, en = .returned (.slice t6.a t6.l t6.c) ∧
 Calls prog 14 #[.slice t6.a t6.l t6.c] w1_3 fun en w1_4 =>
 ∃ t8 : Option Addr, en = .returned (.pointer t8) ∧
 RunT prog .str (convert 22 9 (.slice t6.a t6.l t6.c)) w1_4 fun (t10 : ByteArray) w1_5 =>
 IfB (t10.toList == (⟨#[172, 2, 2, 110, 111, 5, 0]⟩ : ByteArray).toList)
 (Calls prog 26 #[.pointer t8, .int .i64 300] w1_5 fun en w1_6 =>
 ∃ t14 : Int, en = .returned (.int .i64 t14) ∧
 IfB (t14 == (300 : Int))
 (Calls prog 20 #[.pointer t8] w1_6 fun en w1_7 =>
 ∃ t19 : Int, en = .returned (.int .i64 t19) ∧
 IfB (t19 == (5 : Int))
 (Calls prog 27 #[.pointer t8, .int .i64 2] w1_7 fun en w1_8 =>
 ∃ t24 : ByteArray, en = .returned (.string t24) ∧
 IfB (t24.toList == (⟨#[110, 111]⟩ : ByteArray).toList)
 (Calls prog 25 #[.pointer t8] w1_8 fun en w1_9 =>
 ∃ t29 : Int, en = .returned (.int .i64 t29) ∧
 IfB (t29 == (-3 : Int))
 (Calls prog 28 #[.pointer t8] w1_9 fun en w1_10 =>
 ∃ t34 : Bool, en = .returned (.bool t34) ∧
 IfB (!t34)
 (Calls prog 22 #[.pointer t8] w1_10 fun en w1_11 =>
 ∃ t39 : Bool, en = .returned (.bool t39) ∧
 Q (.bool t39) w1_11)
 (Q (.bool false) w1_10))
 (Q (.bool false) w1_9))
 (Q (.bool false) w1_8))
 (Q (.bool false) w1_7))
 (Q (.bool false) w1_6))
 (Q (.bool false) w1_5)
def an24 : Ann := { cut := fun i => none, loop := fun i => [] }
theorem eq24 (w : World) (Q : Value → World → Prop) : F24  w Q = vc prog an24 (Try.f24.body.getD .skip) (envOf []) w (retK prog Try.f24 Q) := by kernel_rfl
theorem ok24 : codeOk Try.f24.ntmps (Try.f24.body.getD .skip) = true := by kernel_rfl
theorem W24 {w : World} {Q : Value → World → Prop} (h : F24  w Q) : Calls prog 24 #[] w fun en w' => ∃ v, en = .returned v ∧ Q v w' :=
  calls_of_vc good follows an24 (args := []) Try.func24 (by kernel_rfl) ok24 (of_decide_eq_true (by kernel_rfl)) (Eq.mp (eq24  w Q) h)

/-- (*bastion/code.Reader).Num -/
def F25 (x0 : Option Addr) (w : World) (Q : Value → World → Prop) : Prop :=
 Calls prog 49 #[.pointer x0, .func (.func 50) #[] #[]] w fun en w1 =>
 ∃ t4 : Int, en = .returned (.int .i64 t4) ∧
 Q (.int .i64 t4) w1
def an25 : Ann := { cut := fun i => none, loop := fun i => [] }
theorem eq25 (x0 : Option Addr) (w : World) (Q : Value → World → Prop) : F25 x0 w Q = vc prog an25 (Try.f25.body.getD .skip) (envOf [.pointer x0]) w (retK prog Try.f25 Q) := by kernel_rfl
theorem ok25 : codeOk Try.f25.ntmps (Try.f25.body.getD .skip) = true := by kernel_rfl
theorem W25 {x0 : Option Addr} {w : World} {Q : Value → World → Prop} (h : F25 x0 w Q) : Calls prog 25 #[.pointer x0] w fun en w' => ∃ v, en = .returned v ∧ Q v w' :=
  calls_of_vc good follows an25 (args := [.pointer x0]) Try.func25 (by kernel_rfl) ok25 (of_decide_eq_true (by kernel_rfl)) (Eq.mp (eq25 x0 w Q) h)

/-- (*bastion/code.Reader).Count -/
def F26 (x0 : Option Addr) (x1 : Int) (w : World) (Q : Value → World → Prop) : Prop :=
 ∀ b3 w1, NewB w (.cells #[.int .i64 x1] 3) b3 w1 →
 Calls prog 52 #[.pointer x0, .func (.func 53) #[] #[.pointer (some (⟨b3, 0, none⟩ : Addr))]] w1 fun en w1_1 =>
 ∃ t7 : Int, en = .returned (.int .i64 t7) ∧
 Q (.int .i64 t7) w1_1
def an26 : Ann := { cut := fun i => none, loop := fun i => [] }
theorem eq26 (x0 : Option Addr) (x1 : Int) (w : World) (Q : Value → World → Prop) : F26 x0 x1 w Q = vc prog an26 (Try.f26.body.getD .skip) (envOf [.pointer x0, .int .i64 x1]) w (retK prog Try.f26 Q) := by kernel_rfl
theorem ok26 : codeOk Try.f26.ntmps (Try.f26.body.getD .skip) = true := by kernel_rfl
theorem W26 {x0 : Option Addr} {x1 : Int} {w : World} {Q : Value → World → Prop} (h : F26 x0 x1 w Q) : Calls prog 26 #[.pointer x0, .int .i64 x1] w fun en w' => ∃ v, en = .returned v ∧ Q v w' :=
  calls_of_vc good follows an26 (args := [.pointer x0, .int .i64 x1]) Try.func26 (by kernel_rfl) ok26 (of_decide_eq_true (by kernel_rfl)) (Eq.mp (eq26 x0 x1 w Q) h)

/-- (*bastion/code.Reader).Str -/
def F27 (x0 : Option Addr) (x1 : Int) (w : World) (Q : Value → World → Prop) : Prop :=
 ∀ b3 w1, NewB w (.cells #[.int .i64 x1] 3) b3 w1 →
 Calls prog 55 #[.pointer x0, .func (.func 56) #[] #[.pointer (some (⟨b3, 0, none⟩ : Addr))]] w1 fun en w1_1 =>
 ∃ t7 : ByteArray, en = .returned (.string t7) ∧
 Q (.string t7) w1_1
def an27 : Ann := { cut := fun i => none, loop := fun i => [] }
theorem eq27 (x0 : Option Addr) (x1 : Int) (w : World) (Q : Value → World → Prop) : F27 x0 x1 w Q = vc prog an27 (Try.f27.body.getD .skip) (envOf [.pointer x0, .int .i64 x1]) w (retK prog Try.f27 Q) := by kernel_rfl
theorem ok27 : codeOk Try.f27.ntmps (Try.f27.body.getD .skip) = true := by kernel_rfl
theorem W27 {x0 : Option Addr} {x1 : Int} {w : World} {Q : Value → World → Prop} (h : F27 x0 x1 w Q) : Calls prog 27 #[.pointer x0, .int .i64 x1] w fun en w' => ∃ v, en = .returned v ∧ Q v w' :=
  calls_of_vc good follows an27 (args := [.pointer x0, .int .i64 x1]) Try.func27 (by kernel_rfl) ok27 (of_decide_eq_true (by kernel_rfl)) (Eq.mp (eq27 x0 x1 w Q) h)

/-- (*bastion/code.Reader).Flag -/
def F28 (x0 : Option Addr) (w : World) (Q : Value → World → Prop) : Prop :=
 Calls prog 26 #[.pointer x0, .int .i64 1] w fun en w1 =>
 ∃ t4 : Int, en = .returned (.int .i64 t4) ∧
 Q (.bool (t4 == (1 : Int))) w1
def an28 : Ann := { cut := fun i => none, loop := fun i => [] }
theorem eq28 (x0 : Option Addr) (w : World) (Q : Value → World → Prop) : F28 x0 w Q = vc prog an28 (Try.f28.body.getD .skip) (envOf [.pointer x0]) w (retK prog Try.f28 Q) := by kernel_rfl
theorem ok28 : codeOk Try.f28.ntmps (Try.f28.body.getD .skip) = true := by kernel_rfl
theorem W28 {x0 : Option Addr} {w : World} {Q : Value → World → Prop} (h : F28 x0 w Q) : Calls prog 28 #[.pointer x0] w fun en w' => ∃ v, en = .returned v ∧ Q v w' :=
  calls_of_vc good follows an28 (args := [.pointer x0]) Try.func28 (by kernel_rfl) ok28 (of_decide_eq_true (by kernel_rfl)) (Eq.mp (eq28 x0 w Q) h)

/-- bastion/bastionlaw01.fails -/
def F29 (x0 : ByteArray) (x1 : Array Value) (w : World) (Q : Value → World → Prop) : Prop :=
 ∀ b3 w1, NewB w (.cells x1 28) b3 w1 →
 RunT prog .slice (convert 9 22 (.string x0)) w1 fun (t8 : Sl) w1_1 =>
 Calls prog 14 #[.slice t8.a t8.l t8.c] w1_1 fun en w1_2 =>
 ∃ t9 : Option Addr, en = .returned (.pointer t9) ∧
 ∃ t10 : Array Value, LdA w1_2 (⟨b3, 0, none⟩ : Addr) 3 t10 ∧
 Calls prog 16 #[.agg t10, .pointer t9] w1_2 fun en w1_3 =>
 ∃ t12 : Array Value, en = .returned (.agg t12) ∧
 ∀ b6 w1_4, NewB w1_3 (.cells #[.int .i64 0, .string (⟨#[]⟩ : ByteArray)] 36) b6 w1_4 →
 t12.size = 2 ∧ (∀ u, u ∈ t12.toList → u.oneCell' = true) ∧ WrA w1_4 (⟨b6, 0, none⟩ : Addr) 2 ∧ ∀ w1_5, w1_5 = setAt w1_4 (⟨b6, 0, none⟩ : Addr) t12.toList 0 →
 ∃ t13 : Array Value, LdA w1_5 (⟨b6, 0, none⟩ : Addr) 2 t13 ∧
 ∃ t14 : Array Value, BuildIs prog 36 #[] t14 ∧
 ∃ b15 : Bool, BinIs prog .eql 36 (.tmp 13) (.tmp 14) (.agg t13) (.agg t14) b15 ∧
 IfB b15
 (Calls prog 18 #[.pointer t9] w1_5 fun en w1_6 =>
 ∃ t18 : Bool, en = .returned (.bool t18) ∧
 IfB (!t18)
 (Calls prog 20 #[.pointer t9] w1_6 fun en w1_7 =>
 ∃ t23 : Int, en = .returned (.int .i64 t23) ∧
 IfB (t23 == (0 : Int))
 (Calls prog 22 #[.pointer t9] w1_7 fun en w1_8 =>
 ∃ t28 : Bool, en = .returned (.bool t28) ∧
 IfB (!t28)
 (Calls prog 25 #[.pointer t9] w1_8 fun en w1_9 =>
 ∃ t33 : Int, en = .returned (.int .i64 t33) ∧
 IfB (t33 == (0 : Int))
 (Calls prog 26 #[.pointer t9, .int .i64 9] w1_9 fun en w1_10 =>
 ∃ t38 : Int, en = .returned (.int .i64 t38) ∧
 IfB (t38 == (0 : Int))
 (Calls prog 27 #[.pointer t9, .int .i64 9] w1_10 fun en w1_11 =>
 ∃ t43 : ByteArray, en = .returned (.string t43) ∧
 IfB (t43.toList == (⟨#[]⟩ : ByteArray).toList)
 (Calls prog 28 #[.pointer t9] w1_11 fun en w1_12 =>
 ∃ t48 : Bool, en = .returned (.bool t48) ∧
 IfB (!t48)
 (Calls prog 18 #[.pointer t9] w1_12 fun en w1_13 =>
 ∃ t53 : Bool, en = .returned (.bool t53) ∧
 Q (.bool (!t53)) w1_13)
 (Q (.bool false) w1_12))
 (Q (.bool false) w1_11))
 (Q (.bool false) w1_10))
 (Q (.bool false) w1_9))
 (Q (.bool false) w1_8))
 (Q (.bool false) w1_7))
 (Q (.bool false) w1_6))
 (Q (.bool false) w1_5)
def an29 : Ann := { cut := fun i => none, loop := fun i => [] }
theorem eq29 (x0 : ByteArray) (x1 : Array Value) (w : World) (Q : Value → World → Prop) : F29 x0 x1 w Q = vc prog an29 (Try.f29.body.getD .skip) (envOf [.string x0, .agg x1]) w (retK prog Try.f29 Q) := by kernel_rfl
theorem ok29 : codeOk Try.f29.ntmps (Try.f29.body.getD .skip) = true := by kernel_rfl
theorem W29 {x0 : ByteArray} {x1 : Array Value} {w : World} {Q : Value → World → Prop} (h : F29 x0 x1 w Q) : Calls prog 29 #[.string x0, .agg x1] w fun en w' => ∃ v, en = .returned v ∧ Q v w' :=
  calls_of_vc good follows an29 (args := [.string x0, .agg x1]) Try.func29 (by kernel_rfl) ok29 (of_decide_eq_true (by kernel_rfl)) (Eq.mp (eq29 x0 x1 w Q) h)

/-- (bastion/bastionlaw01.Thing).may -/
def F30 (x0 : Array Value) (w : World) (Q : Value → World → Prop) : Prop :=
 ∀ b1 w1, NewB w (.cells x0 28) b1 w1 →
 ∃ t4 : Int, Ld w1 ((⟨b1, 0, none⟩ : Addr).add 0) (.int .u8 t4) ∧
 IfB (t4 != (1 : Int))
 (Q (.bool true) w1)
 (∃ t8 : Int, Ld w1 ((⟨b1, 0, none⟩ : Addr).add 1) (.int .i64 t8) ∧
 IfB (decide (t8 ≥ (0 : Int)))
 (∃ t12 : Int, Ld w1 ((⟨b1, 0, none⟩ : Addr).add 1) (.int .i64 t12) ∧
 Q (.bool (decide (t12 ≤ (2147483647 : Int)))) w1)
 (Q (.bool false) w1))
def an30 : Ann := { cut := fun i => none, loop := fun i => [] }
theorem eq30 (x0 : Array Value) (w : World) (Q : Value → World → Prop) : F30 x0 w Q = vc prog an30 (Try.f30.body.getD .skip) (envOf [.agg x0]) w (retK prog Try.f30 Q) := by kernel_rfl
theorem ok30 : codeOk Try.f30.ntmps (Try.f30.body.getD .skip) = true := by kernel_rfl
theorem W30 {x0 : Array Value} {w : World} {Q : Value → World → Prop} (h : F30 x0 w Q) : Calls prog 30 #[.agg x0] w fun en w' => ∃ v, en = .returned v ∧ Q v w' :=
  calls_of_vc good follows an30 (args := [.agg x0]) Try.func30 (by kernel_rfl) ok30 (of_decide_eq_true (by kernel_rfl)) (Eq.mp (eq30 x0 w Q) h)

/-- bastion/bastionlaw01.begins -/
def F31 (x0 : ByteArray) (x1 : ByteArray) (w : World) (Q : Value → World → Prop) : Prop :=
 IfB (decide (((x0.size : Nat) : Int) ≥ ((x1.size : Nat) : Int)))
 ((0 ≤ ((x1.size : Nat) : Int) ∧ ((x1.size : Nat) : Int) ≤ ((x0.size : Nat) : Int)) ∧
 Q (.bool ((x0.extract 0 ((((x1.size : Nat) : Int)).toNat)).toList == x1.toList)) w)
 (Q (.bool false) w)
def an31 : Ann := { cut := fun i => none, loop := fun i => [] }
theorem eq31 (x0 : ByteArray) (x1 : ByteArray) (w : World) (Q : Value → World → Prop) : F31 x0 x1 w Q = vc prog an31 (Try.f31.body.getD .skip) (envOf [.string x0, .string x1]) w (retK prog Try.f31 Q) := by kernel_rfl
theorem ok31 : codeOk Try.f31.ntmps (Try.f31.body.getD .skip) = true := by kernel_rfl
theorem W31 {x0 : ByteArray} {x1 : ByteArray} {w : World} {Q : Value → World → Prop} (h : F31 x0 x1 w Q) : Calls prog 31 #[.string x0, .string x1] w fun en w' => ∃ v, en = .returned v ∧ Q v w' :=
  calls_of_vc good follows an31 (args := [.string x0, .string x1]) Try.func31 (by kernel_rfl) ok31 (of_decide_eq_true (by kernel_rfl)) (Eq.mp (eq31 x0 x1 w Q) h)

/-- bastion/code.Num -/
def F32 (x0 : Sl) (x1 : Int) (w : World) (Q : Value → World → Prop) : Prop :=
 0 ≤ (1 : Int) ∧
 IfB (decide (x1 < (0 : Int)))
 (Calls prog 57 #[.slice x0.a x0.l x0.c, .int .u64 (bitsI .xor .u64 (IntKind.max .u64) (IntKind.wrap .u64 ((IntKind.wrap .u64 x1) * 2 ^ (min 1 64)))), .string (⟨#[]⟩ : ByteArray)] w fun en w1 =>
 ∃ t15 : Sl, en = .returned (.slice t15.a t15.l t15.c) ∧
 Q (.slice t15.a t15.l t15.c) w1)
 (Calls prog 57 #[.slice x0.a x0.l x0.c, .int .u64 (IntKind.wrap .u64 ((IntKind.wrap .u64 x1) * 2 ^ (min 1 64))), .string (⟨#[]⟩ : ByteArray)] w fun en w1 =>
 ∃ t15 : Sl, en = .returned (.slice t15.a t15.l t15.c) ∧
 Q (.slice t15.a t15.l t15.c) w1)
def an32 : Ann := { cut := fun i => none, loop := fun i => [] }
theorem eq32 (x0 : Sl) (x1 : Int) (w : World) (Q : Value → World → Prop) : F32 x0 x1 w Q = vc prog an32 (Try.f32.body.getD .skip) (envOf [.slice x0.a x0.l x0.c, .int .i64 x1]) w (retK prog Try.f32 Q) := by kernel_rfl
theorem ok32 : codeOk Try.f32.ntmps (Try.f32.body.getD .skip) = true := by kernel_rfl
theorem W32 {x0 : Sl} {x1 : Int} {w : World} {Q : Value → World → Prop} (h : F32 x0 x1 w Q) : Calls prog 32 #[.slice x0.a x0.l x0.c, .int .i64 x1] w fun en w' => ∃ v, en = .returned v ∧ Q v w' :=
  calls_of_vc good follows an32 (args := [.slice x0.a x0.l x0.c, .int .i64 x1]) Try.func32 (by kernel_rfl) ok32 (of_decide_eq_true (by kernel_rfl)) (Eq.mp (eq32 x0 x1 w Q) h)

/-- bastion/code.Count -/
def F33 (x0 : Sl) (x1 : Int) (w : World) (Q : Value → World → Prop) : Prop :=
 IfB (decide (x1 < (0 : Int)))
 (Calls prog 58 #[.slice x0.a x0.l x0.c] w fun en w1 =>
 ∃ t12 : Sl, en = .returned (.slice t12.a t12.l t12.c) ∧
 Q (.slice t12.a t12.l t12.c) w1)
 (IfB (decide (x1 > (2147483647 : Int)))
 (Calls prog 58 #[.slice x0.a x0.l x0.c] w fun en w1 =>
 ∃ t12 : Sl, en = .returned (.slice t12.a t12.l t12.c) ∧
 Q (.slice t12.a t12.l t12.c) w1)
 (Calls prog 57 #[.slice x0.a x0.l x0.c, .int .u64 (IntKind.wrap .u64 x1), .string (⟨#[]⟩ : ByteArray)] w fun en w1 =>
 ∃ t16 : Sl, en = .returned (.slice t16.a t16.l t16.c) ∧
 Q (.slice t16.a t16.l t16.c) w1))
def an33 : Ann := { cut := fun i => none, loop := fun i => [] }
theorem eq33 (x0 : Sl) (x1 : Int) (w : World) (Q : Value → World → Prop) : F33 x0 x1 w Q = vc prog an33 (Try.f33.body.getD .skip) (envOf [.slice x0.a x0.l x0.c, .int .i64 x1]) w (retK prog Try.f33 Q) := by kernel_rfl
theorem ok33 : codeOk Try.f33.ntmps (Try.f33.body.getD .skip) = true := by kernel_rfl
theorem W33 {x0 : Sl} {x1 : Int} {w : World} {Q : Value → World → Prop} (h : F33 x0 x1 w Q) : Calls prog 33 #[.slice x0.a x0.l x0.c, .int .i64 x1] w fun en w' => ∃ v, en = .returned v ∧ Q v w' :=
  calls_of_vc good follows an33 (args := [.slice x0.a x0.l x0.c, .int .i64 x1]) Try.func33 (by kernel_rfl) ok33 (of_decide_eq_true (by kernel_rfl)) (Eq.mp (eq33 x0 x1 w Q) h)

/-- bastion/code.Str -/
def F34 (x0 : Sl) (x1 : ByteArray) (w : World) (Q : Value → World → Prop) : Prop :=
 IfB (decide (((x1.size : Nat) : Int) > (2147483647 : Int)))
 (Calls prog 58 #[.slice x0.a x0.l x0.c] w fun en w1 =>
 ∃ t9 : Sl, en = .returned (.slice t9.a t9.l t9.c) ∧
 Q (.slice t9.a t9.l t9.c) w1)
 (Calls prog 57 #[.slice x0.a x0.l x0.c, .int .u64 (IntKind.wrap .u64 ((x1.size : Nat) : Int)), .string x1] w fun en w1 =>
 ∃ t15 : Sl, en = .returned (.slice t15.a t15.l t15.c) ∧
 Q (.slice t15.a t15.l t15.c) w1)
def an34 : Ann := { cut := fun i => none, loop := fun i => [] }
theorem eq34 (x0 : Sl) (x1 : ByteArray) (w : World) (Q : Value → World → Prop) : F34 x0 x1 w Q = vc prog an34 (Try.f34.body.getD .skip) (envOf [.slice x0.a x0.l x0.c, .string x1]) w (retK prog Try.f34 Q) := by kernel_rfl
theorem ok34 : codeOk Try.f34.ntmps (Try.f34.body.getD .skip) = true := by kernel_rfl
theorem W34 {x0 : Sl} {x1 : ByteArray} {w : World} {Q : Value → World → Prop} (h : F34 x0 x1 w Q) : Calls prog 34 #[.slice x0.a x0.l x0.c, .string x1] w fun en w' => ∃ v, en = .returned v ∧ Q v w' :=
  calls_of_vc good follows an34 (args := [.slice x0.a x0.l x0.c, .string x1]) Try.func34 (by kernel_rfl) ok34 (of_decide_eq_true (by kernel_rfl)) (Eq.mp (eq34 x0 x1 w Q) h)

/-- bastion/code.Flag -/
def F35 (x0 : Sl) (x1 : Bool) (w : World) (Q : Value → World → Prop) : Prop :=
 IfB x1
 (Calls prog 57 #[.slice x0.a x0.l x0.c, .int .u64 1, .string (⟨#[]⟩ : ByteArray)] w fun en w1 =>
 ∃ t7 : Sl, en = .returned (.slice t7.a t7.l t7.c) ∧
 Q (.slice t7.a t7.l t7.c) w1)
 (Calls prog 57 #[.slice x0.a x0.l x0.c, .int .u64 0, .string (⟨#[]⟩ : ByteArray)] w fun en w1 =>
 ∃ t9 : Sl, en = .returned (.slice t9.a t9.l t9.c) ∧
 Q (.slice t9.a t9.l t9.c) w1)
def an35 : Ann := { cut := fun i => none, loop := fun i => [] }
theorem eq35 (x0 : Sl) (x1 : Bool) (w : World) (Q : Value → World → Prop) : F35 x0 x1 w Q = vc prog an35 (Try.f35.body.getD .skip) (envOf [.slice x0.a x0.l x0.c, .bool x1]) w (retK prog Try.f35 Q) := by kernel_rfl
theorem ok35 : codeOk Try.f35.ntmps (Try.f35.body.getD .skip) = true := by kernel_rfl
theorem W35 {x0 : Sl} {x1 : Bool} {w : World} {Q : Value → World → Prop} (h : F35 x0 x1 w Q) : Calls prog 35 #[.slice x0.a x0.l x0.c, .bool x1] w fun en w' => ∃ v, en = .returned v ∧ Q v w' :=
  calls_of_vc good follows an35 (args := [.slice x0.a x0.l x0.c, .bool x1]) Try.func35 (by kernel_rfl) ok35 (of_decide_eq_true (by kernel_rfl)) (Eq.mp (eq35 x0 x1 w Q) h)

/-- bastion/bastionlaw01.one -/
def F36 (x0 : Bool) (w : World) (Q : Value → World → Prop) : Prop :=
 IfB x0
 (Q (.int .i64 1) w)
 (Q (.int .i64 0) w)
def an36 : Ann := { cut := fun i => none, loop := fun i => [] }
theorem eq36 (x0 : Bool) (w : World) (Q : Value → World → Prop) : F36 x0 w Q = vc prog an36 (Try.f36.body.getD .skip) (envOf [.bool x0]) w (retK prog Try.f36 Q) := by kernel_rfl
theorem ok36 : codeOk Try.f36.ntmps (Try.f36.body.getD .skip) = true := by kernel_rfl
theorem W36 {x0 : Bool} {w : World} {Q : Value → World → Prop} (h : F36 x0 w Q) : Calls prog 36 #[.bool x0] w fun en w' => ∃ v, en = .returned v ∧ Q v w' :=
  calls_of_vc good follows an36 (args := [.bool x0]) Try.func36 (by kernel_rfl) ok36 (of_decide_eq_true (by kernel_rfl)) (Eq.mp (eq36 x0 w Q) h)

/-- bastion/bastionref01.Num -/
def F37 (x0 : Sl) (x1 : Int) (w : World) (Q : Value → World → Prop) : Prop :=
 Calls prog 60 #[.int .i64 x1] w fun en w1 =>
 ∃ t7 : Int, en = .returned (.int .u64 t7) ∧
 Calls prog 59 #[.int .u64 t7] w1 fun en w1_1 =>
 ∃ t8 : ByteArray, en = .returned (.string t8) ∧
 Calls prog 41 #[.slice x0.a x0.l x0.c, .string t8] w1_1 fun en w1_2 =>
 ∃ t9 : Sl, en = .returned (.slice t9.a t9.l t9.c) ∧
 Q (.slice t9.a t9.l t9.c) w1_2
def an37 : Ann := { cut := fun i => none, loop := fun i => [] }
theorem eq37 (x0 : Sl) (x1 : Int) (w : World) (Q : Value → World → Prop) : F37 x0 x1 w Q = vc prog an37 (Try.f37.body.getD .skip) (envOf [.slice x0.a x0.l x0.c, .int .i64 x1]) w (retK prog Try.f37 Q) := by kernel_rfl
theorem ok37 : codeOk Try.f37.ntmps (Try.f37.body.getD .skip) = true := by kernel_rfl
theorem W37 {x0 : Sl} {x1 : Int} {w : World} {Q : Value → World → Prop} (h : F37 x0 x1 w Q) : Calls prog 37 #[.slice x0.a x0.l x0.c, .int .i64 x1] w fun en w' => ∃ v, en = .returned v ∧ Q v w' :=
  calls_of_vc good follows an37 (args := [.slice x0.a x0.l x0.c, .int .i64 x1]) Try.func37 (by kernel_rfl) ok37 (of_decide_eq_true (by kernel_rfl)) (Eq.mp (eq37 x0 x1 w Q) h)

/-- bastion/bastionref01.Count -/
def F38 (x0 : Sl) (x1 : Int) (w : World) (Q : Value → World → Prop) : Prop :=
 IfB (decide (x1 < (0 : Int)))
 (Calls prog 41 #[.slice x0.a x0.l x0.c, .string (⟨#[]⟩ : ByteArray)] w fun en w1 =>
 ∃ t12 : Sl, en = .returned (.slice t12.a t12.l t12.c) ∧
 Q (.slice t12.a t12.l t12.c) w1)
 (IfB (decide (x1 > (2147483647 : Int)))
 (Calls prog 41 #[.slice x0.a x0.l x0.c, .string (⟨#[]⟩ : ByteArray)] w fun en w1 =>
 ∃ t12 : Sl, en = .returned (.slice t12.a t12.l t12.c) ∧
 Q (.slice t12.a t12.l t12.c) w1)
 (Calls prog 59 #[.int .u64 (IntKind.wrap .u64 x1)] w fun en w1 =>
 ∃ t16 : ByteArray, en = .returned (.string t16) ∧
 Calls prog 41 #[.slice x0.a x0.l x0.c, .string t16] w1 fun en w1_1 =>
 ∃ t17 : Sl, en = .returned (.slice t17.a t17.l t17.c) ∧
 Q (.slice t17.a t17.l t17.c) w1_1))
def an38 : Ann := { cut := fun i => none, loop := fun i => [] }
theorem eq38 (x0 : Sl) (x1 : Int) (w : World) (Q : Value → World → Prop) : F38 x0 x1 w Q = vc prog an38 (Try.f38.body.getD .skip) (envOf [.slice x0.a x0.l x0.c, .int .i64 x1]) w (retK prog Try.f38 Q) := by kernel_rfl
theorem ok38 : codeOk Try.f38.ntmps (Try.f38.body.getD .skip) = true := by kernel_rfl
theorem W38 {x0 : Sl} {x1 : Int} {w : World} {Q : Value → World → Prop} (h : F38 x0 x1 w Q) : Calls prog 38 #[.slice x0.a x0.l x0.c, .int .i64 x1] w fun en w' => ∃ v, en = .returned v ∧ Q v w' :=
  calls_of_vc good follows an38 (args := [.slice x0.a x0.l x0.c, .int .i64 x1]) Try.func38 (by kernel_rfl) ok38 (of_decide_eq_true (by kernel_rfl)) (Eq.mp (eq38 x0 x1 w Q) h)

/-- bastion/bastionref01.Str -/
def F39 (x0 : Sl) (x1 : ByteArray) (w : World) (Q : Value → World → Prop) : Prop :=
 Calls prog 38 #[.slice x0.a x0.l x0.c, .int .i64 ((x1.size : Nat) : Int)] w fun en w1 =>
 ∃ t8 : Sl, en = .returned (.slice t8.a t8.l t8.c) ∧
 Calls prog 41 #[.slice t8.a t8.l t8.c, .string x1] w1 fun en w1_1 =>
 ∃ t10 : Sl, en = .returned (.slice t10.a t10.l t10.c) ∧
 Q (.slice t10.a t10.l t10.c) w1_1
def an39 : Ann := { cut := fun i => none, loop := fun i => [] }
theorem eq39 (x0 : Sl) (x1 : ByteArray) (w : World) (Q : Value → World → Prop) : F39 x0 x1 w Q = vc prog an39 (Try.f39.body.getD .skip) (envOf [.slice x0.a x0.l x0.c, .string x1]) w (retK prog Try.f39 Q) := by kernel_rfl
theorem ok39 : codeOk Try.f39.ntmps (Try.f39.body.getD .skip) = true := by kernel_rfl
theorem W39 {x0 : Sl} {x1 : ByteArray} {w : World} {Q : Value → World → Prop} (h : F39 x0 x1 w Q) : Calls prog 39 #[.slice x0.a x0.l x0.c, .string x1] w fun en w' => ∃ v, en = .returned v ∧ Q v w' :=
  calls_of_vc good follows an39 (args := [.slice x0.a x0.l x0.c, .string x1]) Try.func39 (by kernel_rfl) ok39 (of_decide_eq_true (by kernel_rfl)) (Eq.mp (eq39 x0 x1 w Q) h)

/-- bastion/bastionref01.Flag -/
def F40 (x0 : Sl) (x1 : Bool) (w : World) (Q : Value → World → Prop) : Prop :=
 IfB x1
 (Calls prog 41 #[.slice x0.a x0.l x0.c, .string (⟨#[1]⟩ : ByteArray)] w fun en w1 =>
 ∃ t7 : Sl, en = .returned (.slice t7.a t7.l t7.c) ∧
 Q (.slice t7.a t7.l t7.c) w1)
 (Calls prog 41 #[.slice x0.a x0.l x0.c, .string (⟨#[0]⟩ : ByteArray)] w fun en w1 =>
 ∃ t9 : Sl, en = .returned (.slice t9.a t9.l t9.c) ∧
 Q (.slice t9.a t9.l t9.c) w1)
def an40 : Ann := { cut := fun i => none, loop := fun i => [] }
theorem eq40 (x0 : Sl) (x1 : Bool) (w : World) (Q : Value → World → Prop) : F40 x0 x1 w Q = vc prog an40 (Try.f40.body.getD .skip) (envOf [.slice x0.a x0.l x0.c, .bool x1]) w (retK prog Try.f40 Q) := by kernel_rfl
theorem ok40 : codeOk Try.f40.ntmps (Try.f40.body.getD .skip) = true := by kernel_rfl
theorem W40 {x0 : Sl} {x1 : Bool} {w : World} {Q : Value → World → Prop} (h : F40 x0 x1 w Q) : Calls prog 40 #[.slice x0.a x0.l x0.c, .bool x1] w fun en w' => ∃ v, en = .returned v ∧ Q v w' :=
  calls_of_vc good follows an40 (args := [.slice x0.a x0.l x0.c, .bool x1]) Try.func40 (by kernel_rfl) ok40 (of_decide_eq_true (by kernel_rfl)) (Eq.mp (eq40 x0 x1 w Q) h)

/-- bastion/bastionref01.behind -/
def F41 (x0 : Sl) (x1 : ByteArray) (w : World) (Q : Value → World → Prop) : Prop :=
 ∃ (I : Nat → Sl → Int → World → Prop) (n0 : Nat), I n0 (⟨none, 0, 0⟩ : Sl) (0 : Int) w ∧
 ∀ (n : Nat) (u : Env) (x5 : Sl) (x6 : Int) (w1 : World), I n x5 x6 w1 →
 IfB (decide (x6 < ((x0.l : Nat) : Int)))
 (∃ p17, x0.a = some p17 ∧ 0 ≤ x6 ∧ x6 < ((x0.l : Nat) : Int) ∧
 ∃ t18 : Int, Ld w1 (p17.add ((x6).toNat * 1)) (.int .u8 t18) ∧
 RunT prog .slice (Instr.buildSlice 22 1 #[(0, .int .u8 t18)]) w1 fun (t19 : Sl) w1_1 =>
 RunT prog .slice (Builtin.append_ #[22, 22] 22 #[.slice x5.a x5.l x5.c, .slice t19.a t19.l t19.c]) w1_1 fun (t20 : Sl) w1_2 =>
 ∃ n', n' < n ∧ I n' t20 (IntKind.wrap .i64 (x6 + (1 : Int))) w1_2)
 (∃ (I_1 : Nat → Sl → Int → World → Prop) (n0_1 : Nat), I_1 n0_1 x5 (0 : Int) w1 ∧
 ∀ (n_1 : Nat) (u_1 : Env) (x5_1 : Sl) (x7 : Int) (w1_1 : World), I_1 n_1 x5_1 x7 w1_1 →
 IfB (decide (x7 < ((x1.size : Nat) : Int)))
 (0 ≤ x7 ∧ x7 < ((x1.size : Nat) : Int) ∧
 RunT prog .slice (Instr.buildSlice 22 1 #[(0, .int .u8 (bt x1 x7))]) w1_1 fun (t31 : Sl) w1_2 =>
 RunT prog .slice (Builtin.append_ #[22, 22] 22 #[.slice x5_1.a x5_1.l x5_1.c, .slice t31.a t31.l t31.c]) w1_2 fun (t32 : Sl) w1_3 =>
 ∃ n', n' < n_1 ∧ I_1 n' t32 (IntKind.wrap .i64 (x7 + (1 : Int))) w1_3)
 (Q (.slice x5_1.a x5_1.l x5_1.c) w1_1))
def an41 : Ann := { cut := fun i => none, loop := fun i => bif Nat.beq i 3 then [(5, .slice), (6, .int .i64)] else bif Nat.beq i 7 then [(5, .slice), (7, .int .i64)] else [] }
theorem eq41 (x0 : Sl) (x1 : ByteArray) (w : World) (Q : Value → World → Prop) : F41 x0 x1 w Q = vc prog an41 (Try.f41.body.getD .skip) (envOf [.slice x0.a x0.l x0.c, .string x1]) w (retK prog Try.f41 Q) := by kernel_rfl
theorem ok41 : codeOk Try.f41.ntmps (Try.f41.body.getD .skip) = true := by kernel_rfl
theorem W41 {x0 : Sl} {x1 : ByteArray} {w : World} {Q : Value → World → Prop} (h : F41 x0 x1 w Q) : Calls prog 41 #[.slice x0.a x0.l x0.c, .string x1] w fun en w' => ∃ v, en = .returned v ∧ Q v w' :=
  calls_of_vc good follows an41 (args := [.slice x0.a x0.l x0.c, .string x1]) Try.func41 (by kernel_rfl) ok41 (of_decide_eq_true (by kernel_rfl)) (Eq.mp (eq41 x0 x1 w Q) h)

/-- (*bastion/bastionref01.Reader).Num -/
def F42 (x0 : Option Addr) (w : World) (Q : Value → World → Prop) : Prop :=
 Calls prog 61 #[.pointer x0] w fun en w1 =>
 ∃ t8a : Int, ∃ t8b : Int, en = .returned (.tuple #[.int .u64 t8a, .int .i64 t8b]) ∧
 IfB (t8b == (0 : Int))
 (Calls prog 62 #[.pointer x0] w1 fun en w1_1 =>
 en = .returned (.tuple #[]) ∧
 Q (.int .i64 0) w1_1)
 (∃ p17, x0 = some p17 ∧
 ∃ t19 : Sl, Ld w1 (p17.add 0) (.slice t19.a t19.l t19.c) ∧
 (0 ≤ t8b ∧ t8b ≤ ((t19.l : Nat) : Int)) ∧
 ∃ p22, x0 = some p22 ∧
 Wr w1 (p22.add 0) ∧ ∀ w1_1, w1_1 = w1.setCell (p22.add 0) (.slice (slA t19.a ((t8b).toNat) t19.c 1) (t19.l - ((t8b).toNat)) (t19.c - ((t8b).toNat))) →
 (2 : Int) ≠ 0 ∧
 (2 : Int) ≠ 0 ∧
 IfB (Int.tmod t8a (2 : Int) == (1 : Int))
 (Q (.int .i64 (IntKind.wrap .i64 ((IntKind.wrap .i64 (0 - IntKind.wrap .i64 (IntKind.wrap .u64 (Int.tdiv t8a (2 : Int))))) - (1 : Int)))) w1_1)
 (Q (.int .i64 (IntKind.wrap .i64 (IntKind.wrap .u64 (Int.tdiv t8a (2 : Int))))) w1_1))
def an42 : Ann := { cut := fun i => none, loop := fun i => [] }
theorem eq42 (x0 : Option Addr) (w : World) (Q : Value → World → Prop) : F42 x0 w Q = vc prog an42 (Try.f42.body.getD .skip) (envOf [.pointer x0]) w (retK prog Try.f42 Q) := by kernel_rfl
theorem ok42 : codeOk Try.f42.ntmps (Try.f42.body.getD .skip) = true := by kernel_rfl
theorem W42 {x0 : Option Addr} {w : World} {Q : Value → World → Prop} (h : F42 x0 w Q) : Calls prog 42 #[.pointer x0] w fun en w' => ∃ v, en = .returned v ∧ Q v w' :=
  calls_of_vc good follows an42 (args := [.pointer x0]) Try.func42 (by kernel_rfl) ok42 (of_decide_eq_true (by kernel_rfl)) (Eq.mp (eq42 x0 w Q) h)

/-- (*bastion/bastionref01.Reader).Count -/
def F43 (x0 : Option Addr) (x1 : Int) (w : World) (Q : Value → World → Prop) : Prop :=
 Calls prog 63 #[.pointer x0, .int .i64 x1] w fun en w1 =>
 ∃ t10a : Int, ∃ t10b : Int, en = .returned (.tuple #[.int .i64 t10a, .int .i64 t10b]) ∧
 IfB (t10b == (0 : Int))
 (Calls prog 62 #[.pointer x0] w1 fun en w1_1 =>
 en = .returned (.tuple #[]) ∧
 Q (.int .i64 0) w1_1)
 (∃ p19, x0 = some p19 ∧
 ∃ t21 : Sl, Ld w1 (p19.add 0) (.slice t21.a t21.l t21.c) ∧
 (0 ≤ t10b ∧ t10b ≤ ((t21.l : Nat) : Int)) ∧
 ∃ p24, x0 = some p24 ∧
 Wr w1 (p24.add 0) ∧ ∀ w1_1, w1_1 = w1.setCell (p24.add 0) (.slice (slA t21.a ((t10b).toNat) t21.c 1) (t21.l - ((t10b).toNat)) (t21.c - ((t10b).toNat))) →
 Q (.int .i64 t10a) w1_1)
def an43 : Ann := { cut := fun i => none, loop := fun i => [] }
theorem eq43 (x0 : Option Addr) (x1 : Int) (w : World) (Q : Value → World → Prop) : F43 x0 x1 w Q = vc prog an43 (Try.f43.body.getD .skip) (envOf [.pointer x0, .int .i64 x1]) w (retK prog Try.f43 Q) := by kernel_rfl
theorem ok43 : codeOk Try.f43.ntmps (Try.f43.body.getD .skip) = true := by kernel_rfl
theorem W43 {x0 : Option Addr} {x1 : Int} {w : World} {Q : Value → World → Prop} (h : F43 x0 x1 w Q) : Calls prog 43 #[.pointer x0, .int .i64 x1] w fun en w' => ∃ v, en = .returned v ∧ Q v w' :=
  calls_of_vc good follows an43 (args := [.pointer x0, .int .i64 x1]) Try.func43 (by kernel_rfl) ok43 (of_decide_eq_true (by kernel_rfl)) (Eq.mp (eq43 x0 x1 w Q) h)

/-- (*bastion/bastionref01.Reader).Str -/
def F44 (x0 : Option Addr) (x1 : Int) (w : World) (Q : Value → World → Prop) : Prop :=
 Calls prog 63 #[.pointer x0, .int .i64 x1] w fun en w1 =>
 ∃ t11a : Int, ∃ t11b : Int, en = .returned (.tuple #[.int .i64 t11a, .int .i64 t11b]) ∧
 ∃ J : Bool → World → Prop, (IfB (t11b == (0 : Int))
 (J true w1)
 (∃ p21, x0 = some p21 ∧
 ∃ t23 : Sl, Ld w1 (p21.add 0) (.slice t23.a t23.l t23.c) ∧
 J (decide (IntKind.wrap .i64 (t11b + t11a) > ((t23.l : Nat) : Int))) w1)) ∧
 (∀ (u : Env) (x26 : Bool) (w1_1 : World), J x26 w1_1 →
 IfB x26
 (Calls prog 62 #[.pointer x0] w1_1 fun en w1_2 =>
 en = .returned (.tuple #[]) ∧
 Q (.string (⟨#[]⟩ : ByteArray)) w1_2)
 (∃ p30, x0 = some p30 ∧
 ∃ t32 : Sl, Ld w1_1 (p30.add 0) (.slice t32.a t32.l t32.c) ∧
 (0 ≤ IntKind.wrap .i64 (t11b + t11a) ∧ IntKind.wrap .i64 (t11b + t11a) ≤ ((t32.c : Nat) : Int)) ∧
 (0 ≤ t11b ∧ t11b ≤ (((IntKind.wrap .i64 (t11b + t11a)).toNat : Nat) : Int)) ∧
 RunT prog .str (convert 22 9 (.slice (slA t32.a ((t11b).toNat) t32.c 1) ((IntKind.wrap .i64 (t11b + t11a)).toNat - ((t11b).toNat)) (t32.c - ((t11b).toNat)))) w1_1 fun (t38 : ByteArray) w1_2 =>
 ∃ p41, x0 = some p41 ∧
 ∃ t43 : Sl, Ld w1_2 (p41.add 0) (.slice t43.a t43.l t43.c) ∧
 (0 ≤ IntKind.wrap .i64 (t11b + t11a) ∧ IntKind.wrap .i64 (t11b + t11a) ≤ ((t43.l : Nat) : Int)) ∧
 ∃ p48, x0 = some p48 ∧
 Wr w1_2 (p48.add 0) ∧ ∀ w1_3, w1_3 = w1_2.setCell (p48.add 0) (.slice (slA t43.a ((IntKind.wrap .i64 (t11b + t11a)).toNat) t43.c 1) (t43.l - ((IntKind.wrap .i64 (t11b + t11a)).toNat)) (t43.c - ((IntKind.wrap .i64 (t11b + t11a)).toNat))) →
 Q (.string t38) w1_3))
def an44 : Ann := { cut := fun i => bif Nat.beq i 3 then some [(26, .bool)] else none, loop := fun i => [] }
theorem eq44 (x0 : Option Addr) (x1 : Int) (w : World) (Q : Value → World → Prop) : F44 x0 x1 w Q = vc prog an44 (Try.f44.body.getD .skip) (envOf [.pointer x0, .int .i64 x1]) w (retK prog Try.f44 Q) := by kernel_rfl
theorem ok44 : codeOk Try.f44.ntmps (Try.f44.body.getD .skip) = true := by kernel_rfl
theorem W44 {x0 : Option Addr} {x1 : Int} {w : World} {Q : Value → World → Prop} (h : F44 x0 x1 w Q) : Calls prog 44 #[.pointer x0, .int .i64 x1] w fun en w' => ∃ v, en = .returned v ∧ Q v w' :=
  calls_of_vc good follows an44 (args := [.pointer x0, .int .i64 x1]) Try.func44 (by kernel_rfl) ok44 (of_decide_eq_true (by kernel_rfl)) (Eq.mp (eq44 x0 x1 w Q) h)

/-- (*bastion/bastionref01.Reader).Flag -/
def F45 (x0 : Option Addr) (w : World) (Q : Value → World → Prop) : Prop :=
 ∃ J : Bool → World → Prop, (∃ p5, x0 = some p5 ∧
 ∃ t7 : Sl, Ld w (p5.add 0) (.slice t7.a t7.l t7.c) ∧
 IfB (((t7.l : Nat) : Int) == (0 : Int))
 (J true w)
 (∃ p12, x0 = some p12 ∧
 ∃ t14 : Sl, Ld w (p12.add 0) (.slice t14.a t14.l t14.c) ∧
 ∃ p15, t14.a = some p15 ∧ 0 ≤ (0 : Int) ∧ (0 : Int) < ((t14.l : Nat) : Int) ∧
 ∃ t16 : Int, Ld w (p15.add (0 * 1)) (.int .u8 t16) ∧
 J (decide (t16 > (1 : Int))) w)) ∧
 (∀ (u : Env) (x18 : Bool) (w1 : World), J x18 w1 →
 IfB x18
 (Calls prog 62 #[.pointer x0] w1 fun en w1_1 =>
 en = .returned (.tuple #[]) ∧
 Q (.bool false) w1_1)
 (∃ p22, x0 = some p22 ∧
 ∃ t24 : Sl, Ld w1 (p22.add 0) (.slice t24.a t24.l t24.c) ∧
 ∃ p25, t24.a = some p25 ∧ 0 ≤ (0 : Int) ∧ (0 : Int) < ((t24.l : Nat) : Int) ∧
 ∃ t26 : Int, Ld w1 (p25.add (0 * 1)) (.int .u8 t26) ∧
 ∃ p30, x0 = some p30 ∧
 ∃ t32 : Sl, Ld w1 (p30.add 0) (.slice t32.a t32.l t32.c) ∧
 (0 ≤ (1 : Int) ∧ (1 : Int) ≤ ((t32.l : Nat) : Int)) ∧
 ∃ p34, x0 = some p34 ∧
 Wr w1 (p34.add 0) ∧ ∀ w1_1, w1_1 = w1.setCell (p34.add 0) (.slice (slA t32.a 1 t32.c 1) (t32.l - 1) (t32.c - 1)) →
 Q (.bool (t26 == (1 : Int))) w1_1))
def an45 : Ann := { cut := fun i => bif Nat.beq i 2 then some [(18, .bool)] else none, loop := fun i => [] }
theorem eq45 (x0 : Option Addr) (w : World) (Q : Value → World → Prop) : F45 x0 w Q = vc prog an45 (Try.f45.body.getD .skip) (envOf [.pointer x0]) w (retK prog Try.f45 Q) := by kernel_rfl
theorem ok45 : codeOk Try.f45.ntmps (Try.f45.body.getD .skip) = true := by kernel_rfl
theorem W45 {x0 : Option Addr} {w : World} {Q : Value → World → Prop} (h : F45 x0 w Q) : Calls prog 45 #[.pointer x0] w fun en w' => ∃ v, en = .returned v ∧ Q v w' :=
  calls_of_vc good follows an45 (args := [.pointer x0]) Try.func45 (by kernel_rfl) ok45 (of_decide_eq_true (by kernel_rfl)) (Eq.mp (eq45 x0 w Q) h)

/-- (*bastion/code.spot).OK -/
def F46 (x0 : Option Addr) (w : World) (Q : Value → World → Prop) : Prop :=
 ∃ p4, x0 = some p4 ∧
 ∃ t6 : Int, Ld w.drew (p4.add 1) (.int .i64 t6) ∧
 ∃ p8, x0 = some p8 ∧
 ∃ t10 : ByteArray, Ld w.drew (p8.add 0) (.string t10) ∧
 Q (.bool (decide (t6 ≤ ((t10.size : Nat) : Int)))) w.drew
def an46 : Ann := { cut := fun i => none, loop := fun i => [] }
theorem eq46 (x0 : Option Addr) (w : World) (Q : Value → World → Prop) : F46 x0 w Q = vc prog an46 (Try.f46.body.getD .skip) (envOf [.pointer x0]) w (retK prog Try.f46 Q) := by kernel_rfl
theorem ok46 : codeOk Try.f46.ntmps (Try.f46.body.getD .skip) = true := by kernel_rfl
theorem W46 {x0 : Option Addr} {w : World} {Q : Value → World → Prop} (h : F46 x0 w Q) : Calls prog 46 #[.pointer x0] w fun en w' => ∃ v, en = .returned v ∧ Q v w' :=
  calls_of_vc good follows an46 (args := [.pointer x0]) Try.func46 (by kernel_rfl) ok46 (of_decide_eq_true (by kernel_rfl)) (Eq.mp (eq46 x0 w Q) h)

/-- (*bastion/code.spot).Left -/
def F47 (x0 : Option Addr) (w : World) (Q : Value → World → Prop) : Prop :=
 Calls prog 64 #[.pointer x0] w fun en w1 =>
 ∃ t4 : ByteArray, en = .returned (.string t4) ∧
 Q (.int .i64 ((t4.size : Nat) : Int)) w1
def an47 : Ann := { cut := fun i => none, loop := fun i => [] }
theorem eq47 (x0 : Option Addr) (w : World) (Q : Value → World → Prop) : F47 x0 w Q = vc prog an47 (Try.f47.body.getD .skip) (envOf [.pointer x0]) w (retK prog Try.f47 Q) := by kernel_rfl
theorem ok47 : codeOk Try.f47.ntmps (Try.f47.body.getD .skip) = true := by kernel_rfl
theorem W47 {x0 : Option Addr} {w : World} {Q : Value → World → Prop} (h : F47 x0 w Q) : Calls prog 47 #[.pointer x0] w fun en w' => ∃ v, en = .returned v ∧ Q v w' :=
  calls_of_vc good follows an47 (args := [.pointer x0]) Try.func47 (by kernel_rfl) ok47 (of_decide_eq_true (by kernel_rfl)) (Eq.mp (eq47 x0 w Q) h)

/-- (*bastion/code.spot).Done -/
def F48 (x0 : Option Addr) (w : World) (Q : Value → World → Prop) : Prop :=
 ∃ p4, x0 = some p4 ∧
 ∃ t6 : Int, Ld w.drew (p4.add 1) (.int .i64 t6) ∧
 ∃ p8, x0 = some p8 ∧
 ∃ t10 : ByteArray, Ld w.drew (p8.add 0) (.string t10) ∧
 Q (.bool (t6 == ((t10.size : Nat) : Int))) w.drew
def an48 : Ann := { cut := fun i => none, loop := fun i => [] }
theorem eq48 (x0 : Option Addr) (w : World) (Q : Value → World → Prop) : F48 x0 w Q = vc prog an48 (Try.f48.body.getD .skip) (envOf [.pointer x0]) w (retK prog Try.f48 Q) := by kernel_rfl
theorem ok48 : codeOk Try.f48.ntmps (Try.f48.body.getD .skip) = true := by kernel_rfl
theorem W48 {x0 : Option Addr} {w : World} {Q : Value → World → Prop} (h : F48 x0 w Q) : Calls prog 48 #[.pointer x0] w fun en w' => ∃ v, en = .returned v ∧ Q v w' :=
  calls_of_vc good follows an48 (args := [.pointer x0]) Try.func48 (by kernel_rfl) ok48 (of_decide_eq_true (by kernel_rfl)) (Eq.mp (eq48 x0 w Q) h)

/-- bastion/code.off[int64] -/
def F49 (x0 : Option Addr) (x1 : Value) (w : World) (Q : Value → World → Prop) : Prop :=
 Calls prog 18 #[.pointer x0] w fun en w1 =>
 ∃ t9 : Bool, en = .returned (.bool t9) ∧
 IfB (!t9)
 (Q (.int .i64 0) w1)
 (∃ p15, x0 = some p15 ∧
 Calls prog 64 #[.pointer (some (p15.add 0))] w1 fun en w1_1 =>
 ∃ t17 : ByteArray, en = .returned (.string t17) ∧
 CallV prog x1 #[.string t17] w1_1 fun v18 w1_2 =>
 ∃ t18a : Int, ∃ t18b : Int, v18 = (.tuple #[.int .i64 t18a, .int .i64 t18b]) ∧
 IfB (t18b == (0 : Int))
 (∃ p25, x0 = some p25 ∧
 ∃ t28 : ByteArray, Ld w1_2 ((p25.add 0).add 0) (.string t28) ∧
 ∃ p31, x0 = some p31 ∧
 Wr w1_2 ((p31.add 0).add 1) ∧ ∀ w1_3, w1_3 = w1_2.setCell ((p31.add 0).add 1) (.int .i64 (IntKind.wrap .i64 (((t28.size : Nat) : Int) + (1 : Int)))) →
 Q (.int .i64 0) w1_3)
 (∃ p36, x0 = some p36 ∧
 ∃ t39 : Int, Ld w1_2 ((p36.add 0).add 1) (.int .i64 t39) ∧
 ∃ p42, x0 = some p42 ∧
 Wr w1_2 ((p42.add 0).add 1) ∧ ∀ w1_3, w1_3 = w1_2.setCell ((p42.add 0).add 1) (.int .i64 (IntKind.wrap .i64 (t39 + t18b))) →
 Q (.int .i64 t18a) w1_3))
def an49 : Ann := { cut := fun i => none, loop := fun i => [] }
theorem eq49 (x0 : Option Addr) (x1 : Value) (w : World) (Q : Value → World → Prop) : F49 x0 x1 w Q = vc prog an49 (Try.f49.body.getD .skip) (envOf [.pointer x0, x1]) w (retK prog Try.f49 Q) := by kernel_rfl
theorem ok49 : codeOk Try.f49.ntmps (Try.f49.body.getD .skip) = true := by kernel_rfl
theorem W49 {x0 : Option Addr} {x1 : Value} {w : World} {Q : Value → World → Prop} (h : F49 x0 x1 w Q) : Calls prog 49 #[.pointer x0, x1] w fun en w' => ∃ v, en = .returned v ∧ Q v w' :=
  calls_of_vc good follows an49 (args := [.pointer x0, x1]) Try.func49 (by kernel_rfl) ok49 (of_decide_eq_true (by kernel_rfl)) (Eq.mp (eq49 x0 x1 w Q) h)

/-- (*bastion/code.Reader).Num$1 -/
def F50 (x0 : ByteArray) (w : World) (Q : Value → World → Prop) : Prop :=
 Calls prog 51 #[.string x0] w fun en w1 =>
 ∃ t8a : Int, ∃ t8b : Int, en = .returned (.tuple #[.int .u64 t8a, .int .i64 t8b]) ∧
 IfB (bitsI .and .u64 t8a (1 : Int) == (1 : Int))
 (0 ≤ (1 : Int) ∧
 Q (.tuple #[.int .i64 (IntKind.wrap .i64 (bitsI .xor .u64 (IntKind.max .u64) (Int.fdiv t8a (2 ^ (min 1 64))))), .int .i64 t8b]) w1)
 (0 ≤ (1 : Int) ∧
 Q (.tuple #[.int .i64 (IntKind.wrap .i64 (Int.fdiv t8a (2 ^ (min 1 64)))), .int .i64 t8b]) w1)
def an50 : Ann := { cut := fun i => none, loop := fun i => [] }
theorem eq50 (x0 : ByteArray) (w : World) (Q : Value → World → Prop) : F50 x0 w Q = vc prog an50 (Try.f50.body.getD .skip) (envOf [.string x0]) w (retK prog Try.f50 Q) := by kernel_rfl
theorem ok50 : codeOk Try.f50.ntmps (Try.f50.body.getD .skip) = true := by kernel_rfl
theorem W50 {x0 : ByteArray} {w : World} {Q : Value → World → Prop} (h : F50 x0 w Q) : Calls prog 50 #[.string x0] w fun en w' => ∃ v, en = .returned v ∧ Q v w' :=
  calls_of_vc good follows an50 (args := [.string x0]) Try.func50 (by kernel_rfl) ok50 (of_decide_eq_true (by kernel_rfl)) (Eq.mp (eq50 x0 w Q) h)

/-- bastion/code.number -/
def F51 (x0 : ByteArray) (w : World) (Q : Value → World → Prop) : Prop :=
 ∃ J : Int → World → Prop, (∃ (I : Nat → Int → World → Prop) (n0 : Nat), I n0 (0 : Int) w ∧
 ∀ (n : Nat) (u : Env) (x4 : Int) (w1 : World), I n x4 w1 →
 IfB (decide (x4 < (if (10 : Int) < ((x0.size : Nat) : Int) then (10 : Int) else ((x0.size : Nat) : Int))))
 (0 ≤ x4 ∧ x4 < ((x0.size : Nat) : Int) ∧
 IfB (decide (bt x0 x4 ≥ (128 : Int)))
 (∃ n', n' < n ∧ I n' (IntKind.wrap .i64 (x4 + (1 : Int))) w1)
 (J x4 w1))
 (J x4 w1)) ∧
 (∀ (u : Env) (x4 : Int) (w1 : World), J x4 w1 →
 ∃ J_1 : Bool → World → Prop, (IfB (decide (x4 ≥ ((x0.size : Nat) : Int)))
 (J_1 true w1)
 (IfB (x4 == (10 : Int))
 (J_1 true w1)
 (IfB (x4 == (9 : Int))
 (0 ≤ x4 ∧ x4 < ((x0.size : Nat) : Int) ∧
 J_1 (decide (bt x0 x4 > (1 : Int))) w1)
 (J_1 false w1)))) ∧
 (∀ (u_1 : Env) (x37 : Bool) (w1_1 : World), J_1 x37 w1_1 →
 IfB x37
 (Q (.tuple #[.int .u64 0, .int .i64 0]) w1_1)
 (∃ (I : Nat → Int → Int → World → Prop) (n0 : Nat), I n0 (0 : Int) x4 w1_1 ∧
 ∀ (n : Nat) (u_2 : Env) (x5 : Int) (x6 : Int) (w1_2 : World), I n x5 x6 w1_2 →
 IfB (decide (x6 ≥ (0 : Int)))
 (0 ≤ (7 : Int) ∧
 0 ≤ x6 ∧ x6 < ((x0.size : Nat) : Int) ∧
 ∃ n', n' < n ∧ I n' (bitsI .or .u64 (IntKind.wrap .u64 (x5 * 2 ^ (min 7 64))) (IntKind.wrap .u64 (bitsI .andNot .u8 (bt x0 x6) (128 : Int)))) (IntKind.wrap .i64 (x6 - (1 : Int))) w1_2)
 (Calls prog 65 #[.int .u64 x5] w1_2 fun en w1_3 =>
 ∃ t52 : Int, en = .returned (.int .i64 t52) ∧
 IfB (t52 != IntKind.wrap .i64 (x4 + (1 : Int)))
 (Q (.tuple #[.int .u64 0, .int .i64 0]) w1_3)
 (Q (.tuple #[.int .u64 x5, .int .i64 (IntKind.wrap .i64 (x4 + (1 : Int)))]) w1_3)))))
def an51 : Ann := { cut := fun i => bif Nat.beq i 4 then some [(4, .int .i64)] else bif Nat.beq i 5 then some [(37, .bool)] else none, loop := fun i => bif Nat.beq i 2 then [(4, .int .i64)] else bif Nat.beq i 8 then [(5, .int .u64), (6, .int .i64)] else [] }
theorem eq51 (x0 : ByteArray) (w : World) (Q : Value → World → Prop) : F51 x0 w Q = vc prog an51 (Try.f51.body.getD .skip) (envOf [.string x0]) w (retK prog Try.f51 Q) := by kernel_rfl
theorem ok51 : codeOk Try.f51.ntmps (Try.f51.body.getD .skip) = true := by kernel_rfl
theorem W51 {x0 : ByteArray} {w : World} {Q : Value → World → Prop} (h : F51 x0 w Q) : Calls prog 51 #[.string x0] w fun en w' => ∃ v, en = .returned v ∧ Q v w' :=
  calls_of_vc good follows an51 (args := [.string x0]) Try.func51 (by kernel_rfl) ok51 (of_decide_eq_true (by kernel_rfl)) (Eq.mp (eq51 x0 w Q) h)

/-- bastion/code.off[int] -/
def F52 (x0 : Option Addr) (x1 : Value) (w : World) (Q : Value → World → Prop) : Prop :=
 Calls prog 18 #[.pointer x0] w fun en w1 =>
 ∃ t9 : Bool, en = .returned (.bool t9) ∧
 IfB (!t9)
 (Q (.int .i64 0) w1)
 (∃ p15, x0 = some p15 ∧
 Calls prog 64 #[.pointer (some (p15.add 0))] w1 fun en w1_1 =>
 ∃ t17 : ByteArray, en = .returned (.string t17) ∧
 CallV prog x1 #[.string t17] w1_1 fun v18 w1_2 =>
 ∃ t18a : Int, ∃ t18b : Int, v18 = (.tuple #[.int .i64 t18a, .int .i64 t18b]) ∧
 IfB (t18b == (0 : Int))
 (∃ p25, x0 = some p25 ∧
 ∃ t28 : ByteArray, Ld w1_2 ((p25.add 0).add 0) (.string t28) ∧
 ∃ p31, x0 = some p31 ∧
 Wr w1_2 ((p31.add 0).add 1) ∧ ∀ w1_3, w1_3 = w1_2.setCell ((p31.add 0).add 1) (.int .i64 (IntKind.wrap .i64 (((t28.size : Nat) : Int) + (1 : Int)))) →
 Q (.int .i64 0) w1_3)
 (∃ p36, x0 = some p36 ∧
 ∃ t39 : Int, Ld w1_2 ((p36.add 0).add 1) (.int .i64 t39) ∧
 ∃ p42, x0 = some p42 ∧
 Wr w1_2 ((p42.add 0).add 1) ∧ ∀ w1_3, w1_3 = w1_2.setCell ((p42.add 0).add 1) (.int .i64 (IntKind.wrap .i64 (t39 + t18b))) →
 Q (.int .i64 t18a) w1_3))
def an52 : Ann := { cut := fun i => none, loop := fun i => [] }
theorem eq52 (x0 : Option Addr) (x1 : Value) (w : World) (Q : Value → World → Prop) : F52 x0 x1 w Q = vc prog an52 (Try.f52.body.getD .skip) (envOf [.pointer x0, x1]) w (retK prog Try.f52 Q) := by kernel_rfl
theorem ok52 : codeOk Try.f52.ntmps (Try.f52.body.getD .skip) = true := by kernel_rfl
theorem W52 {x0 : Option Addr} {x1 : Value} {w : World} {Q : Value → World → Prop} (h : F52 x0 x1 w Q) : Calls prog 52 #[.pointer x0, x1] w fun en w' => ∃ v, en = .returned v ∧ Q v w' :=
  calls_of_vc good follows an52 (args := [.pointer x0, x1]) Try.func52 (by kernel_rfl) ok52 (of_decide_eq_true (by kernel_rfl)) (Eq.mp (eq52 x0 x1 w Q) h)

/-- (*bastion/code.Reader).Count$1 -/
def F53 (x0 : ByteArray) (x1 : Addr) (w : World) (Q : Value → World → Prop) : Prop :=
 ∃ t6 : Int, Ld w x1 (.int .i64 t6) ∧
 Calls prog 54 #[.string x0, .int .i64 t6] w fun en w1 =>
 ∃ t7a : Int, ∃ t7b : Int, en = .returned (.tuple #[.int .i64 t7a, .int .i64 t7b]) ∧
 Q (.tuple #[.int .i64 t7a, .int .i64 t7b]) w1
def an53 : Ann := { cut := fun i => none, loop := fun i => [] }
theorem eq53 (x0 : ByteArray) (x1 : Addr) (w : World) (Q : Value → World → Prop) : F53 x0 x1 w Q = vc prog an53 (Try.f53.body.getD .skip) (envOf [.string x0, .pointer (some x1)]) w (retK prog Try.f53 Q) := by kernel_rfl
theorem ok53 : codeOk Try.f53.ntmps (Try.f53.body.getD .skip) = true := by kernel_rfl
theorem W53 {x0 : ByteArray} {x1 : Addr} {w : World} {Q : Value → World → Prop} (h : F53 x0 x1 w Q) : Calls prog 53 #[.string x0, .pointer (some x1)] w fun en w' => ∃ v, en = .returned v ∧ Q v w' :=
  calls_of_vc good follows an53 (args := [.string x0, .pointer (some x1)]) Try.func53 (by kernel_rfl) ok53 (of_decide_eq_true (by kernel_rfl)) (Eq.mp (eq53 x0 x1 w Q) h)

/-- bastion/code.within -/
def F54 (x0 : ByteArray) (x1 : Int) (w : World) (Q : Value → World → Prop) : Prop :=
 Calls prog 51 #[.string x0] w fun en w1 =>
 ∃ t10a : Int, ∃ t10b : Int, en = .returned (.tuple #[.int .u64 t10a, .int .i64 t10b]) ∧
 IfB (decide (t10a > (2147483647 : Int)))
 (Q (.tuple #[.int .i64 0, .int .i64 0]) w1)
 (IfB (decide (IntKind.wrap .i64 t10a > x1))
 (Q (.tuple #[.int .i64 0, .int .i64 0]) w1)
 (Q (.tuple #[.int .i64 (IntKind.wrap .i64 t10a), .int .i64 t10b]) w1))
def an54 : Ann := { cut := fun i => none, loop := fun i => [] }
theorem eq54 (x0 : ByteArray) (x1 : Int) (w : World) (Q : Value → World → Prop) : F54 x0 x1 w Q = vc prog an54 (Try.f54.body.getD .skip) (envOf [.string x0, .int .i64 x1]) w (retK prog Try.f54 Q) := by kernel_rfl
theorem ok54 : codeOk Try.f54.ntmps (Try.f54.body.getD .skip) = true := by kernel_rfl
theorem W54 {x0 : ByteArray} {x1 : Int} {w : World} {Q : Value → World → Prop} (h : F54 x0 x1 w Q) : Calls prog 54 #[.string x0, .int .i64 x1] w fun en w' => ∃ v, en = .returned v ∧ Q v w' :=
  calls_of_vc good follows an54 (args := [.string x0, .int .i64 x1]) Try.func54 (by kernel_rfl) ok54 (of_decide_eq_true (by kernel_rfl)) (Eq.mp (eq54 x0 x1 w Q) h)

/-- bastion/code.off[string] -/
def F55 (x0 : Option Addr) (x1 : Value) (w : World) (Q : Value → World → Prop) : Prop :=
 Calls prog 18 #[.pointer x0] w fun en w1 =>
 ∃ t9 : Bool, en = .returned (.bool t9) ∧
 IfB (!t9)
 (Q (.string (⟨#[]⟩ : ByteArray)) w1)
 (∃ p15, x0 = some p15 ∧
 Calls prog 64 #[.pointer (some (p15.add 0))] w1 fun en w1_1 =>
 ∃ t17 : ByteArray, en = .returned (.string t17) ∧
 CallV prog x1 #[.string t17] w1_1 fun v18 w1_2 =>
 ∃ t18a : ByteArray, ∃ t18b : Int, v18 = (.tuple #[.string t18a, .int .i64 t18b]) ∧
 IfB (t18b == (0 : Int))
 (∃ p25, x0 = some p25 ∧
 ∃ t28 : ByteArray, Ld w1_2 ((p25.add 0).add 0) (.string t28) ∧
 ∃ p31, x0 = some p31 ∧
 Wr w1_2 ((p31.add 0).add 1) ∧ ∀ w1_3, w1_3 = w1_2.setCell ((p31.add 0).add 1) (.int .i64 (IntKind.wrap .i64 (((t28.size : Nat) : Int) + (1 : Int)))) →
 Q (.string (⟨#[]⟩ : ByteArray)) w1_3)
 (∃ p36, x0 = some p36 ∧
 ∃ t39 : Int, Ld w1_2 ((p36.add 0).add 1) (.int .i64 t39) ∧
 ∃ p42, x0 = some p42 ∧
 Wr w1_2 ((p42.add 0).add 1) ∧ ∀ w1_3, w1_3 = w1_2.setCell ((p42.add 0).add 1) (.int .i64 (IntKind.wrap .i64 (t39 + t18b))) →
 Q (.string t18a) w1_3))
def an55 : Ann := { cut := fun i => none, loop := fun i => [] }
theorem eq55 (x0 : Option Addr) (x1 : Value) (w : World) (Q : Value → World → Prop) : F55 x0 x1 w Q = vc prog an55 (Try.f55.body.getD .skip) (envOf [.pointer x0, x1]) w (retK prog Try.f55 Q) := by kernel_rfl
theorem ok55 : codeOk Try.f55.ntmps (Try.f55.body.getD .skip) = true := by kernel_rfl
theorem W55 {x0 : Option Addr} {x1 : Value} {w : World} {Q : Value → World → Prop} (h : F55 x0 x1 w Q) : Calls prog 55 #[.pointer x0, x1] w fun en w' => ∃ v, en = .returned v ∧ Q v w' :=
  calls_of_vc good follows an55 (args := [.pointer x0, x1]) Try.func55 (by kernel_rfl) ok55 (of_decide_eq_true (by kernel_rfl)) (Eq.mp (eq55 x0 x1 w Q) h)

/-- (*bastion/code.Reader).Str$1 -/
def F56 (x0 : ByteArray) (x1 : Addr) (w : World) (Q : Value → World → Prop) : Prop :=
 ∃ t9 : Int, Ld w x1 (.int .i64 t9) ∧
 Calls prog 54 #[.string x0, .int .i64 t9] w fun en w1 =>
 ∃ t10a : Int, ∃ t10b : Int, en = .returned (.tuple #[.int .i64 t10a, .int .i64 t10b]) ∧
 IfB (t10b == (0 : Int))
 (Q (.tuple #[.string (⟨#[]⟩ : ByteArray), .int .i64 0]) w1)
 (IfB (decide (t10a > IntKind.wrap .i64 (((x0.size : Nat) : Int) - t10b)))
 (Q (.tuple #[.string (⟨#[]⟩ : ByteArray), .int .i64 0]) w1)
 ((0 ≤ IntKind.wrap .i64 (t10b + t10a) ∧ IntKind.wrap .i64 (t10b + t10a) ≤ ((x0.size : Nat) : Int)) ∧
 (0 ≤ t10b ∧ t10b ≤ (((IntKind.wrap .i64 (t10b + t10a)).toNat : Nat) : Int)) ∧
 Q (.tuple #[.string (x0.extract ((t10b).toNat) ((IntKind.wrap .i64 (t10b + t10a)).toNat)), .int .i64 (IntKind.wrap .i64 (t10b + t10a))]) w1))
def an56 : Ann := { cut := fun i => none, loop := fun i => [] }
theorem eq56 (x0 : ByteArray) (x1 : Addr) (w : World) (Q : Value → World → Prop) : F56 x0 x1 w Q = vc prog an56 (Try.f56.body.getD .skip) (envOf [.string x0, .pointer (some x1)]) w (retK prog Try.f56 Q) := by kernel_rfl
theorem ok56 : codeOk Try.f56.ntmps (Try.f56.body.getD .skip) = true := by kernel_rfl
theorem W56 {x0 : ByteArray} {x1 : Addr} {w : World} {Q : Value → World → Prop} (h : F56 x0 x1 w Q) : Calls prog 56 #[.string x0, .pointer (some x1)] w fun en w' => ∃ v, en = .returned v ∧ Q v w' :=
  calls_of_vc good follows an56 (args := [.string x0, .pointer (some x1)]) Try.func56 (by kernel_rfl) ok56 (of_decide_eq_true (by kernel_rfl)) (Eq.mp (eq56 x0 x1 w Q) h)

/-- bastion/code.lay -/
def F57 (x0 : Sl) (x1 : Int) (x2 : ByteArray) (w : World) (Q : Value → World → Prop) : Prop :=
 Calls prog 65 #[.int .u64 x1] w fun en w1 =>
 ∃ t12 : Int, en = .returned (.int .i64 t12) ∧
 RunT prog .slice (Instr.makeSlice 22 (.int .i64 0) (.int .i64 (IntKind.wrap .i64 ((IntKind.wrap .i64 (((x0.l : Nat) : Int) + t12)) + ((x2.size : Nat) : Int))))) w1 fun (t20 : Sl) w1_1 =>
 RunT prog .slice (Builtin.append_ #[22, 22] 22 #[.slice t20.a t20.l t20.c, .slice x0.a x0.l x0.c]) w1_1 fun (t23 : Sl) w1_2 =>
 ∃ (I : Nat → Sl → Int → World → Prop) (n0 : Nat), I n0 t23 (0 : Int) w1_2 ∧
 ∀ (n : Nat) (u : Env) (x8 : Sl) (x25 : Int) (w1_3 : World), I n x8 x25 w1_3 →
 IfB (decide (x25 < t12))
 (0 ≤ IntKind.wrap .i64 ((7 : Int) * x25) ∧
 IfB (x25 == IntKind.wrap .i64 (t12 - (1 : Int)))
 (RunT prog .slice (Instr.buildSlice 22 1 #[(0, .int .u8 (bitsI .andNot .u8 (bitsI .or .u8 (IntKind.wrap .u8 (Int.fdiv x1 (2 ^ (min ((IntKind.wrap .i64 ((7 : Int) * x25)).toNat) 64)))) (128 : Int)) (128 : Int)))]) w1_3 fun (t42 : Sl) w1_4 =>
 RunT prog .slice (Builtin.append_ #[22, 22] 22 #[.slice x8.a x8.l x8.c, .slice t42.a t42.l t42.c]) w1_4 fun (t43 : Sl) w1_5 =>
 ∃ n', n' < n ∧ I n' t43 (IntKind.wrap .i64 (x25 + (1 : Int))) w1_5)
 (RunT prog .slice (Instr.buildSlice 22 1 #[(0, .int .u8 (bitsI .or .u8 (IntKind.wrap .u8 (Int.fdiv x1 (2 ^ (min ((IntKind.wrap .i64 ((7 : Int) * x25)).toNat) 64)))) (128 : Int)))]) w1_3 fun (t42 : Sl) w1_4 =>
 RunT prog .slice (Builtin.append_ #[22, 22] 22 #[.slice x8.a x8.l x8.c, .slice t42.a t42.l t42.c]) w1_4 fun (t43 : Sl) w1_5 =>
 ∃ n', n' < n ∧ I n' t43 (IntKind.wrap .i64 (x25 + (1 : Int))) w1_5))
 (RunT prog .slice (Builtin.append_ #[22, 9] 22 #[.slice x8.a x8.l x8.c, .string x2]) w1_3 fun (t47 : Sl) w1_4 =>
 Q (.slice t47.a t47.l t47.c) w1_4)
def an57 : Ann := { cut := fun i => none, loop := fun i => bif Nat.beq i 5 then [(8, .slice), (25, .int .i64)] else [] }
theorem eq57 (x0 : Sl) (x1 : Int) (x2 : ByteArray) (w : World) (Q : Value → World → Prop) : F57 x0 x1 x2 w Q = vc prog an57 (Try.f57.body.getD .skip) (envOf [.slice x0.a x0.l x0.c, .int .u64 x1, .string x2]) w (retK prog Try.f57 Q) := by kernel_rfl
theorem ok57 : codeOk Try.f57.ntmps (Try.f57.body.getD .skip) = true := by kernel_rfl
theorem W57 {x0 : Sl} {x1 : Int} {x2 : ByteArray} {w : World} {Q : Value → World → Prop} (h : F57 x0 x1 x2 w Q) : Calls prog 57 #[.slice x0.a x0.l x0.c, .int .u64 x1, .string x2] w fun en w' => ∃ v, en = .returned v ∧ Q v w' :=
  calls_of_vc good follows an57 (args := [.slice x0.a x0.l x0.c, .int .u64 x1, .string x2]) Try.func57 (by kernel_rfl) ok57 (of_decide_eq_true (by kernel_rfl)) (Eq.mp (eq57 x0 x1 x2 w Q) h)

/-- bastion/code.none -/
def F58 (x0 : Sl) (w : World) (Q : Value → World → Prop) : Prop :=
 RunT prog .slice (Instr.buildSlice 22 0 #[]) w fun (t3 : Sl) w1 =>
 RunT prog .slice (Builtin.append_ #[22, 22] 22 #[.slice t3.a t3.l t3.c, .slice x0.a x0.l x0.c]) w1 fun (t5 : Sl) w1_1 =>
 Q (.slice t5.a t5.l t5.c) w1_1
def an58 : Ann := { cut := fun i => none, loop := fun i => [] }
theorem eq58 (x0 : Sl) (w : World) (Q : Value → World → Prop) : F58 x0 w Q = vc prog an58 (Try.f58.body.getD .skip) (envOf [.slice x0.a x0.l x0.c]) w (retK prog Try.f58 Q) := by kernel_rfl
theorem ok58 : codeOk Try.f58.ntmps (Try.f58.body.getD .skip) = true := by kernel_rfl
theorem W58 {x0 : Sl} {w : World} {Q : Value → World → Prop} (h : F58 x0 w Q) : Calls prog 58 #[.slice x0.a x0.l x0.c] w fun en w' => ∃ v, en = .returned v ∧ Q v w' :=
  calls_of_vc good follows an58 (args := [.slice x0.a x0.l x0.c]) Try.func58 (by kernel_rfl) ok58 (of_decide_eq_true (by kernel_rfl)) (Eq.mp (eq58 x0 w Q) h)

/-- bastion/bastionref01.groups -/
def F59 (x0 : Int) (w : World) (Q : Value → World → Prop) : Prop :=
 IfB (decide (x0 < (128 : Int)))
 (RunT prog .slice (Instr.buildSlice 22 1 #[(0, .int .u8 (IntKind.wrap .u8 x0))]) w fun (t7 : Sl) w1 =>
 RunT prog .str (convert 22 9 (.slice t7.a t7.l t7.c)) w1 fun (t8 : ByteArray) w1_1 =>
 Q (.string t8) w1_1)
 ((128 : Int) ≠ 0 ∧
 (128 : Int) ≠ 0 ∧
 (RunT prog .slice (Instr.buildSlice 22 1 #[(0, .int .u8 (IntKind.wrap .u8 (IntKind.wrap .u64 ((128 : Int) + (Int.tmod x0 (128 : Int))))))]) w.drew fun (t13 : Sl) w1 =>
 (RunT prog .str (convert 22 9 (.slice t13.a t13.l t13.c)) w1 fun (t14 : ByteArray) w1_1 =>
 Calls prog 59 #[.int .u64 (IntKind.wrap .u64 (Int.tdiv x0 (128 : Int)))] w1_1 fun en w1_2 =>
 ∃ t17 : ByteArray, en = .returned (.string t17) ∧
 t14.size + t17.size ≤ 9223372036854775807 ∧
 Q (.string (t14 ++ t17)) w1_2) ∧
 (Calls prog 59 #[.int .u64 (IntKind.wrap .u64 (Int.tdiv x0 (128 : Int)))] w1 fun en w1_1 =>
 ∃ t17 : ByteArray, en = .returned (.string t17) ∧
 RunT prog .str (convert 22 9 (.slice t13.a t13.l t13.c)) w1_1 fun (t14 : ByteArray) w1_2 =>
 t14.size + t17.size ≤ 9223372036854775807 ∧
 Q (.string (t14 ++ t17)) w1_2)) ∧
 (Calls prog 59 #[.int .u64 (IntKind.wrap .u64 (Int.tdiv x0 (128 : Int)))] w.drew fun en w1 =>
 ∃ t17 : ByteArray, en = .returned (.string t17) ∧
 RunT prog .slice (Instr.buildSlice 22 1 #[(0, .int .u8 (IntKind.wrap .u8 (IntKind.wrap .u64 ((128 : Int) + (Int.tmod x0 (128 : Int))))))]) w1 fun (t13 : Sl) w1_1 =>
 RunT prog .str (convert 22 9 (.slice t13.a t13.l t13.c)) w1_1 fun (t14 : ByteArray) w1_2 =>
 t14.size + t17.size ≤ 9223372036854775807 ∧
 Q (.string (t14 ++ t17)) w1_2))
def an59 : Ann := { cut := fun i => none, loop := fun i => [] }
theorem eq59 (x0 : Int) (w : World) (Q : Value → World → Prop) : F59 x0 w Q = vc prog an59 (Try.f59.body.getD .skip) (envOf [.int .u64 x0]) w (retK prog Try.f59 Q) := by kernel_rfl
theorem ok59 : codeOk Try.f59.ntmps (Try.f59.body.getD .skip) = true := by kernel_rfl
theorem W59 {x0 : Int} {w : World} {Q : Value → World → Prop} (h : F59 x0 w Q) : Calls prog 59 #[.int .u64 x0] w fun en w' => ∃ v, en = .returned v ∧ Q v w' :=
  calls_of_vc good follows an59 (args := [.int .u64 x0]) Try.func59 (by kernel_rfl) ok59 (of_decide_eq_true (by kernel_rfl)) (Eq.mp (eq59 x0 w Q) h)

/-- bastion/bastionref01.twice -/
def F60 (x0 : Int) (w : World) (Q : Value → World → Prop) : Prop :=
 IfB (decide (x0 < (0 : Int)))
 (Q (.int .u64 (IntKind.wrap .u64 ((IntKind.wrap .u64 ((2 : Int) * (IntKind.wrap .u64 (IntKind.wrap .i64 (0 - IntKind.wrap .i64 (x0 + (1 : Int))))))) + (1 : Int)))) w)
 (Q (.int .u64 (IntKind.wrap .u64 ((2 : Int) * (IntKind.wrap .u64 x0)))) w)
def an60 : Ann := { cut := fun i => none, loop := fun i => [] }
theorem eq60 (x0 : Int) (w : World) (Q : Value → World → Prop) : F60 x0 w Q = vc prog an60 (Try.f60.body.getD .skip) (envOf [.int .i64 x0]) w (retK prog Try.f60 Q) := by kernel_rfl
theorem ok60 : codeOk Try.f60.ntmps (Try.f60.body.getD .skip) = true := by kernel_rfl
theorem W60 {x0 : Int} {w : World} {Q : Value → World → Prop} (h : F60 x0 w Q) : Calls prog 60 #[.int .i64 x0] w fun en w' => ∃ v, en = .returned v ∧ Q v w' :=
  calls_of_vc good follows an60 (args := [.int .i64 x0]) Try.func60 (by kernel_rfl) ok60 (of_decide_eq_true (by kernel_rfl)) (Eq.mp (eq60 x0 w Q) h)

/-- (*bastion/bastionref01.Reader).off -/
def F61 (x0 : Option Addr) (w : World) (Q : Value → World → Prop) : Prop :=
 ∃ (I : Nat → Int → World → Prop) (n0 : Nat), I n0 (1 : Int) w ∧
 ∀ (n : Nat) (u : Env) (x5 : Int) (w1 : World), I n x5 w1 →
 ∃ J : World → Prop, (IfB (decide (x5 ≤ (10 : Int)))
 (∃ p12, x0 = some p12 ∧
 ∃ t14 : Sl, Ld w1 (p12.add 0) (.slice t14.a t14.l t14.c) ∧
 IfB (decide (x5 ≤ ((t14.l : Nat) : Int)))
 (J  w1)
 (Q (.tuple #[.int .u64 0, .int .i64 0]) w1))
 (Q (.tuple #[.int .u64 0, .int .i64 0]) w1)) ∧
 (∀ (u_1 : Env) (w1_1 : World), J  w1_1 →
 ∃ (I_1 : Nat → Int → Int → World → Prop) (n0_1 : Nat), I_1 n0_1 (0 : Int) x5 w1_1 ∧
 ∀ (n_1 : Nat) (u_2 : Env) (x4 : Int) (x6 : Int) (w1_2 : World), I_1 n_1 x4 x6 w1_2 →
 IfB (decide (x6 > (0 : Int)))
 (∃ p28, x0 = some p28 ∧
 ∃ t30 : Sl, Ld w1_2 (p28.add 0) (.slice t30.a t30.l t30.c) ∧
 ∃ p33, t30.a = some p33 ∧ 0 ≤ IntKind.wrap .i64 (x6 - (1 : Int)) ∧ IntKind.wrap .i64 (x6 - (1 : Int)) < ((t30.l : Nat) : Int) ∧
 ∃ t34 : Int, Ld w1_2 (p33.add ((IntKind.wrap .i64 (x6 - (1 : Int))).toNat * 1)) (.int .u8 t34) ∧
 (128 : Int) ≠ 0 ∧
 ∃ n', n' < n_1 ∧ I_1 n' (IntKind.wrap .u64 ((IntKind.wrap .u64 ((128 : Int) * x4)) + (IntKind.wrap .u64 (Int.tmod t34 (128 : Int))))) (IntKind.wrap .i64 (x6 - (1 : Int))) w1_2)
 (∃ S : World → Prop, S w1_2.drew ∧
 ∃ p41, x0 = some p41 ∧
 ∃ t43 : Sl, (∀ w', S w' → Ld w' (p41.add 0) (.slice t43.a t43.l t43.c)) ∧
 (0 ≤ x5 ∧ x5 ≤ ((t43.c : Nat) : Int)) ∧
 (Calls prog 59 #[.int .u64 x4] w1_2.drew fun en w1_3 =>
 ∃ t39 : ByteArray, en = .returned (.string t39) ∧
 S w1_3 ∧
 RunT prog .str (convert 22 9 (.slice (slA t43.a 0 t43.c 1) ((x5).toNat - 0) (t43.c - 0))) w1_3 fun (t46 : ByteArray) w1_4 =>
 IfB (t39.toList == t46.toList)
 (Q (.tuple #[.int .u64 x4, .int .i64 x5]) w1_4)
 (∃ n', n' < n ∧ I n' (IntKind.wrap .i64 (x5 + (1 : Int))) w1_4)) ∧
 (RunT prog .str (convert 22 9 (.slice (slA t43.a 0 t43.c 1) ((x5).toNat - 0) (t43.c - 0))) w1_2.drew fun (t46 : ByteArray) w1_3 =>
 Calls prog 59 #[.int .u64 x4] w1_3 fun en w1_4 =>
 ∃ t39 : ByteArray, en = .returned (.string t39) ∧
 TrueW w1_4 ∧
 IfB (t39.toList == t46.toList)
 (Q (.tuple #[.int .u64 x4, .int .i64 x5]) w1_4)
 (∃ n', n' < n ∧ I n' (IntKind.wrap .i64 (x5 + (1 : Int))) w1_4))))
def an61 : Ann := { cut := fun i => bif Nat.beq i 5 then some [] else none, loop := fun i => bif Nat.beq i 3 then [(5, .int .i64)] else bif Nat.beq i 7 then [(4, .int .u64), (6, .int .i64)] else [] }
theorem eq61 (x0 : Option Addr) (w : World) (Q : Value → World → Prop) : F61 x0 w Q = vc prog an61 (Try.f61.body.getD .skip) (envOf [.pointer x0]) w (retK prog Try.f61 Q) := by kernel_rfl
theorem ok61 : codeOk Try.f61.ntmps (Try.f61.body.getD .skip) = true := by kernel_rfl
theorem W61 {x0 : Option Addr} {w : World} {Q : Value → World → Prop} (h : F61 x0 w Q) : Calls prog 61 #[.pointer x0] w fun en w' => ∃ v, en = .returned v ∧ Q v w' :=
  calls_of_vc good follows an61 (args := [.pointer x0]) Try.func61 (by kernel_rfl) ok61 (of_decide_eq_true (by kernel_rfl)) (Eq.mp (eq61 x0 w Q) h)

/-- (*bastion/bastionref01.Reader).fails -/
def F62 (x0 : Option Addr) (w : World) (Q : Value → World → Prop) : Prop :=
 ∃ p3, x0 = some p3 ∧
 Wr w (p3.add 1) ∧ ∀ w1, w1 = w.setCell (p3.add 1) (.bool true) →
 ∃ p6, x0 = some p6 ∧
 Wr w1 (p6.add 0) ∧ ∀ w1_1, w1_1 = w1.setCell (p6.add 0) (.slice none 0 0) →
 Q (.tuple #[]) w1_1
def an62 : Ann := { cut := fun i => none, loop := fun i => [] }
theorem eq62 (x0 : Option Addr) (w : World) (Q : Value → World → Prop) : F62 x0 w Q = vc prog an62 (Try.f62.body.getD .skip) (envOf [.pointer x0]) w (retK prog Try.f62 Q) := by kernel_rfl
theorem ok62 : codeOk Try.f62.ntmps (Try.f62.body.getD .skip) = true := by kernel_rfl
theorem W62 {x0 : Option Addr} {w : World} {Q : Value → World → Prop} (h : F62 x0 w Q) : Calls prog 62 #[.pointer x0] w fun en w' => ∃ v, en = .returned v ∧ Q v w' :=
  calls_of_vc good follows an62 (args := [.pointer x0]) Try.func62 (by kernel_rfl) ok62 (of_decide_eq_true (by kernel_rfl)) (Eq.mp (eq62 x0 w Q) h)

/-- (*bastion/bastionref01.Reader).count -/
def F63 (x0 : Option Addr) (x1 : Int) (w : World) (Q : Value → World → Prop) : Prop :=
 Calls prog 61 #[.pointer x0] w fun en w1 =>
 ∃ t10a : Int, ∃ t10b : Int, en = .returned (.tuple #[.int .u64 t10a, .int .i64 t10b]) ∧
 IfB (t10b == (0 : Int))
 (Q (.tuple #[.int .i64 0, .int .i64 0]) w1)
 (IfB (decide (t10a > (2147483647 : Int)))
 (Q (.tuple #[.int .i64 0, .int .i64 0]) w1)
 (IfB (decide (x1 < IntKind.wrap .i64 t10a))
 (Q (.tuple #[.int .i64 0, .int .i64 0]) w1)
 (Q (.tuple #[.int .i64 (IntKind.wrap .i64 t10a), .int .i64 t10b]) w1)))
def an63 : Ann := { cut := fun i => none, loop := fun i => [] }
theorem eq63 (x0 : Option Addr) (x1 : Int) (w : World) (Q : Value → World → Prop) : F63 x0 x1 w Q = vc prog an63 (Try.f63.body.getD .skip) (envOf [.pointer x0, .int .i64 x1]) w (retK prog Try.f63 Q) := by kernel_rfl
theorem ok63 : codeOk Try.f63.ntmps (Try.f63.body.getD .skip) = true := by kernel_rfl
theorem W63 {x0 : Option Addr} {x1 : Int} {w : World} {Q : Value → World → Prop} (h : F63 x0 x1 w Q) : Calls prog 63 #[.pointer x0, .int .i64 x1] w fun en w' => ∃ v, en = .returned v ∧ Q v w' :=
  calls_of_vc good follows an63 (args := [.pointer x0, .int .i64 x1]) Try.func63 (by kernel_rfl) ok63 (of_decide_eq_true (by kernel_rfl)) (Eq.mp (eq63 x0 x1 w Q) h)

/-- (*bastion/code.spot).rest -/
def F64 (x0 : Option Addr) (w : World) (Q : Value → World → Prop) : Prop :=
 ∃ p4, x0 = some p4 ∧
 ∃ t6 : ByteArray, Ld w.drew (p4.add 0) (.string t6) ∧
 ∃ p8, x0 = some p8 ∧
 ∃ t10 : Int, Ld w.drew (p8.add 1) (.int .i64 t10) ∧
 ∃ p12, x0 = some p12 ∧
 ∃ t14 : ByteArray, Ld w.drew (p12.add 0) (.string t14) ∧
 (0 ≤ (if ((t14.size : Nat) : Int) < t10 then ((t14.size : Nat) : Int) else t10) ∧ (if ((t14.size : Nat) : Int) < t10 then ((t14.size : Nat) : Int) else t10) ≤ ((t6.size : Nat) : Int)) ∧
 Q (.string (t6.extract (((if ((t14.size : Nat) : Int) < t10 then ((t14.size : Nat) : Int) else t10)).toNat) t6.size)) w.drew
def an64 : Ann := { cut := fun i => none, loop := fun i => [] }
theorem eq64 (x0 : Option Addr) (w : World) (Q : Value → World → Prop) : F64 x0 w Q = vc prog an64 (Try.f64.body.getD .skip) (envOf [.pointer x0]) w (retK prog Try.f64 Q) := by kernel_rfl
theorem ok64 : codeOk Try.f64.ntmps (Try.f64.body.getD .skip) = true := by kernel_rfl
theorem W64 {x0 : Option Addr} {w : World} {Q : Value → World → Prop} (h : F64 x0 w Q) : Calls prog 64 #[.pointer x0] w fun en w' => ∃ v, en = .returned v ∧ Q v w' :=
  calls_of_vc good follows an64 (args := [.pointer x0]) Try.func64 (by kernel_rfl) ok64 (of_decide_eq_true (by kernel_rfl)) (Eq.mp (eq64 x0 w Q) h)

/-- bastion/code.groups -/
def F65 (x0 : Int) (w : World) (Q : Value → World → Prop) : Prop :=
 Calls prog 66 #[.int .u64 x0] w fun en w1 =>
 ∃ t4 : Int, en = .returned (.int .i64 t4) ∧
 (7 : Int) ≠ 0 ∧
 Q (.int .i64 (if IntKind.wrap .i64 (Int.tdiv (IntKind.wrap .i64 ((IntKind.wrap .i64 (t4 + (7 : Int))) - (1 : Int))) (7 : Int)) > (1 : Int) then IntKind.wrap .i64 (Int.tdiv (IntKind.wrap .i64 ((IntKind.wrap .i64 (t4 + (7 : Int))) - (1 : Int))) (7 : Int)) else (1 : Int))) w1
def an65 : Ann := { cut := fun i => none, loop := fun i => [] }
theorem eq65 (x0 : Int) (w : World) (Q : Value → World → Prop) : F65 x0 w Q = vc prog an65 (Try.f65.body.getD .skip) (envOf [.int .u64 x0]) w (retK prog Try.f65 Q) := by kernel_rfl
theorem ok65 : codeOk Try.f65.ntmps (Try.f65.body.getD .skip) = true := by kernel_rfl
theorem W65 {x0 : Int} {w : World} {Q : Value → World → Prop} (h : F65 x0 w Q) : Calls prog 65 #[.int .u64 x0] w fun en w' => ∃ v, en = .returned v ∧ Q v w' :=
  calls_of_vc good follows an65 (args := [.int .u64 x0]) Try.func65 (by kernel_rfl) ok65 (of_decide_eq_true (by kernel_rfl)) (Eq.mp (eq65 x0 w Q) h)
end Go.Proofs.Ytmkennapbebbmaa

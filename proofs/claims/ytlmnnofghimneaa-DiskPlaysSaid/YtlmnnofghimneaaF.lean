/-  YtlmnnofghimneaaF: weakest preconditions of functions, by wip/gen/gen.py; each is held against the machine's code by the kernel. -/
import Derived.Test.YtlmnnofghimneaaV
import Derived.Test.YtlmnnofghimneaaProg
import Derived.Test.YtlmnnofghimneaaGood
import Derived.KernelRfl
set_option linter.unusedVariables false
set_option maxRecDepth 1000000
namespace Go.Proofs.Ytlmnnofghimneaa
open Go Go.Proofs.YtlmnnofghimneaaV

/-- bastion/bastionlaw03.DiskCut -/
def F3 (x0 : Sl) (x1 : Int) (w : World) (Q : Value → World → Prop) : Prop :=
 ∃ J : Bool → World → Prop, (Calls prog 7 #[] w fun en w1 =>
 ∃ t18 : Bool, en = .returned (.bool t18) ∧
 IfB (!t18)
 (J true w1)
 (J (decide (((x0.l : Nat) : Int) > (200 : Int))) w1)) ∧
 (∀ (u : Env) (x24 : Bool) (w1 : World), J x24 w1 →
 IfB x24
 (Calls prog 7 #[] w1 fun en w1_1 =>
 ∃ t25 : Bool, en = .returned (.bool t25) ∧
 Q (.bool t25) w1_1)
 (Calls prog 8 #[.int .i64 512] w1 fun en w1_1 =>
 ∃ t27a : Option Addr, ∃ t27b : Int, en = .returned (.tuple #[.pointer t27a, .int .i64 t27b]) ∧
 (210 : Int) ≠ 0 ∧
 ∃ J_1 : Bool → World → Prop, (IfB (t27b != (0 : Int))
 (J_1 true w1_1)
 (Calls prog 9 #[.pointer t27a, .int .i64 (IntKind.wrap .i64 (Int.tmod (IntKind.wrap .u64 x1) (210 : Int)))] w1_1 fun en w1_2 =>
 ∃ t39 : Int, en = .returned (.int .i64 t39) ∧
 J_1 (t39 != (0 : Int)) w1_2)) ∧
 (∀ (u_1 : Env) (x41 : Bool) (w1_2 : World), J_1 x41 w1_2 →
 IfB x41
 (Q (.bool false) w1_2)
 (RunT prog .slice (Instr.makeSlice 22 (.int .i64 512) (.int .i64 512)) w1_2 fun (t42 : Sl) w1_3 =>
 ∃ (I : Nat → Int → World → Prop) (n0 : Nat), I n0 (0 : Int) w1_3 ∧
 ∀ (n : Nat) (u_2 : Env) (x9 : Int) (w1_4 : World), I n x9 w1_4 →
 IfB (decide (x9 < ((x0.l : Nat) : Int)))
 (∃ p51, x0.a = some p51 ∧ 0 ≤ x9 ∧ x9 < ((x0.l : Nat) : Int) ∧
 ∃ t52 : Int, Ld w1_4 (p51.add ((x9).toNat * 1)) (.int .i64 t52) ∧
 (512 : Int) ≠ 0 ∧
 Calls prog 11 #[.int .u8 (IntKind.wrap .u8 (IntKind.wrap .i64 (x9 + (1 : Int))))] w1_4 fun en w1_5 =>
 ∃ t61 : Sl, en = .returned (.slice t61.a t61.l t61.c) ∧
 Calls prog 10 #[.pointer t27a, .int .i64 (IntKind.wrap .i64 (Int.tmod (IntKind.wrap .u64 t52) (512 : Int))), .slice t61.a t61.l t61.c] w1_5 fun en w1_6 =>
 ∃ t62 : Int, en = .returned (.int .i64 t62) ∧
 ∃ J_2 : Bool → World → Prop, (∃ b68 : Bool, BinIs prog .neq 4 (.tmp 64) (.tmp 67) (.bool (t62 == (0 : Int))) (.bool (decide (x9 < IntKind.wrap .i64 (Int.tmod (IntKind.wrap .u64 x1) (210 : Int))))) b68 ∧
 IfB b68
 (J_2 true w1_6)
 (IfB (t62 != (0 : Int))
 (J_2 (t62 != (20 : Int)) w1_6)
 (J_2 false w1_6))) ∧
 (∀ (u_3 : Env) (x76 : Bool) (w1_7 : World), J_2 x76 w1_7 →
 IfB x76
 (Q (.bool false) w1_7)
 (IfB (t62 == (0 : Int))
 (∃ p85, t42.a = some p85 ∧ 0 ≤ IntKind.wrap .i64 (Int.tmod (IntKind.wrap .u64 t52) (512 : Int)) ∧ IntKind.wrap .i64 (Int.tmod (IntKind.wrap .u64 t52) (512 : Int)) < ((t42.l : Nat) : Int) ∧
 Wr w1_7 (p85.add ((IntKind.wrap .i64 (Int.tmod (IntKind.wrap .u64 t52) (512 : Int))).toNat * 1)) ∧ ∀ w1_8, w1_8 = w1_7.setCell (p85.add ((IntKind.wrap .i64 (Int.tmod (IntKind.wrap .u64 t52) (512 : Int))).toNat * 1)) (.int .i64 (IntKind.wrap .i64 (IntKind.wrap .u8 (IntKind.wrap .i64 (x9 + (1 : Int)))))) →
 ∃ n', n' < n ∧ I n' (IntKind.wrap .i64 (x9 + (1 : Int))) w1_8)
 (∃ n', n' < n ∧ I n' (IntKind.wrap .i64 (x9 + (1 : Int))) w1_7))))
 (∃ J_2 : Option Addr → World → Prop, (Calls prog 12 #[.pointer t27a] w1_4 fun en w1_5 =>
 ∃ t88 : Bool, en = .returned (.bool t88) ∧
 IfB t88
 (Calls prog 13 #[.pointer t27a] w1_5 fun en w1_6 =>
 ∃ t91a : Option Addr, ∃ t91b : Int, en = .returned (.tuple #[.pointer t91a, .int .i64 t91b]) ∧
 IfB (t91b != (0 : Int))
 (Q (.bool false) w1_6)
 (J_2 t91a w1_6))
 (J_2 t27a w1_5)) ∧
 (∀ (u_3 : Env) (x12 : Option Addr) (w1_5 : World), J_2 x12 w1_5 →
 Calls prog 12 #[.pointer t27a] w1_5 fun en w1_6 =>
 ∃ t98 : Bool, en = .returned (.bool t98) ∧
 ∃ b103 : Bool, BinIs prog .neq 4 (.tmp 98) (.tmp 102) (.bool t98) (.bool (decide (((x0.l : Nat) : Int) > IntKind.wrap .i64 (Int.tmod (IntKind.wrap .u64 x1) (210 : Int))))) b103 ∧
 IfB b103
 (Q (.bool false) w1_6)
 (∃ (I_1 : Nat → Int → World → Prop) (n0_1 : Nat), I_1 n0_1 (0 : Int) w1_6 ∧
 ∀ (n_1 : Nat) (u_4 : Env) (x15 : Int) (w1_7 : World), I_1 n_1 x15 w1_7 →
 IfB (decide (x15 < (512 : Int)))
 (Calls prog 14 #[.pointer x12, .int .i64 x15] w1_7 fun en w1_8 =>
 ∃ t111a : Sl, ∃ t111b : Int, en = .returned (.tuple #[.slice t111a.a t111a.l t111a.c, .int .i64 t111b]) ∧
 ∃ S : World → Prop, S w1_8.drew ∧
 IfB (t111b != (0 : Int))
 ((Q (.bool false) w1_8.drew) ∧
 ((Q (.bool false) w1_8.drew) ∧
 (Q (.bool false) w1_8.drew)))
 (∃ p121, t42.a = some p121 ∧ 0 ≤ x15 ∧ x15 < ((t42.l : Nat) : Int) ∧
 ∃ t122 : Int, (∀ w', S w' → Ld w' (p121.add ((x15).toNat * 1)) (.int .i64 t122)) ∧
 (RunT prog .str (convert 31 9 (.slice t111a.a t111a.l t111a.c)) w1_8.drew fun (t118 : ByteArray) w1_9 =>
 S w1_9 ∧
 Calls prog 11 #[.int .u8 (IntKind.wrap .u8 t122)] w1_9 fun en w1_10 =>
 ∃ t124 : Sl, en = .returned (.slice t124.a t124.l t124.c) ∧
 RunT prog .str (convert 31 9 (.slice t124.a t124.l t124.c)) w1_10 fun (t125 : ByteArray) w1_11 =>
 IfB (!(t118.toList == t125.toList))
 (Q (.bool false) w1_11)
 (∃ n', n' < n_1 ∧ I_1 n' (IntKind.wrap .i64 (x15 + (1 : Int))) w1_11)) ∧
 (Calls prog 11 #[.int .u8 (IntKind.wrap .u8 t122)] w1_8.drew fun en w1_9 =>
 ∃ t124 : Sl, en = .returned (.slice t124.a t124.l t124.c) ∧
 (RunT prog .str (convert 31 9 (.slice t111a.a t111a.l t111a.c)) w1_9 fun (t118 : ByteArray) w1_10 =>
 TrueW w1_10 ∧
 RunT prog .str (convert 31 9 (.slice t124.a t124.l t124.c)) w1_10 fun (t125 : ByteArray) w1_11 =>
 IfB (!(t118.toList == t125.toList))
 (Q (.bool false) w1_11)
 (∃ n', n' < n_1 ∧ I_1 n' (IntKind.wrap .i64 (x15 + (1 : Int))) w1_11)) ∧
 (RunT prog .str (convert 31 9 (.slice t124.a t124.l t124.c)) w1_9 fun (t125 : ByteArray) w1_10 =>
 RunT prog .str (convert 31 9 (.slice t111a.a t111a.l t111a.c)) w1_10 fun (t118 : ByteArray) w1_11 =>
 TrueW w1_11 ∧
 IfB (!(t118.toList == t125.toList))
 (Q (.bool false) w1_11)
 (∃ n', n' < n_1 ∧ I_1 n' (IntKind.wrap .i64 (x15 + (1 : Int))) w1_11)))))
 (Q (.bool true) w1_7))))))))
def an3 : Ann := { cut := fun i => bif Nat.beq i 2 then some [(24, .bool)] else bif Nat.beq i 6 then some [(41, .bool)] else bif Nat.beq i 14 then some [(76, .bool)] else bif Nat.beq i 23 then some [(12, .ptr)] else none, loop := fun i => bif Nat.beq i 9 then [(9, .int .i64)] else bif Nat.beq i 26 then [(15, .int .i64)] else [] }
theorem eq3 (x0 : Sl) (x1 : Int) (w : World) (Q : Value → World → Prop) : F3 x0 x1 w Q = vc prog an3 (Try.f3.body.getD .skip) (envOf [.slice x0.a x0.l x0.c, .int .i64 x1]) w (retK prog Try.f3 Q) := by kernel_rfl
theorem ok3 : codeOk Try.f3.ntmps (Try.f3.body.getD .skip) = true := by kernel_rfl
theorem W3 {x0 : Sl} {x1 : Int} {w : World} {Q : Value → World → Prop} (h : F3 x0 x1 w Q) : Calls prog 3 #[.slice x0.a x0.l x0.c, .int .i64 x1] w fun en w' => ∃ v, en = .returned v ∧ Q v w' :=
  calls_of_vc good follows an3 (args := [.slice x0.a x0.l x0.c, .int .i64 x1]) Try.func3 (by kernel_rfl) ok3 (of_decide_eq_true (by kernel_rfl)) (Eq.mp (eq3 x0 x1 w Q) h)

/-- bastion/bastionlaw03.DiskApart -/
def F4 (x0 : Sl) (x1 : Sl) (w : World) (Q : Value → World → Prop) : Prop :=
 ∃ J : Bool → World → Prop, (Calls prog 7 #[] w fun en w1 =>
 ∃ t17 : Bool, en = .returned (.bool t17) ∧
 IfB (!t17)
 (J true w1)
 (J (decide (IntKind.wrap .i64 (((x0.l : Nat) : Int) + ((x1.l : Nat) : Int)) > (200 : Int))) w1)) ∧
 (∀ (u : Env) (x26 : Bool) (w1 : World), J x26 w1 →
 IfB x26
 (Calls prog 7 #[] w1 fun en w1_1 =>
 ∃ t27 : Bool, en = .returned (.bool t27) ∧
 Q (.bool t27) w1_1)
 (Calls prog 8 #[.int .i64 512] w1 fun en w1_1 =>
 ∃ t29a : Option Addr, ∃ t29b : Int, en = .returned (.tuple #[.pointer t29a, .int .i64 t29b]) ∧
 IfB (t29b != (0 : Int))
 (Q (.bool false) w1_1)
 (∃ (I : Nat → Int → World → Prop) (n0 : Nat), I n0 (0 : Int) w1_1 ∧
 ∀ (n : Nat) (u_1 : Env) (x7 : Int) (w1_2 : World), I n x7 w1_2 →
 IfB (decide (x7 < ((x0.l : Nat) : Int)))
 (∃ S : World → Prop, S w1_2.drew ∧
 ∃ p43, x0.a = some p43 ∧ 0 ≤ x7 ∧ x7 < ((x0.l : Nat) : Int) ∧
 ∃ t44 : Int, (∀ w', S w' → Ld w' (p43.add ((x7).toNat * 1)) (.int .i64 t44)) ∧
 (512 : Int) ≠ 0 ∧
 Calls prog 11 #[.int .u8 (IntKind.wrap .u8 (IntKind.wrap .i64 (x7 + (1 : Int))))] w1_2.drew fun en w1_3 =>
 ∃ t51 : Sl, en = .returned (.slice t51.a t51.l t51.c) ∧
 S w1_3 ∧
 Calls prog 10 #[.pointer t29a, .int .i64 (IntKind.wrap .i64 (Int.tmod (IntKind.wrap .u64 t44) (512 : Int))), .slice t51.a t51.l t51.c] w1_3 fun en w1_4 =>
 ∃ t52 : Int, en = .returned (.int .i64 t52) ∧
 IfB (t52 != (0 : Int))
 (Q (.bool false) w1_4)
 (∃ n', n' < n ∧ I n' (IntKind.wrap .i64 (x7 + (1 : Int))) w1_4))
 (∃ (I_1 : Nat → Sl → Int → World → Prop) (n0_1 : Nat), I_1 n0_1 (⟨none, 0, 0⟩ : Sl) (0 : Int) w1_2 ∧
 ∀ (n_1 : Nat) (u_2 : Env) (x8 : Sl) (x9 : Int) (w1_3 : World), I_1 n_1 x8 x9 w1_3 →
 IfB (decide (x9 < (512 : Int)))
 (Calls prog 14 #[.pointer t29a, .int .i64 x9] w1_3 fun en w1_4 =>
 ∃ t61a : Sl, ∃ t61b : Int, en = .returned (.tuple #[.slice t61a.a t61a.l t61a.c, .int .i64 t61b]) ∧
 RunT prog .str (convert 31 9 (.slice t61a.a t61a.l t61a.c)) w1_4 fun (t66 : ByteArray) w1_5 =>
 RunT prog .slice (Instr.buildSlice 37 1 #[(0, .string t66)]) w1_5 fun (t67 : Sl) w1_6 =>
 RunT prog .slice (Builtin.append_ #[37, 37] 37 #[.slice x8.a x8.l x8.c, .slice t67.a t67.l t67.c]) w1_6 fun (t68 : Sl) w1_7 =>
 ∃ n', n' < n_1 ∧ I_1 n' t68 (IntKind.wrap .i64 (x9 + (1 : Int))) w1_7)
 (Calls prog 15 #[.pointer t29a] w1_3 fun en w1_4 =>
 ∃ t70 : Option Addr, en = .returned (.pointer t70) ∧
 ∃ (I_2 : Nat → Int → World → Prop) (n0_2 : Nat), I_2 n0_2 (0 : Int) w1_4 ∧
 ∀ (n_2 : Nat) (u_3 : Env) (x13 : Int) (w1_5 : World), I_2 n_2 x13 w1_5 →
 IfB (decide (x13 < ((x1.l : Nat) : Int)))
 (∃ S : World → Prop, S w1_5.drew ∧
 ∃ p80, x1.a = some p80 ∧ 0 ≤ x13 ∧ x13 < ((x1.l : Nat) : Int) ∧
 ∃ t81 : Int, (∀ w', S w' → Ld w' (p80.add ((x13).toNat * 1)) (.int .i64 t81)) ∧
 (512 : Int) ≠ 0 ∧
 Calls prog 11 #[.int .u8 (IntKind.wrap .u8 (IntKind.wrap .i64 ((200 : Int) - x13)))] w1_5.drew fun en w1_6 =>
 ∃ t88 : Sl, en = .returned (.slice t88.a t88.l t88.c) ∧
 S w1_6 ∧
 Calls prog 10 #[.pointer t70, .int .i64 (IntKind.wrap .i64 (Int.tmod (IntKind.wrap .u64 t81) (512 : Int))), .slice t88.a t88.l t88.c] w1_6 fun en w1_7 =>
 ∃ t89 : Int, en = .returned (.int .i64 t89) ∧
 IfB (t89 != (0 : Int))
 (Q (.bool false) w1_7)
 (∃ n', n' < n_2 ∧ I_2 n' (IntKind.wrap .i64 (x13 + (1 : Int))) w1_7))
 (∃ J_1 : Bool → World → Prop, (Calls prog 9 #[.pointer t70, .int .i64 0] w1_5 fun en w1_6 =>
 ∃ t92 : Int, en = .returned (.int .i64 t92) ∧
 IfB (t92 != (0 : Int))
 (J_1 true w1_6)
 (Calls prog 11 #[.int .u8 1] w1_6 fun en w1_7 =>
 ∃ t96 : Sl, en = .returned (.slice t96.a t96.l t96.c) ∧
 Calls prog 10 #[.pointer t70, .int .i64 0, .slice t96.a t96.l t96.c] w1_7 fun en w1_8 =>
 ∃ t97 : Int, en = .returned (.int .i64 t97) ∧
 IfB (t97 != (20 : Int))
 (J_1 true w1_8)
 (Calls prog 12 #[.pointer t29a] w1_8 fun en w1_9 =>
 ∃ t102 : Bool, en = .returned (.bool t102) ∧
 IfB t102
 (J_1 true w1_9)
 (Calls prog 16 #[.pointer t29a] w1_9 fun en w1_10 =>
 ∃ t106 : Int, en = .returned (.int .i64 t106) ∧
 IfB (t106 != ((x0.l : Nat) : Int))
 (J_1 true w1_10)
 (Calls prog 16 #[.pointer t70] w1_10 fun en w1_11 =>
 ∃ t113 : Int, en = .returned (.int .i64 t113) ∧
 J_1 (t113 != IntKind.wrap .i64 (((x0.l : Nat) : Int) + ((x1.l : Nat) : Int))) w1_11))))) ∧
 (∀ (u_4 : Env) (x120 : Bool) (w1_6 : World), J_1 x120 w1_6 →
 IfB x120
 (Q (.bool false) w1_6)
 (∃ (I_3 : Nat → Int → World → Prop) (n0_3 : Nat), I_3 n0_3 (0 : Int) w1_6 ∧
 ∀ (n_3 : Nat) (u_5 : Env) (x14 : Int) (w1_7 : World), I_3 n_3 x14 w1_7 →
 IfB (decide (x14 < (512 : Int)))
 (Calls prog 14 #[.pointer t29a, .int .i64 x14] w1_7 fun en w1_8 =>
 ∃ t128a : Sl, ∃ t128b : Int, en = .returned (.tuple #[.slice t128a.a t128a.l t128a.c, .int .i64 t128b]) ∧
 ∃ S : World → Prop, S w1_8.drew ∧
 IfB (t128b != (0 : Int))
 (Q (.bool false) w1_8.drew)
 (∃ p138, x8.a = some p138 ∧ 0 ≤ x14 ∧ x14 < ((x8.l : Nat) : Int) ∧
 ∃ t139 : ByteArray, (∀ w', S w' → Ld w' (p138.add ((x14).toNat * 1)) (.string t139)) ∧
 RunT prog .str (convert 31 9 (.slice t128a.a t128a.l t128a.c)) w1_8.drew fun (t135 : ByteArray) w1_9 =>
 S w1_9 ∧
 IfB (!(t135.toList == t139.toList))
 (Q (.bool false) w1_9)
 (∃ n', n' < n_3 ∧ I_3 n' (IntKind.wrap .i64 (x14 + (1 : Int))) w1_9)))
 (Q (.bool true) w1_7)))))))))
def an4 : Ann := { cut := fun i => bif Nat.beq i 2 then some [(26, .bool)] else bif Nat.beq i 24 then some [(120, .bool)] else none, loop := fun i => bif Nat.beq i 7 then [(7, .int .i64)] else bif Nat.beq i 13 then [(8, .slice), (9, .int .i64)] else bif Nat.beq i 19 then [(13, .int .i64)] else bif Nat.beq i 26 then [(14, .int .i64)] else [] }
theorem eq4 (x0 : Sl) (x1 : Sl) (w : World) (Q : Value → World → Prop) : F4 x0 x1 w Q = vc prog an4 (Try.f4.body.getD .skip) (envOf [.slice x0.a x0.l x0.c, .slice x1.a x1.l x1.c]) w (retK prog Try.f4 Q) := by kernel_rfl
theorem ok4 : codeOk Try.f4.ntmps (Try.f4.body.getD .skip) = true := by kernel_rfl
theorem W4 {x0 : Sl} {x1 : Sl} {w : World} {Q : Value → World → Prop} (h : F4 x0 x1 w Q) : Calls prog 4 #[.slice x0.a x0.l x0.c, .slice x1.a x1.l x1.c] w fun en w' => ∃ v, en = .returned v ∧ Q v w' :=
  calls_of_vc good follows an4 (args := [.slice x0.a x0.l x0.c, .slice x1.a x1.l x1.c]) Try.func4 (by kernel_rfl) ok4 (of_decide_eq_true (by kernel_rfl)) (Eq.mp (eq4 x0 x1 w Q) h)

/-- bastion/bastionlaw03.DiskNames -/
def F5 (w : World) (Q : Value → World → Prop) : Prop :=
 Calls prog 7 #[] w fun en w1 =>
 ∃ t18 : Bool, en = .returned (.bool t18) ∧
 IfB (!t18)
 (Q (.bool false) w1)
 (Calls prog 8 #[.int .i64 511] w1 fun en w1_1 =>
 ∃ t33a : Option Addr, ∃ t33b : Int, en = .returned (.tuple #[.pointer t33a, .int .i64 t33b]) ∧
 Calls prog 8 #[.int .i64 32769] w1_1 fun en w1_2 =>
 ∃ t37a : Option Addr, ∃ t37b : Int, en = .returned (.tuple #[.pointer t37a, .int .i64 t37b]) ∧
 Calls prog 8 #[.int .i64 32768] w1_2 fun en w1_3 =>
 ∃ t41a : Option Addr, ∃ t41b : Int, en = .returned (.tuple #[.pointer t41a, .int .i64 t41b]) ∧
 Calls prog 13 #[.pointer t41a] w1_3 fun en w1_4 =>
 ∃ t46a : Option Addr, ∃ t46b : Int, en = .returned (.tuple #[.pointer t46a, .int .i64 t46b]) ∧
 Calls prog 14 #[.pointer t41a, .int .i64 32768] w1_4 fun en w1_5 =>
 ∃ t51a : Sl, ∃ t51b : Int, en = .returned (.tuple #[.slice t51a.a t51a.l t51a.c, .int .i64 t51b]) ∧
 Calls prog 14 #[.pointer t41a, .int .i64 (-1)] w1_5 fun en w1_6 =>
 ∃ t56a : Sl, ∃ t56b : Int, en = .returned (.tuple #[.slice t56a.a t56a.l t56a.c, .int .i64 t56b]) ∧
 ∃ J : Bool → World → Prop, (IfB (t33b != (1 : Int))
 (J true w1_6)
 (IfB (t37b != (1 : Int))
 (J true w1_6)
 (IfB (t41b != (0 : Int))
 (J true w1_6)
 (Calls prog 17 #[.pointer t41a] w1_6 fun en w1_7 =>
 ∃ t71 : Int, en = .returned (.int .i64 t71) ∧
 IfB (t71 != (32768 : Int))
 (J true w1_7)
 (IfB (t46b != (50 : Int))
 (J true w1_7)
 (IfB (t51b != (1 : Int))
 (J true w1_7)
 (IfB (t56b != (1 : Int))
 (J true w1_7)
 (Calls prog 11 #[.int .u8 1] w1_7 fun en w1_8 =>
 ∃ t88 : Sl, en = .returned (.slice t88.a t88.l t88.c) ∧
 Calls prog 10 #[.pointer t41a, .int .i64 32768, .slice t88.a t88.l t88.c] w1_8 fun en w1_9 =>
 ∃ t89 : Int, en = .returned (.int .i64 t89) ∧
 IfB (t89 != (1 : Int))
 (J true w1_9)
 (Calls prog 11 #[.int .u8 1] w1_9 fun en w1_10 =>
 ∃ t94 : Sl, en = .returned (.slice t94.a t94.l t94.c) ∧
 (0 ≤ (1 : Int) ∧ (1 : Int) ≤ ((t94.l : Nat) : Int)) ∧
 Calls prog 10 #[.pointer t41a, .int .i64 0, .slice (slA t94.a 1 t94.c 1) (t94.l - 1) (t94.c - 1)] w1_10 fun en w1_11 =>
 ∃ t96 : Int, en = .returned (.int .i64 t96) ∧
 IfB (t96 != (1 : Int))
 (J true w1_11)
 (Calls prog 11 #[.int .u8 1] w1_11 fun en w1_12 =>
 ∃ t101 : Sl, en = .returned (.slice t101.a t101.l t101.c) ∧
 RunT prog .slice (Instr.buildSlice 31 1 #[(0, .int .u8 1)]) w1_12 fun (t102 : Sl) w1_13 =>
 RunT prog .slice (Builtin.append_ #[31, 31] 31 #[.slice t101.a t101.l t101.c, .slice t102.a t102.l t102.c]) w1_13 fun (t103 : Sl) w1_14 =>
 Calls prog 10 #[.pointer t41a, .int .i64 0, .slice t103.a t103.l t103.c] w1_14 fun en w1_15 =>
 ∃ t104 : Int, en = .returned (.int .i64 t104) ∧
 IfB (t104 != (1 : Int))
 (J true w1_15)
 (Calls prog 9 #[.pointer t41a, .int .i64 (-1)] w1_15 fun en w1_16 =>
 ∃ t109 : Int, en = .returned (.int .i64 t109) ∧
 IfB (t109 != (1 : Int))
 (J true w1_16)
 (Calls prog 9 #[.pointer t41a, .int .i64 0] w1_16 fun en w1_17 =>
 ∃ t114 : Int, en = .returned (.int .i64 t114) ∧
 IfB (t114 != (0 : Int))
 (J true w1_17)
 (Calls prog 10 #[.pointer t41a, .int .i64 9, .slice none 0 0] w1_17 fun en w1_18 =>
 ∃ t119 : Int, en = .returned (.int .i64 t119) ∧
 IfB (t119 != (1 : Int))
 (J true w1_18)
 (Calls prog 12 #[.pointer t41a] w1_18 fun en w1_19 =>
 ∃ t124 : Bool, en = .returned (.bool t124) ∧
 IfB t124
 (J true w1_19)
 (Calls prog 11 #[.int .u8 1] w1_19 fun en w1_20 =>
 ∃ t128 : Sl, en = .returned (.slice t128.a t128.l t128.c) ∧
 Calls prog 10 #[.pointer t41a, .int .i64 0, .slice t128.a t128.l t128.c] w1_20 fun en w1_21 =>
 ∃ t129 : Int, en = .returned (.int .i64 t129) ∧
 IfB (t129 != (20 : Int))
 (J true w1_21)
 (Calls prog 9 #[.pointer t41a, .int .i64 1] w1_21 fun en w1_22 =>
 ∃ t134 : Int, en = .returned (.int .i64 t134) ∧
 J (t134 != (20 : Int)) w1_22)))))))))))))))) ∧
 (∀ (u : Env) (x136 : Bool) (w1_7 : World), J x136 w1_7 →
 IfB x136
 (Q (.bool false) w1_7)
 (Calls prog 14 #[.pointer none, .int .i64 0] w1_7 fun en w1_8 =>
 ∃ t139a : Sl, ∃ t139b : Int, en = .returned (.tuple #[.slice t139a.a t139a.l t139a.c, .int .i64 t139b]) ∧
 Calls prog 13 #[.pointer none] w1_8 fun en w1_9 =>
 ∃ t144a : Option Addr, ∃ t144b : Int, en = .returned (.tuple #[.pointer t144a, .int .i64 t144b]) ∧
 Calls prog 17 #[.pointer none] w1_9 fun en w1_10 =>
 ∃ t148 : Int, en = .returned (.int .i64 t148) ∧
 Calls prog 16 #[.pointer none] w1_10 fun en w1_11 =>
 ∃ t150 : Int, en = .returned (.int .i64 t150) ∧
 IfB (IntKind.wrap .i64 (t148 + t150) == (0 : Int))
 (Calls prog 12 #[.pointer none] w1_11 fun en w1_12 =>
 ∃ t155 : Bool, en = .returned (.bool t155) ∧
 IfB (!t155)
 (IfB (t139b == (2 : Int))
 (IfB (t144b == (2 : Int))
 (Calls prog 11 #[.int .u8 1] w1_12 fun en w1_13 =>
 ∃ t168 : Sl, en = .returned (.slice t168.a t168.l t168.c) ∧
 Calls prog 10 #[.pointer none, .int .i64 0, .slice t168.a t168.l t168.c] w1_13 fun en w1_14 =>
 ∃ t169 : Int, en = .returned (.int .i64 t169) ∧
 IfB (t169 == (2 : Int))
 (Calls prog 9 #[.pointer none, .int .i64 1] w1_14 fun en w1_15 =>
 ∃ t174 : Int, en = .returned (.int .i64 t174) ∧
 IfB (t174 == (2 : Int))
 (Calls prog 15 #[.pointer none] w1_15 fun en w1_16 =>
 ∃ t179 : Option Addr, en = .returned (.pointer t179) ∧
 ∃ b180 : Bool, BinIs prog .eql 24 (.tmp 179) (.const (.pointer none)) (.pointer t179) (.pointer none) b180 ∧
 Q (.bool b180) w1_16)
 (Q (.bool false) w1_15))
 (Q (.bool false) w1_14))
 (Q (.bool false) w1_12))
 (Q (.bool false) w1_12))
 (Q (.bool false) w1_12))
 (Q (.bool false) w1_11))))
def an5 : Ann := { cut := fun i => bif Nat.beq i 10 then some [(136, .bool)] else none, loop := fun i => [] }
theorem eq5 (w : World) (Q : Value → World → Prop) : F5  w Q = vc prog an5 (Try.f5.body.getD .skip) (envOf []) w (retK prog Try.f5 Q) := by kernel_rfl
theorem ok5 : codeOk Try.f5.ntmps (Try.f5.body.getD .skip) = true := by kernel_rfl
theorem W5 {w : World} {Q : Value → World → Prop} (h : F5  w Q) : Calls prog 5 #[] w fun en w' => ∃ v, en = .returned v ∧ Q v w' :=
  calls_of_vc good follows an5 (args := []) Try.func5 (by kernel_rfl) ok5 (of_decide_eq_true (by kernel_rfl)) (Eq.mp (eq5  w Q) h)

/-- bastion/bastionlaw03.DiskPlays -/
def F6 (x0 : Int) (x1 : Sl) (w : World) (Q : Value → World → Prop) : Prop :=
 IfB (decide (((x1.l : Nat) : Int) > (80 : Int)))
 (Q (.bool true) w)
 (Calls prog 8 #[.int .i64 x0] w fun en w1 =>
 ∃ t33a : Option Addr, ∃ t33b : Int, en = .returned (.tuple #[.pointer t33a, .int .i64 t33b]) ∧
 Calls prog 18 #[.int .i64 x0] w1 fun en w1_1 =>
 ∃ t38a : Option Addr, ∃ t38b : Int, en = .returned (.tuple #[.pointer t38a, .int .i64 t38b]) ∧
 ∃ J : Bool → World → Prop, (IfB (t33b != t38b)
 (J true w1_1)
 (J (t38b != (0 : Int)) w1_1)) ∧
 (∀ (u : Env) (x47 : Bool) (w1_2 : World), J x47 w1_2 →
 IfB x47
 (IfB (t33b == t38b)
 (∃ b53 : Bool, BinIs prog .eql 24 (.tmp 52) (.const (.pointer none)) (.pointer t33a) (.pointer none) b53 ∧
 Q (.bool b53) w1_2)
 (Q (.bool false) w1_2))
 (∃ (I : Nat → Option Addr → Option Addr → Int → World → Prop) (n0 : Nat), I n0 t33a t38a (0 : Int) w1_2 ∧
 ∀ (n : Nat) (u_1 : Env) (x5 : Option Addr) (x7 : Option Addr) (x9 : Int) (w1_3 : World), I n x5 x7 x9 w1_3 →
 IfB (decide (x9 < ((x1.l : Nat) : Int)))
 (∃ p63, x1.a = some p63 ∧ 0 ≤ x9 ∧ x9 < ((x1.l : Nat) : Int) ∧
 ∃ t64 : Array Value, LdA w1_3 (p63.add ((x9).toNat * 4)) 4 t64 ∧
 ∀ b10 w1_4, NewB w1_3 (.cells #[.int .i64 0, .int .i64 0, .string (⟨#[]⟩ : ByteArray), .bool false] 46) b10 w1_4 →
 t64.size = 4 ∧ (∀ u, u ∈ t64.toList → u.oneCell' = true) ∧ WrA w1_4 (⟨b10, 0, none⟩ : Addr) 4 ∧ ∀ w1_5, w1_5 = setAt w1_4 (⟨b10, 0, none⟩ : Addr) t64.toList 0 →
 ∃ J_1 : Option Addr → Option Addr → World → Prop, (∃ t66 : Int, Ld w1_5 ((⟨b10, 0, none⟩ : Addr).add 0) (.int .i64 t66) ∧
 IfB (t66 == (0 : Int))
 (∃ t69 : Array Value, LdA w1_5 (⟨b10, 0, none⟩ : Addr) 4 t69 ∧
 Calls prog 19 #[.agg t69] w1_5 fun en w1_6 =>
 ∃ t70 : Sl, en = .returned (.slice t70.a t70.l t70.c) ∧
 ∃ t73 : Int, Ld w1_6 ((⟨b10, 0, none⟩ : Addr).add 1) (.int .i64 t73) ∧
 Calls prog 20 #[.pointer x7, .int .i64 t73, .slice t70.a t70.l t70.c] w1_6 fun en w1_7 =>
 ∃ t75 : Int, en = .returned (.int .i64 t75) ∧
 ∃ t78 : Int, Ld w1_7 ((⟨b10, 0, none⟩ : Addr).add 1) (.int .i64 t78) ∧
 Calls prog 10 #[.pointer x5, .int .i64 t78, .slice t70.a t70.l t70.c] w1_7 fun en w1_8 =>
 ∃ t80 : Int, en = .returned (.int .i64 t80) ∧
 IfB (t80 != t75)
 (Q (.bool false) w1_8)
 (∃ (I_1 : Nat → Int → World → Prop) (n0_1 : Nat), I_1 n0_1 (0 : Int) w1_8 ∧
 ∀ (n_1 : Nat) (u_2 : Env) (x13 : Int) (w1_9 : World), I_1 n_1 x13 w1_9 →
 IfB (decide (x13 < ((t70.l : Nat) : Int)))
 (∃ p93, t70.a = some p93 ∧ 0 ≤ x13 ∧ x13 < ((t70.l : Nat) : Int) ∧
 ∃ t94 : Int, Ld w1_9 (p93.add ((x13).toNat * 1)) (.int .u8 t94) ∧
 ∃ p96, t70.a = some p96 ∧ 0 ≤ x13 ∧ x13 < ((t70.l : Nat) : Int) ∧
 Wr w1_9 (p96.add ((x13).toNat * 1)) ∧ ∀ w1_10, w1_10 = w1_9.setCell (p96.add ((x13).toNat * 1)) (.int .u8 (IntKind.wrap .u8 (t94 + (1 : Int)))) →
 ∃ n', n' < n_1 ∧ I_1 n' (IntKind.wrap .i64 (x13 + (1 : Int))) w1_10)
 (J_1 x5 x7 w1_9)))
 (IfB (t66 == (2 : Int))
 (∃ S : World → Prop, S w1_5.drew ∧
 ∃ t101 : Int, (∀ w', S w' → Ld w' ((⟨b10, 0, none⟩ : Addr).add 1) (.int .i64 t101)) ∧
 ∃ t105 : Int, (∀ w', S w' → Ld w' ((⟨b10, 0, none⟩ : Addr).add 1) (.int .i64 t105)) ∧
 Calls prog 9 #[.pointer x5, .int .i64 t101] w1_5.drew fun en w1_6 =>
 ∃ t102 : Int, en = .returned (.int .i64 t102) ∧
 S w1_6 ∧
 Calls prog 21 #[.pointer x7, .int .i64 t105] w1_6 fun en w1_7 =>
 ∃ t106 : Int, en = .returned (.int .i64 t106) ∧
 IfB (t102 != t106)
 (Q (.bool false) w1_7)
 (J_1 x5 x7 w1_7))
 (IfB (t66 == (3 : Int))
 (Calls prog 13 #[.pointer x5] w1_5 fun en w1_6 =>
 ∃ t112a : Option Addr, ∃ t112b : Int, en = .returned (.tuple #[.pointer t112a, .int .i64 t112b]) ∧
 Calls prog 22 #[.pointer x7] w1_6 fun en w1_7 =>
 ∃ t117a : Option Addr, ∃ t117b : Int, en = .returned (.tuple #[.pointer t117a, .int .i64 t117b]) ∧
 ∃ J_2 : Bool → World → Prop, (IfB (t112b != t117b)
 (J_2 true w1_7)
 (∃ b125 : Bool, BinIs prog .eql 24 (.tmp 124) (.const (.pointer none)) (.pointer t112a) (.pointer none) b125 ∧
 ∃ b128 : Bool, BinIs prog .neq 4 (.tmp 125) (.tmp 127) (.bool b125) (.bool (t117b != (0 : Int))) b128 ∧
 J_2 b128 w1_7)) ∧
 (∀ (u_2 : Env) (x129 : Bool) (w1_8 : World), J_2 x129 w1_8 →
 IfB x129
 (Q (.bool false) w1_8)
 (IfB (t117b == (0 : Int))
 (Calls prog 14 #[.pointer x5, .int .i64 0] w1_8 fun en w1_9 =>
 ∃ t134a : Sl, ∃ t134b : Int, en = .returned (.tuple #[.slice t134a.a t134a.l t134a.c, .int .i64 t134b]) ∧
 IfB (t134b != (20 : Int))
 (Q (.bool false) w1_9)
 (J_1 t112a t117a w1_9))
 (J_1 x5 x7 w1_8))))
 (IfB (t66 == (4 : Int))
 (Calls prog 15 #[.pointer x5] w1_5 fun en w1_6 =>
 ∃ t144 : Option Addr, en = .returned (.pointer t144) ∧
 RunT prog .slice (Instr.makeSlice 31 (.int .i64 256) (.int .i64 256)) w1_6 fun (t146 : Sl) w1_7 =>
 Calls prog 10 #[.pointer x5, .int .i64 0, .slice t146.a t146.l t146.c] w1_7 fun en w1_8 =>
 ∃ t147 : Int, en = .returned (.int .i64 t147) ∧
 Calls prog 9 #[.pointer x5, .int .i64 0] w1_8 fun en w1_9 =>
 ∃ t149 : Int, en = .returned (.int .i64 t149) ∧
 RunT prog .slice (Instr.makeSlice 31 (.int .i64 256) (.int .i64 256)) w1_9 fun (t151 : Sl) w1_10 =>
 Calls prog 10 #[.pointer x5, .int .i64 1, .slice t151.a t151.l t151.c] w1_10 fun en w1_11 =>
 ∃ t152 : Int, en = .returned (.int .i64 t152) ∧
 Calls prog 23 #[.pointer x7] w1_11 fun en w1_12 =>
 ∃ t155 : Option Addr, en = .returned (.pointer t155) ∧
 J_1 t144 t155 w1_12)
 (J_1 x5 x7 w1_5))))) ∧
 (∀ (u_2 : Env) (x5_1 : Option Addr) (x7_1 : Option Addr) (w1_6 : World), J_1 x5_1 x7_1 w1_6 →
 ∃ t159 : Int, Ld w1_6 ((⟨b10, 0, none⟩ : Addr).add 1) (.int .i64 t159) ∧
 Calls prog 14 #[.pointer x5_1, .int .i64 t159] w1_6 fun en w1_7 =>
 ∃ t160a : Sl, ∃ t160b : Int, en = .returned (.tuple #[.slice t160a.a t160a.l t160a.c, .int .i64 t160b]) ∧
 ∃ t166 : Int, Ld w1_7 ((⟨b10, 0, none⟩ : Addr).add 1) (.int .i64 t166) ∧
 Calls prog 24 #[.pointer x7_1, .int .i64 t166] w1_7 fun en w1_8 =>
 ∃ t167a : Sl, ∃ t167b : Int, en = .returned (.tuple #[.slice t167a.a t167a.l t167a.c, .int .i64 t167b]) ∧
 ∃ J_2 : Bool → World → Prop, (∃ S : World → Prop, S w1_8.drew ∧
 IfB (t160b != t167b)
 (J_2 true w1_8.drew)
 (Calls prog 25 #[.slice t160a.a t160a.l t160a.c, .slice t167a.a t167a.l t167a.c] w1_8.drew fun en w1_9 =>
 ∃ t176 : Bool, en = .returned (.bool t176) ∧
 ∃ S_1 : World → Prop, (∀ w', S_1 w' → S w') ∧ S_1 w1_9 ∧
 IfB (!t176)
 (J_2 true w1_9)
 (∃ p183, x7_1 = some p183 ∧
 ∃ t185 : Int, (∀ w', S_1 w' → Ld w' (p183.add 0) (.int .i64 t185)) ∧
 Calls prog 17 #[.pointer x5_1] w1_9 fun en w1_10 =>
 ∃ t181 : Int, en = .returned (.int .i64 t181) ∧
 ∃ S_2 : World → Prop, (∀ w', S_2 w' → S_1 w') ∧ S_2 w1_10 ∧
 IfB (t181 != t185)
 (J_2 true w1_10)
 (∃ p192, x7_1 = some p192 ∧
 ∃ t194 : Sl, (∀ w', S_2 w' → Ld w' (p192.add 3) (.slice t194.a t194.l t194.c)) ∧
 ∃ p197, x7_1 = some p197 ∧
 ∃ t199 : Int, (∀ w', S_2 w' → Ld w' (p197.add 1) (.int .i64 t199)) ∧
 Calls prog 16 #[.pointer x5_1] w1_10 fun en w1_11 =>
 ∃ t190 : Int, en = .returned (.int .i64 t190) ∧
 ∃ S_3 : World → Prop, (∀ w', S_3 w' → S_2 w') ∧ S_3 w1_11 ∧
 IfB (t190 != IntKind.wrap .i64 (((t194.l : Nat) : Int) - t199))
 (J_2 true w1_11)
 (∃ p207, x7_1 = some p207 ∧
 ∃ t209 : Bool, (∀ w', S_3 w' → Ld w' (p207.add 4) (.bool t209)) ∧
 Calls prog 12 #[.pointer x5_1] w1_11 fun en w1_12 =>
 ∃ t205 : Bool, en = .returned (.bool t205) ∧
 S_3 w1_12 ∧
 ∃ b210 : Bool, BinIs prog .neq 4 (.tmp 205) (.tmp 209) (.bool t205) (.bool t209) b210 ∧
 J_2 b210 w1_12))))) ∧
 (∀ (u_3 : Env) (x211 : Bool) (w1_9 : World), J_2 x211 w1_9 →
 IfB x211
 (Q (.bool false) w1_9)
 (∃ (I_1 : Nat → Int → World → Prop) (n0_1 : Nat), I_1 n0_1 (0 : Int) w1_9 ∧
 ∀ (n_1 : Nat) (u_4 : Env) (x25 : Int) (w1_10 : World), I_1 n_1 x25 w1_10 →
 IfB (decide (x25 < ((t160a.l : Nat) : Int)))
 (∃ p220, t160a.a = some p220 ∧ 0 ≤ x25 ∧ x25 < ((t160a.l : Nat) : Int) ∧
 Wr w1_10 (p220.add ((x25).toNat * 1)) ∧ ∀ w1_11, w1_11 = w1_10.setCell (p220.add ((x25).toNat * 1)) (.int .u8 77) →
 ∃ n', n' < n_1 ∧ I_1 n' (IntKind.wrap .i64 (x25 + (1 : Int))) w1_11)
 (∃ t224 : Int, Ld w1_10 ((⟨b10, 0, none⟩ : Addr).add 1) (.int .i64 t224) ∧
 Calls prog 14 #[.pointer x5_1, .int .i64 t224] w1_10 fun en w1_11 =>
 ∃ t225a : Sl, ∃ t225b : Int, en = .returned (.tuple #[.slice t225a.a t225a.l t225a.c, .int .i64 t225b]) ∧
 Calls prog 25 #[.slice t225a.a t225a.l t225a.c, .slice t167a.a t167a.l t167a.c] w1_11 fun en w1_12 =>
 ∃ t230 : Bool, en = .returned (.bool t230) ∧
 IfB (!t230)
 (Q (.bool false) w1_12)
 (∃ n', n' < n ∧ I n' x5_1 x7_1 (IntKind.wrap .i64 (x9 + (1 : Int))) w1_12))))))
 (Q (.bool true) w1_3))))
def an6 : Ann := { cut := fun i => bif Nat.beq i 6 then some [(47, .bool)] else bif Nat.beq i 28 then some [(129, .bool)] else bif Nat.beq i 42 then some [(5, .ptr), (7, .ptr)] else bif Nat.beq i 45 then some [(211, .bool)] else none, loop := fun i => bif Nat.beq i 8 then [(5, .ptr), (7, .ptr), (9, .int .i64)] else bif Nat.beq i 18 then [(13, .int .i64)] else bif Nat.beq i 47 then [(25, .int .i64)] else [] }
theorem eq6 (x0 : Int) (x1 : Sl) (w : World) (Q : Value → World → Prop) : F6 x0 x1 w Q = vc prog an6 (Try.f6.body.getD .skip) (envOf [.int .i64 x0, .slice x1.a x1.l x1.c]) w (retK prog Try.f6 Q) := by kernel_rfl
theorem ok6 : codeOk Try.f6.ntmps (Try.f6.body.getD .skip) = true := by kernel_rfl
theorem W6 {x0 : Int} {x1 : Sl} {w : World} {Q : Value → World → Prop} (h : F6 x0 x1 w Q) : Calls prog 6 #[.int .i64 x0, .slice x1.a x1.l x1.c] w fun en w' => ∃ v, en = .returned v ∧ Q v w' :=
  calls_of_vc good follows an6 (args := [.int .i64 x0, .slice x1.a x1.l x1.c]) Try.func6 (by kernel_rfl) ok6 (of_decide_eq_true (by kernel_rfl)) (Eq.mp (eq6 x0 x1 w Q) h)

/-- bastion/bastionlaw03.works -/
def F7 (w : World) (Q : Value → World → Prop) : Prop :=
 Calls prog 8 #[.int .i64 512] w fun en w1 =>
 ∃ t9a : Option Addr, ∃ t9b : Int, en = .returned (.tuple #[.pointer t9a, .int .i64 t9b]) ∧
 ∃ J : Bool → World → Prop, (IfB (t9b != (0 : Int))
 (J true w1)
 (Calls prog 11 #[.int .u8 97] w1 fun en w1_1 =>
 ∃ t16 : Sl, en = .returned (.slice t16.a t16.l t16.c) ∧
 Calls prog 10 #[.pointer t9a, .int .i64 1, .slice t16.a t16.l t16.c] w1_1 fun en w1_2 =>
 ∃ t17 : Int, en = .returned (.int .i64 t17) ∧
 IfB (t17 != (0 : Int))
 (J true w1_2)
 (Calls prog 9 #[.pointer t9a, .int .i64 1] w1_2 fun en w1_3 =>
 ∃ t22 : Int, en = .returned (.int .i64 t22) ∧
 IfB (t22 != (0 : Int))
 (J true w1_3)
 (Calls prog 11 #[.int .u8 98] w1_3 fun en w1_4 =>
 ∃ t27 : Sl, en = .returned (.slice t27.a t27.l t27.c) ∧
 Calls prog 10 #[.pointer t9a, .int .i64 1, .slice t27.a t27.l t27.c] w1_4 fun en w1_5 =>
 ∃ t28 : Int, en = .returned (.int .i64 t28) ∧
 IfB (t28 != (0 : Int))
 (J true w1_5)
 (Calls prog 11 #[.int .u8 98] w1_5 fun en w1_6 =>
 ∃ t33 : Sl, en = .returned (.slice t33.a t33.l t33.c) ∧
 Calls prog 10 #[.pointer t9a, .int .i64 2, .slice t33.a t33.l t33.c] w1_6 fun en w1_7 =>
 ∃ t34 : Int, en = .returned (.int .i64 t34) ∧
 IfB (t34 != (20 : Int))
 (J true w1_7)
 (Calls prog 12 #[.pointer t9a] w1_7 fun en w1_8 =>
 ∃ t39 : Bool, en = .returned (.bool t39) ∧
 J (!t39) w1_8)))))) ∧
 (∀ (u : Env) (x41 : Bool) (w1_1 : World), J x41 w1_1 →
 IfB x41
 (Q (.bool false) w1_1)
 (Calls prog 13 #[.pointer t9a] w1_1 fun en w1_2 =>
 ∃ t44a : Option Addr, ∃ t44b : Int, en = .returned (.tuple #[.pointer t44a, .int .i64 t44b]) ∧
 IfB (t44b != (0 : Int))
 (Q (.bool false) w1_2)
 (Calls prog 14 #[.pointer t44a, .int .i64 1] w1_2 fun en w1_3 =>
 ∃ t51a : Sl, ∃ t51b : Int, en = .returned (.tuple #[.slice t51a.a t51a.l t51a.c, .int .i64 t51b]) ∧
 Calls prog 14 #[.pointer t44a, .int .i64 2] w1_3 fun en w1_4 =>
 ∃ t56a : Sl, ∃ t56b : Int, en = .returned (.tuple #[.slice t56a.a t56a.l t56a.c, .int .i64 t56b]) ∧
 IfB (t51b == (0 : Int))
 (IfB (t56b == (0 : Int))
 ((RunT prog .str (convert 31 9 (.slice t51a.a t51a.l t51a.c)) w1_4.drew fun (t67 : ByteArray) w1_5 =>
 Calls prog 11 #[.int .u8 98] w1_5 fun en w1_6 =>
 ∃ t68 : Sl, en = .returned (.slice t68.a t68.l t68.c) ∧
 RunT prog .str (convert 31 9 (.slice t68.a t68.l t68.c)) w1_6 fun (t69 : ByteArray) w1_7 =>
 IfB (t67.toList == t69.toList)
 ((RunT prog .str (convert 31 9 (.slice t56a.a t56a.l t56a.c)) w1_7 fun (t74 : ByteArray) w1_8 =>
 Calls prog 11 #[.int .u8 0] w1_8 fun en w1_9 =>
 ∃ t75 : Sl, en = .returned (.slice t75.a t75.l t75.c) ∧
 RunT prog .str (convert 31 9 (.slice t75.a t75.l t75.c)) w1_9 fun (t76 : ByteArray) w1_10 =>
 IfB (t74.toList == t76.toList)
 (Calls prog 16 #[.pointer t44a] w1_10 fun en w1_11 =>
 ∃ t81 : Int, en = .returned (.int .i64 t81) ∧
 Q (.bool (t81 == (0 : Int))) w1_11)
 (Q (.bool false) w1_10)) ∧
 (Calls prog 11 #[.int .u8 0] w1_7 fun en w1_8 =>
 ∃ t75 : Sl, en = .returned (.slice t75.a t75.l t75.c) ∧
 (RunT prog .str (convert 31 9 (.slice t56a.a t56a.l t56a.c)) w1_8 fun (t74 : ByteArray) w1_9 =>
 RunT prog .str (convert 31 9 (.slice t75.a t75.l t75.c)) w1_9 fun (t76 : ByteArray) w1_10 =>
 IfB (t74.toList == t76.toList)
 (Calls prog 16 #[.pointer t44a] w1_10 fun en w1_11 =>
 ∃ t81 : Int, en = .returned (.int .i64 t81) ∧
 Q (.bool (t81 == (0 : Int))) w1_11)
 (Q (.bool false) w1_10)) ∧
 (RunT prog .str (convert 31 9 (.slice t75.a t75.l t75.c)) w1_8 fun (t76 : ByteArray) w1_9 =>
 RunT prog .str (convert 31 9 (.slice t56a.a t56a.l t56a.c)) w1_9 fun (t74 : ByteArray) w1_10 =>
 IfB (t74.toList == t76.toList)
 (Calls prog 16 #[.pointer t44a] w1_10 fun en w1_11 =>
 ∃ t81 : Int, en = .returned (.int .i64 t81) ∧
 Q (.bool (t81 == (0 : Int))) w1_11)
 (Q (.bool false) w1_10))))
 ((Q (.bool false) w1_7) ∧
 ((Q (.bool false) w1_7) ∧
 (Q (.bool false) w1_7)))) ∧
 (Calls prog 11 #[.int .u8 98] w1_4.drew fun en w1_5 =>
 ∃ t68 : Sl, en = .returned (.slice t68.a t68.l t68.c) ∧
 (RunT prog .str (convert 31 9 (.slice t51a.a t51a.l t51a.c)) w1_5 fun (t67 : ByteArray) w1_6 =>
 RunT prog .str (convert 31 9 (.slice t68.a t68.l t68.c)) w1_6 fun (t69 : ByteArray) w1_7 =>
 IfB (t67.toList == t69.toList)
 ((RunT prog .str (convert 31 9 (.slice t56a.a t56a.l t56a.c)) w1_7 fun (t74 : ByteArray) w1_8 =>
 Calls prog 11 #[.int .u8 0] w1_8 fun en w1_9 =>
 ∃ t75 : Sl, en = .returned (.slice t75.a t75.l t75.c) ∧
 RunT prog .str (convert 31 9 (.slice t75.a t75.l t75.c)) w1_9 fun (t76 : ByteArray) w1_10 =>
 IfB (t74.toList == t76.toList)
 (Calls prog 16 #[.pointer t44a] w1_10 fun en w1_11 =>
 ∃ t81 : Int, en = .returned (.int .i64 t81) ∧
 Q (.bool (t81 == (0 : Int))) w1_11)
 (Q (.bool false) w1_10)) ∧
 (Calls prog 11 #[.int .u8 0] w1_7 fun en w1_8 =>
 ∃ t75 : Sl, en = .returned (.slice t75.a t75.l t75.c) ∧
 (RunT prog .str (convert 31 9 (.slice t56a.a t56a.l t56a.c)) w1_8 fun (t74 : ByteArray) w1_9 =>
 RunT prog .str (convert 31 9 (.slice t75.a t75.l t75.c)) w1_9 fun (t76 : ByteArray) w1_10 =>
 IfB (t74.toList == t76.toList)
 (Calls prog 16 #[.pointer t44a] w1_10 fun en w1_11 =>
 ∃ t81 : Int, en = .returned (.int .i64 t81) ∧
 Q (.bool (t81 == (0 : Int))) w1_11)
 (Q (.bool false) w1_10)) ∧
 (RunT prog .str (convert 31 9 (.slice t75.a t75.l t75.c)) w1_8 fun (t76 : ByteArray) w1_9 =>
 RunT prog .str (convert 31 9 (.slice t56a.a t56a.l t56a.c)) w1_9 fun (t74 : ByteArray) w1_10 =>
 IfB (t74.toList == t76.toList)
 (Calls prog 16 #[.pointer t44a] w1_10 fun en w1_11 =>
 ∃ t81 : Int, en = .returned (.int .i64 t81) ∧
 Q (.bool (t81 == (0 : Int))) w1_11)
 (Q (.bool false) w1_10))))
 ((Q (.bool false) w1_7) ∧
 ((Q (.bool false) w1_7) ∧
 (Q (.bool false) w1_7)))) ∧
 (RunT prog .str (convert 31 9 (.slice t68.a t68.l t68.c)) w1_5 fun (t69 : ByteArray) w1_6 =>
 RunT prog .str (convert 31 9 (.slice t51a.a t51a.l t51a.c)) w1_6 fun (t67 : ByteArray) w1_7 =>
 IfB (t67.toList == t69.toList)
 ((RunT prog .str (convert 31 9 (.slice t56a.a t56a.l t56a.c)) w1_7 fun (t74 : ByteArray) w1_8 =>
 Calls prog 11 #[.int .u8 0] w1_8 fun en w1_9 =>
 ∃ t75 : Sl, en = .returned (.slice t75.a t75.l t75.c) ∧
 RunT prog .str (convert 31 9 (.slice t75.a t75.l t75.c)) w1_9 fun (t76 : ByteArray) w1_10 =>
 IfB (t74.toList == t76.toList)
 (Calls prog 16 #[.pointer t44a] w1_10 fun en w1_11 =>
 ∃ t81 : Int, en = .returned (.int .i64 t81) ∧
 Q (.bool (t81 == (0 : Int))) w1_11)
 (Q (.bool false) w1_10)) ∧
 (Calls prog 11 #[.int .u8 0] w1_7 fun en w1_8 =>
 ∃ t75 : Sl, en = .returned (.slice t75.a t75.l t75.c) ∧
 (RunT prog .str (convert 31 9 (.slice t56a.a t56a.l t56a.c)) w1_8 fun (t74 : ByteArray) w1_9 =>
 RunT prog .str (convert 31 9 (.slice t75.a t75.l t75.c)) w1_9 fun (t76 : ByteArray) w1_10 =>
 IfB (t74.toList == t76.toList)
 (Calls prog 16 #[.pointer t44a] w1_10 fun en w1_11 =>
 ∃ t81 : Int, en = .returned (.int .i64 t81) ∧
 Q (.bool (t81 == (0 : Int))) w1_11)
 (Q (.bool false) w1_10)) ∧
 (RunT prog .str (convert 31 9 (.slice t75.a t75.l t75.c)) w1_8 fun (t76 : ByteArray) w1_9 =>
 RunT prog .str (convert 31 9 (.slice t56a.a t56a.l t56a.c)) w1_9 fun (t74 : ByteArray) w1_10 =>
 IfB (t74.toList == t76.toList)
 (Calls prog 16 #[.pointer t44a] w1_10 fun en w1_11 =>
 ∃ t81 : Int, en = .returned (.int .i64 t81) ∧
 Q (.bool (t81 == (0 : Int))) w1_11)
 (Q (.bool false) w1_10))))
 ((Q (.bool false) w1_7) ∧
 ((Q (.bool false) w1_7) ∧
 (Q (.bool false) w1_7))))))
 (((Q (.bool false) w1_4.drew) ∧
 ((Q (.bool false) w1_4.drew) ∧
 (Q (.bool false) w1_4.drew))) ∧
 (((Q (.bool false) w1_4.drew) ∧
 ((Q (.bool false) w1_4.drew) ∧
 (Q (.bool false) w1_4.drew))) ∧
 ((Q (.bool false) w1_4.drew) ∧
 ((Q (.bool false) w1_4.drew) ∧
 (Q (.bool false) w1_4.drew))))))
 (((Q (.bool false) w1_4.drew) ∧
 ((Q (.bool false) w1_4.drew) ∧
 (Q (.bool false) w1_4.drew))) ∧
 (((Q (.bool false) w1_4.drew) ∧
 ((Q (.bool false) w1_4.drew) ∧
 (Q (.bool false) w1_4.drew))) ∧
 ((Q (.bool false) w1_4.drew) ∧
 ((Q (.bool false) w1_4.drew) ∧
 (Q (.bool false) w1_4.drew))))))))
def an7 : Ann := { cut := fun i => bif Nat.beq i 3 then some [(41, .bool)] else none, loop := fun i => [] }
theorem eq7 (w : World) (Q : Value → World → Prop) : F7  w Q = vc prog an7 (Try.f7.body.getD .skip) (envOf []) w (retK prog Try.f7 Q) := by kernel_rfl
theorem ok7 : codeOk Try.f7.ntmps (Try.f7.body.getD .skip) = true := by kernel_rfl
theorem W7 {w : World} {Q : Value → World → Prop} (h : F7  w Q) : Calls prog 7 #[] w fun en w' => ∃ v, en = .returned v ∧ Q v w' :=
  calls_of_vc good follows an7 (args := []) Try.func7 (by kernel_rfl) ok7 (of_decide_eq_true (by kernel_rfl)) (Eq.mp (eq7  w Q) h)

/-- bastion/disk.New -/
def F8 (x0 : Int) (w : World) (Q : Value → World → Prop) : Prop :=
 IfB (decide (x0 < (512 : Int)))
 (Q (.tuple #[.pointer none, .int .i64 1]) w)
 (IfB (decide (x0 > (32768 : Int)))
 (Q (.tuple #[.pointer none, .int .i64 1]) w)
 (RunT prog .slice (Instr.makeSlice 55 (.int .i64 x0) (.int .i64 x0)) w fun (t11 : Sl) w1 =>
 ∃ t12 : Array Value, BuildIs prog 57 #[(0, .slice t11.a t11.l t11.c), (2, .int .i64 (-1))] t12 ∧
 ∀ b13 w1_1, NewB w1 (.cells t12 57) b13 w1_1 →
 Q (.tuple #[.pointer (some (⟨b13, 0, none⟩ : Addr)), .int .i64 0]) w1_1))
def an8 : Ann := { cut := fun i => none, loop := fun i => [] }
theorem eq8 (x0 : Int) (w : World) (Q : Value → World → Prop) : F8 x0 w Q = vc prog an8 (Try.f8.body.getD .skip) (envOf [.int .i64 x0]) w (retK prog Try.f8 Q) := by kernel_rfl
theorem ok8 : codeOk Try.f8.ntmps (Try.f8.body.getD .skip) = true := by kernel_rfl
theorem W8 {x0 : Int} {w : World} {Q : Value → World → Prop} (h : F8 x0 w Q) : Calls prog 8 #[.int .i64 x0] w fun en w' => ∃ v, en = .returned v ∧ Q v w' :=
  calls_of_vc good follows an8 (args := [.int .i64 x0]) Try.func8 (by kernel_rfl) ok8 (of_decide_eq_true (by kernel_rfl)) (Eq.mp (eq8 x0 w Q) h)

/-- (*bastion/disk.Disk).Cut -/
def F9 (x0 : Option Addr) (x1 : Int) (w : World) (Q : Value → World → Prop) : Prop :=
 Calls prog 26 #[.pointer x0] w fun en w1 =>
 ∃ t7 : Int, en = .returned (.int .i64 t7) ∧
 IfB (t7 != (0 : Int))
 (Q (.int .i64 t7) w1)
 (IfB (decide (x1 < (0 : Int)))
 (Q (.int .i64 1) w1)
 (∃ p15, x0 = some p15 ∧
 Wr w1 (p15.add 2) ∧ ∀ w1_1, w1_1 = w1.setCell (p15.add 2) (.int .i64 x1) →
 Q (.int .i64 0) w1_1))
def an9 : Ann := { cut := fun i => none, loop := fun i => [] }
theorem eq9 (x0 : Option Addr) (x1 : Int) (w : World) (Q : Value → World → Prop) : F9 x0 x1 w Q = vc prog an9 (Try.f9.body.getD .skip) (envOf [.pointer x0, .int .i64 x1]) w (retK prog Try.f9 Q) := by kernel_rfl
theorem ok9 : codeOk Try.f9.ntmps (Try.f9.body.getD .skip) = true := by kernel_rfl
theorem W9 {x0 : Option Addr} {x1 : Int} {w : World} {Q : Value → World → Prop} (h : F9 x0 x1 w Q) : Calls prog 9 #[.pointer x0, .int .i64 x1] w fun en w' => ∃ v, en = .returned v ∧ Q v w' :=
  calls_of_vc good follows an9 (args := [.pointer x0, .int .i64 x1]) Try.func9 (by kernel_rfl) ok9 (of_decide_eq_true (by kernel_rfl)) (Eq.mp (eq9 x0 x1 w Q) h)

/-- (*bastion/disk.Disk).Write -/
def F10 (x0 : Option Addr) (x1 : Int) (x2 : Sl) (w : World) (Q : Value → World → Prop) : Prop :=
 Calls prog 26 #[.pointer x0] w fun en w1 =>
 ∃ t9 : Int, en = .returned (.int .i64 t9) ∧
 IfB (t9 != (0 : Int))
 (Q (.int .i64 t9) w1)
 (∃ J : World → Prop, (∃ J_1 : Bool → World → Prop, (IfB (decide (x1 < (0 : Int)))
 (J_1 true w1)
 (∃ p19, x0 = some p19 ∧
 ∃ t21 : Sl, Ld w1 (p19.add 0) (.slice t21.a t21.l t21.c) ∧
 IfB (decide (x1 ≥ ((t21.l : Nat) : Int)))
 (J_1 true w1)
 (J_1 (((x2.l : Nat) : Int) != (256 : Int)) w1))) ∧
 (∀ (u : Env) (x13 : Bool) (w1_1 : World), J_1 x13 w1_1 →
 IfB x13
 (Q (.int .i64 1) w1_1)
 (∃ p32, x0 = some p32 ∧
 ∃ t34 : Int, Ld w1_1 (p32.add 2) (.int .i64 t34) ∧
 IfB (t34 == (0 : Int))
 (∃ p37, x0 = some p37 ∧
 Wr w1_1 (p37.add 3) ∧ ∀ w1_2, w1_2 = w1_1.setCell (p37.add 3) (.bool true) →
 Q (.int .i64 20) w1_2)
 (∃ p41, x0 = some p41 ∧
 ∃ t43 : Int, Ld w1_1 (p41.add 2) (.int .i64 t43) ∧
 IfB (decide (t43 > (0 : Int)))
 (∃ p46, x0 = some p46 ∧
 ∃ t48 : Int, Ld w1_1 (p46.add 2) (.int .i64 t48) ∧
 ∃ p50, x0 = some p50 ∧
 Wr w1_1 (p50.add 2) ∧ ∀ w1_2, w1_2 = w1_1.setCell (p50.add 2) (.int .i64 (IntKind.wrap .i64 (t48 - (1 : Int)))) →
 J  w1_2)
 (J  w1_1))))) ∧
 (∀ (u : Env) (w1_1 : World), J  w1_1 →
 ∃ p53, x0 = some p53 ∧
 ∃ t55 : Sl, Ld w1_1 (p53.add 0) (.slice t55.a t55.l t55.c) ∧
 ∃ p57, t55.a = some p57 ∧ 0 ≤ x1 ∧ x1 < ((t55.l : Nat) : Int) ∧
 RunT prog (.int .i64) (Builtin.copy_ #[31, 31] 3 #[.slice (some (if 256 = 0 then p57.add ((x1).toNat * 256) else (p57.add ((x1).toNat * 256)).add (0 * 1))) (256 - 0) (256 - 0), .slice x2.a x2.l x2.c]) w1_1 fun (t60 : Int) w1_2 =>
 ∃ p62, x0 = some p62 ∧
 ∃ t64 : Int, Ld w1_2 (p62.add 1) (.int .i64 t64) ∧
 ∃ p66, x0 = some p66 ∧
 Wr w1_2 (p66.add 1) ∧ ∀ w1_3, w1_3 = w1_2.setCell (p66.add 1) (.int .i64 (IntKind.wrap .i64 (t64 + (1 : Int)))) →
 Q (.int .i64 0) w1_3))
def an10 : Ann := { cut := fun i => bif Nat.beq i 5 then some [(13, .bool)] else bif Nat.beq i 11 then some [] else none, loop := fun i => [] }
theorem eq10 (x0 : Option Addr) (x1 : Int) (x2 : Sl) (w : World) (Q : Value → World → Prop) : F10 x0 x1 x2 w Q = vc prog an10 (Try.f10.body.getD .skip) (envOf [.pointer x0, .int .i64 x1, .slice x2.a x2.l x2.c]) w (retK prog Try.f10 Q) := by kernel_rfl
theorem ok10 : codeOk Try.f10.ntmps (Try.f10.body.getD .skip) = true := by kernel_rfl
theorem W10 {x0 : Option Addr} {x1 : Int} {x2 : Sl} {w : World} {Q : Value → World → Prop} (h : F10 x0 x1 x2 w Q) : Calls prog 10 #[.pointer x0, .int .i64 x1, .slice x2.a x2.l x2.c] w fun en w' => ∃ v, en = .returned v ∧ Q v w' :=
  calls_of_vc good follows an10 (args := [.pointer x0, .int .i64 x1, .slice x2.a x2.l x2.c]) Try.func10 (by kernel_rfl) ok10 (of_decide_eq_true (by kernel_rfl)) (Eq.mp (eq10 x0 x1 x2 w Q) h)

/-- bastion/bastionlaw03.full -/
def F11 (x0 : Int) (w : World) (Q : Value → World → Prop) : Prop :=
 RunT prog .slice (Instr.makeSlice 31 (.int .i64 256) (.int .i64 256)) w fun (t5 : Sl) w1 =>
 ∃ (I : Nat → Int → World → Prop) (n0 : Nat), I n0 (0 : Int) w1 ∧
 ∀ (n : Nat) (u : Env) (x4 : Int) (w1_1 : World), I n x4 w1_1 →
 IfB (decide (x4 < (256 : Int)))
 (∃ p13, t5.a = some p13 ∧ 0 ≤ x4 ∧ x4 < ((t5.l : Nat) : Int) ∧
 Wr w1_1 (p13.add ((x4).toNat * 1)) ∧ ∀ w1_2, w1_2 = w1_1.setCell (p13.add ((x4).toNat * 1)) (.int .u8 x0) →
 ∃ n', n' < n ∧ I n' (IntKind.wrap .i64 (x4 + (1 : Int))) w1_2)
 (Q (.slice t5.a t5.l t5.c) w1_1)
def an11 : Ann := { cut := fun i => none, loop := fun i => bif Nat.beq i 3 then [(4, .int .i64)] else [] }
theorem eq11 (x0 : Int) (w : World) (Q : Value → World → Prop) : F11 x0 w Q = vc prog an11 (Try.f11.body.getD .skip) (envOf [.int .u8 x0]) w (retK prog Try.f11 Q) := by kernel_rfl
theorem ok11 : codeOk Try.f11.ntmps (Try.f11.body.getD .skip) = true := by kernel_rfl
theorem W11 {x0 : Int} {w : World} {Q : Value → World → Prop} (h : F11 x0 w Q) : Calls prog 11 #[.int .u8 x0] w fun en w' => ∃ v, en = .returned v ∧ Q v w' :=
  calls_of_vc good follows an11 (args := [.int .u8 x0]) Try.func11 (by kernel_rfl) ok11 (of_decide_eq_true (by kernel_rfl)) (Eq.mp (eq11 x0 w Q) h)

/-- (*bastion/disk.Disk).Dead -/
def F12 (x0 : Option Addr) (w : World) (Q : Value → World → Prop) : Prop :=
 ∃ b4 : Bool, BinIs prog .neq 24 (.tmp 3) (.const (.pointer none)) (.pointer x0) (.pointer none) b4 ∧
 IfB b4
 (∃ p7, x0 = some p7 ∧
 ∃ t9 : Bool, Ld w (p7.add 3) (.bool t9) ∧
 Q (.bool t9) w)
 (Q (.bool false) w)
def an12 : Ann := { cut := fun i => none, loop := fun i => [] }
theorem eq12 (x0 : Option Addr) (w : World) (Q : Value → World → Prop) : F12 x0 w Q = vc prog an12 (Try.f12.body.getD .skip) (envOf [.pointer x0]) w (retK prog Try.f12 Q) := by kernel_rfl
theorem ok12 : codeOk Try.f12.ntmps (Try.f12.body.getD .skip) = true := by kernel_rfl
theorem W12 {x0 : Option Addr} {w : World} {Q : Value → World → Prop} (h : F12 x0 w Q) : Calls prog 12 #[.pointer x0] w fun en w' => ∃ v, en = .returned v ∧ Q v w' :=
  calls_of_vc good follows an12 (args := [.pointer x0]) Try.func12 (by kernel_rfl) ok12 (of_decide_eq_true (by kernel_rfl)) (Eq.mp (eq12 x0 w Q) h)

/-- (*bastion/disk.Disk).Reopen -/
def F13 (x0 : Option Addr) (w : World) (Q : Value → World → Prop) : Prop :=
 ∃ b6 : Bool, BinIs prog .eql 24 (.tmp 5) (.const (.pointer none)) (.pointer x0) (.pointer none) b6 ∧
 IfB b6
 (Q (.tuple #[.pointer none, .int .i64 2]) w)
 (∃ p9, x0 = some p9 ∧
 ∃ t11 : Bool, Ld w (p9.add 3) (.bool t11) ∧
 IfB (!t11)
 (Q (.tuple #[.pointer none, .int .i64 50]) w)
 (∃ p14, x0 = some p14 ∧
 ∃ t16 : Sl, Ld w (p14.add 0) (.slice t16.a t16.l t16.c) ∧
 Calls prog 27 #[.slice t16.a t16.l t16.c] w fun en w1 =>
 ∃ t17 : Sl, en = .returned (.slice t17.a t17.l t17.c) ∧
 ∃ t18 : Array Value, BuildIs prog 57 #[(0, .slice t17.a t17.l t17.c), (2, .int .i64 (-1))] t18 ∧
 ∀ b19 w1_1, NewB w1 (.cells t18 57) b19 w1_1 →
 Q (.tuple #[.pointer (some (⟨b19, 0, none⟩ : Addr)), .int .i64 0]) w1_1))
def an13 : Ann := { cut := fun i => none, loop := fun i => [] }
theorem eq13 (x0 : Option Addr) (w : World) (Q : Value → World → Prop) : F13 x0 w Q = vc prog an13 (Try.f13.body.getD .skip) (envOf [.pointer x0]) w (retK prog Try.f13 Q) := by kernel_rfl
theorem ok13 : codeOk Try.f13.ntmps (Try.f13.body.getD .skip) = true := by kernel_rfl
theorem W13 {x0 : Option Addr} {w : World} {Q : Value → World → Prop} (h : F13 x0 w Q) : Calls prog 13 #[.pointer x0] w fun en w' => ∃ v, en = .returned v ∧ Q v w' :=
  calls_of_vc good follows an13 (args := [.pointer x0]) Try.func13 (by kernel_rfl) ok13 (of_decide_eq_true (by kernel_rfl)) (Eq.mp (eq13 x0 w Q) h)

/-- (*bastion/disk.Disk).Read -/
def F14 (x0 : Option Addr) (x1 : Int) (w : World) (Q : Value → World → Prop) : Prop :=
 Calls prog 26 #[.pointer x0] w fun en w1 =>
 ∃ t9 : Int, en = .returned (.int .i64 t9) ∧
 IfB (t9 != (0 : Int))
 (Q (.tuple #[.slice none 0 0, .int .i64 t9]) w1)
 (IfB (decide (x1 < (0 : Int)))
 (Q (.tuple #[.slice none 0 0, .int .i64 1]) w1)
 (∃ p18, x0 = some p18 ∧
 ∃ t20 : Sl, Ld w1 (p18.add 0) (.slice t20.a t20.l t20.c) ∧
 IfB (decide (x1 ≥ ((t20.l : Nat) : Int)))
 (Q (.tuple #[.slice none 0 0, .int .i64 1]) w1)
 (∃ p25, x0 = some p25 ∧
 ∃ t27 : Sl, Ld w1 (p25.add 0) (.slice t27.a t27.l t27.c) ∧
 ∃ p29, t27.a = some p29 ∧ 0 ≤ x1 ∧ x1 < ((t27.l : Nat) : Int) ∧
 ∃ t30 : Array Value, LdA w1 (p29.add ((x1).toNat * 256)) 256 t30 ∧
 ∀ b7 w1_1, NewB w1 (.cells #[.int .u8 0, .int .u8 0, .int .u8 0, .int .u8 0, .int .u8 0, .int .u8 0, .int .u8 0, .int .u8 0, .int .u8 0, .int .u8 0, .int .u8 0, .int .u8 0, .int .u8 0, .int .u8 0, .int .u8 0, .int .u8 0, .int .u8 0, .int .u8 0, .int .u8 0, .int .u8 0, .int .u8 0, .int .u8 0, .int .u8 0, .int .u8 0, .int .u8 0, .int .u8 0, .int .u8 0, .int .u8 0, .int .u8 0, .int .u8 0, .int .u8 0, .int .u8 0, .int .u8 0, .int .u8 0, .int .u8 0, .int .u8 0, .int .u8 0, .int .u8 0, .int .u8 0, .int .u8 0, .int .u8 0, .int .u8 0, .int .u8 0, .int .u8 0, .int .u8 0, .int .u8 0, .int .u8 0, .int .u8 0, .int .u8 0, .int .u8 0, .int .u8 0, .int .u8 0, .int .u8 0, .int .u8 0, .int .u8 0, .int .u8 0, .int .u8 0, .int .u8 0, .int .u8 0, .int .u8 0, .int .u8 0, .int .u8 0, .int .u8 0, .int .u8 0, .int .u8 0, .int .u8 0, .int .u8 0, .int .u8 0, .int .u8 0, .int .u8 0, .int .u8 0, .int .u8 0, .int .u8 0, .int .u8 0, .int .u8 0, .int .u8 0, .int .u8 0, .int .u8 0, .int .u8 0, .int .u8 0, .int .u8 0, .int .u8 0, .int .u8 0, .int .u8 0, .int .u8 0, .int .u8 0, .int .u8 0, .int .u8 0, .int .u8 0, .int .u8 0, .int .u8 0, .int .u8 0, .int .u8 0, .int .u8 0, .int .u8 0, .int .u8 0, .int .u8 0, .int .u8 0, .int .u8 0, .int .u8 0, .int .u8 0, .int .u8 0, .int .u8 0, .int .u8 0, .int .u8 0, .int .u8 0, .int .u8 0, .int .u8 0, .int .u8 0, .int .u8 0, .int .u8 0, .int .u8 0, .int .u8 0, .int .u8 0, .int .u8 0, .int .u8 0, .int .u8 0, .int .u8 0, .int .u8 0, .int .u8 0, .int .u8 0, .int .u8 0, .int .u8 0, .int .u8 0, .int .u8 0, .int .u8 0, .int .u8 0, .int .u8 0, .int .u8 0, .int .u8 0, .int .u8 0, .int .u8 0, .int .u8 0, .int .u8 0, .int .u8 0, .int .u8 0, .int .u8 0, .int .u8 0, .int .u8 0, .int .u8 0, .int .u8 0, .int .u8 0, .int .u8 0, .int .u8 0, .int .u8 0, .int .u8 0, .int .u8 0, .int .u8 0, .int .u8 0, .int .u8 0, .int .u8 0, .int .u8 0, .int .u8 0, .int .u8 0, .int .u8 0, .int .u8 0, .int .u8 0, .int .u8 0, .int .u8 0, .int .u8 0, .int .u8 0, .int .u8 0, .int .u8 0, .int .u8 0, .int .u8 0, .int .u8 0, .int .u8 0, .int .u8 0, .int .u8 0, .int .u8 0, .int .u8 0, .int .u8 0, .int .u8 0, .int .u8 0, .int .u8 0, .int .u8 0, .int .u8 0, .int .u8 0, .int .u8 0, .int .u8 0, .int .u8 0, .int .u8 0, .int .u8 0, .int .u8 0, .int .u8 0, .int .u8 0, .int .u8 0, .int .u8 0, .int .u8 0, .int .u8 0, .int .u8 0, .int .u8 0, .int .u8 0, .int .u8 0, .int .u8 0, .int .u8 0, .int .u8 0, .int .u8 0, .int .u8 0, .int .u8 0, .int .u8 0, .int .u8 0, .int .u8 0, .int .u8 0, .int .u8 0, .int .u8 0, .int .u8 0, .int .u8 0, .int .u8 0, .int .u8 0, .int .u8 0, .int .u8 0, .int .u8 0, .int .u8 0, .int .u8 0, .int .u8 0, .int .u8 0, .int .u8 0, .int .u8 0, .int .u8 0, .int .u8 0, .int .u8 0, .int .u8 0, .int .u8 0, .int .u8 0, .int .u8 0, .int .u8 0, .int .u8 0, .int .u8 0, .int .u8 0, .int .u8 0, .int .u8 0, .int .u8 0, .int .u8 0, .int .u8 0, .int .u8 0, .int .u8 0, .int .u8 0, .int .u8 0, .int .u8 0, .int .u8 0, .int .u8 0, .int .u8 0, .int .u8 0, .int .u8 0, .int .u8 0, .int .u8 0, .int .u8 0, .int .u8 0, .int .u8 0, .int .u8 0, .int .u8 0, .int .u8 0, .int .u8 0, .int .u8 0, .int .u8 0] 60) b7 w1_1 →
 t30.size = 256 ∧ (∀ u, u ∈ t30.toList → u.oneCell' = true) ∧ WrA w1_1 (⟨b7, 0, none⟩ : Addr) 256 ∧ ∀ w1_2, w1_2 = setAt w1_1 (⟨b7, 0, none⟩ : Addr) t30.toList 0 →
 Q (.tuple #[.slice (some (if 256 = 0 then (⟨b7, 0, none⟩ : Addr) else (⟨b7, 0, none⟩ : Addr).add (0 * 1))) (256 - 0) (256 - 0), .int .i64 0]) w1_2)))
def an14 : Ann := { cut := fun i => none, loop := fun i => [] }
theorem eq14 (x0 : Option Addr) (x1 : Int) (w : World) (Q : Value → World → Prop) : F14 x0 x1 w Q = vc prog an14 (Try.f14.body.getD .skip) (envOf [.pointer x0, .int .i64 x1]) w (retK prog Try.f14 Q) := by kernel_rfl
theorem ok14 : codeOk Try.f14.ntmps (Try.f14.body.getD .skip) = true := by kernel_rfl
theorem W14 {x0 : Option Addr} {x1 : Int} {w : World} {Q : Value → World → Prop} (h : F14 x0 x1 w Q) : Calls prog 14 #[.pointer x0, .int .i64 x1] w fun en w' => ∃ v, en = .returned v ∧ Q v w' :=
  calls_of_vc good follows an14 (args := [.pointer x0, .int .i64 x1]) Try.func14 (by kernel_rfl) ok14 (of_decide_eq_true (by kernel_rfl)) (Eq.mp (eq14 x0 x1 w Q) h)

/-- (*bastion/disk.Disk).Copy -/
def F15 (x0 : Option Addr) (w : World) (Q : Value → World → Prop) : Prop :=
 ∃ b5 : Bool, BinIs prog .eql 24 (.tmp 4) (.const (.pointer none)) (.pointer x0) (.pointer none) b5 ∧
 IfB b5
 (Q (.pointer none) w)
 (∃ p7, x0 = some p7 ∧
 ∃ t8 : Array Value, LdA w p7 4 t8 ∧
 ∀ b3 w1, NewB w (.cells #[.slice none 0 0, .int .i64 0, .int .i64 0, .bool false] 57) b3 w1 →
 t8.size = 4 ∧ (∀ u, u ∈ t8.toList → u.oneCell' = true) ∧ WrA w1 (⟨b3, 0, none⟩ : Addr) 4 ∧ ∀ w1_1, w1_1 = setAt w1 (⟨b3, 0, none⟩ : Addr) t8.toList 0 →
 ∃ p10, x0 = some p10 ∧
 ∃ t12 : Sl, Ld w1_1 (p10.add 0) (.slice t12.a t12.l t12.c) ∧
 Calls prog 27 #[.slice t12.a t12.l t12.c] w1_1 fun en w1_2 =>
 ∃ t13 : Sl, en = .returned (.slice t13.a t13.l t13.c) ∧
 Wr w1_2 ((⟨b3, 0, none⟩ : Addr).add 0) ∧ ∀ w1_3, w1_3 = w1_2.setCell ((⟨b3, 0, none⟩ : Addr).add 0) (.slice t13.a t13.l t13.c) →
 Q (.pointer (some (⟨b3, 0, none⟩ : Addr))) w1_3)
def an15 : Ann := { cut := fun i => none, loop := fun i => [] }
theorem eq15 (x0 : Option Addr) (w : World) (Q : Value → World → Prop) : F15 x0 w Q = vc prog an15 (Try.f15.body.getD .skip) (envOf [.pointer x0]) w (retK prog Try.f15 Q) := by kernel_rfl
theorem ok15 : codeOk Try.f15.ntmps (Try.f15.body.getD .skip) = true := by kernel_rfl
theorem W15 {x0 : Option Addr} {w : World} {Q : Value → World → Prop} (h : F15 x0 w Q) : Calls prog 15 #[.pointer x0] w fun en w' => ∃ v, en = .returned v ∧ Q v w' :=
  calls_of_vc good follows an15 (args := [.pointer x0]) Try.func15 (by kernel_rfl) ok15 (of_decide_eq_true (by kernel_rfl)) (Eq.mp (eq15 x0 w Q) h)

/-- (*bastion/disk.Disk).Writes -/
def F16 (x0 : Option Addr) (w : World) (Q : Value → World → Prop) : Prop :=
 ∃ b4 : Bool, BinIs prog .eql 24 (.tmp 3) (.const (.pointer none)) (.pointer x0) (.pointer none) b4 ∧
 IfB b4
 (Q (.int .i64 0) w)
 (∃ p6, x0 = some p6 ∧
 ∃ t8 : Int, Ld w (p6.add 1) (.int .i64 t8) ∧
 Q (.int .i64 t8) w)
def an16 : Ann := { cut := fun i => none, loop := fun i => [] }
theorem eq16 (x0 : Option Addr) (w : World) (Q : Value → World → Prop) : F16 x0 w Q = vc prog an16 (Try.f16.body.getD .skip) (envOf [.pointer x0]) w (retK prog Try.f16 Q) := by kernel_rfl
theorem ok16 : codeOk Try.f16.ntmps (Try.f16.body.getD .skip) = true := by kernel_rfl
theorem W16 {x0 : Option Addr} {w : World} {Q : Value → World → Prop} (h : F16 x0 w Q) : Calls prog 16 #[.pointer x0] w fun en w' => ∃ v, en = .returned v ∧ Q v w' :=
  calls_of_vc good follows an16 (args := [.pointer x0]) Try.func16 (by kernel_rfl) ok16 (of_decide_eq_true (by kernel_rfl)) (Eq.mp (eq16 x0 w Q) h)

/-- (*bastion/disk.Disk).Len -/
def F17 (x0 : Option Addr) (w : World) (Q : Value → World → Prop) : Prop :=
 ∃ b4 : Bool, BinIs prog .eql 24 (.tmp 3) (.const (.pointer none)) (.pointer x0) (.pointer none) b4 ∧
 IfB b4
 (Q (.int .i64 0) w)
 (∃ p6, x0 = some p6 ∧
 ∃ t8 : Sl, Ld w (p6.add 0) (.slice t8.a t8.l t8.c) ∧
 Q (.int .i64 ((t8.l : Nat) : Int)) w)
def an17 : Ann := { cut := fun i => none, loop := fun i => [] }
theorem eq17 (x0 : Option Addr) (w : World) (Q : Value → World → Prop) : F17 x0 w Q = vc prog an17 (Try.f17.body.getD .skip) (envOf [.pointer x0]) w (retK prog Try.f17 Q) := by kernel_rfl
theorem ok17 : codeOk Try.f17.ntmps (Try.f17.body.getD .skip) = true := by kernel_rfl
theorem W17 {x0 : Option Addr} {w : World} {Q : Value → World → Prop} (h : F17 x0 w Q) : Calls prog 17 #[.pointer x0] w fun en w' => ∃ v, en = .returned v ∧ Q v w' :=
  calls_of_vc good follows an17 (args := [.pointer x0]) Try.func17 (by kernel_rfl) ok17 (of_decide_eq_true (by kernel_rfl)) (Eq.mp (eq17 x0 w Q) h)

/-- bastion/bastionref03.New -/
def F18 (x0 : Int) (w : World) (Q : Value → World → Prop) : Prop :=
 IfB (decide (x0 < (512 : Int)))
 (Q (.tuple #[.pointer none, .int .i64 1]) w)
 (IfB (decide (x0 > (32768 : Int)))
 (Q (.tuple #[.pointer none, .int .i64 1]) w)
 (∃ t11 : Array Value, BuildIs prog 53 #[(0, .int .i64 x0), (2, .int .i64 (-1))] t11 ∧
 ∀ b12 w1, NewB w (.cells t11 53) b12 w1 →
 Q (.tuple #[.pointer (some (⟨b12, 0, none⟩ : Addr)), .int .i64 0]) w1))
def an18 : Ann := { cut := fun i => none, loop := fun i => [] }
theorem eq18 (x0 : Int) (w : World) (Q : Value → World → Prop) : F18 x0 w Q = vc prog an18 (Try.f18.body.getD .skip) (envOf [.int .i64 x0]) w (retK prog Try.f18 Q) := by kernel_rfl
theorem ok18 : codeOk Try.f18.ntmps (Try.f18.body.getD .skip) = true := by kernel_rfl
theorem W18 {x0 : Int} {w : World} {Q : Value → World → Prop} (h : F18 x0 w Q) : Calls prog 18 #[.int .i64 x0] w fun en w' => ∃ v, en = .returned v ∧ Q v w' :=
  calls_of_vc good follows an18 (args := [.int .i64 x0]) Try.func18 (by kernel_rfl) ok18 (of_decide_eq_true (by kernel_rfl)) (Eq.mp (eq18 x0 w Q) h)

/-- bastion/bastionlaw03.bytes -/
def F19 (x0 : Array Value) (w : World) (Q : Value → World → Prop) : Prop :=
 ∀ b1 w1, NewB w (.cells x0 46) b1 w1 →
 ∃ t5 : ByteArray, Ld w1 ((⟨b1, 0, none⟩ : Addr).add 2) (.string t5) ∧
 RunT prog .slice (convert 9 31 (.string t5)) w1 fun (t6 : Sl) w1_1 =>
 ∃ (I : Nat → Sl → World → Prop) (n0 : Nat), I n0 t6 w1_1 ∧
 ∀ (n : Nat) (u : Env) (x3 : Sl) (w1_2 : World), I n x3 w1_2 →
 ∃ t8 : Bool, Ld w1_2 ((⟨b1, 0, none⟩ : Addr).add 3) (.bool t8) ∧
 IfB t8
 (IfB (decide (((x3.l : Nat) : Int) < (256 : Int)))
 (RunT prog .slice (Instr.buildSlice 31 1 #[(0, .int .u8 0)]) w1_2 fun (t15 : Sl) w1_3 =>
 RunT prog .slice (Builtin.append_ #[31, 31] 31 #[.slice x3.a x3.l x3.c, .slice t15.a t15.l t15.c]) w1_3 fun (t16 : Sl) w1_4 =>
 ∃ n', n' < n ∧ I n' t16 w1_4)
 (Q (.slice x3.a x3.l x3.c) w1_2))
 (Q (.slice x3.a x3.l x3.c) w1_2)
def an19 : Ann := { cut := fun i => none, loop := fun i => bif Nat.beq i 2 then [(3, .slice)] else [] }
theorem eq19 (x0 : Array Value) (w : World) (Q : Value → World → Prop) : F19 x0 w Q = vc prog an19 (Try.f19.body.getD .skip) (envOf [.agg x0]) w (retK prog Try.f19 Q) := by kernel_rfl
theorem ok19 : codeOk Try.f19.ntmps (Try.f19.body.getD .skip) = true := by kernel_rfl
theorem W19 {x0 : Array Value} {w : World} {Q : Value → World → Prop} (h : F19 x0 w Q) : Calls prog 19 #[.agg x0] w fun en w' => ∃ v, en = .returned v ∧ Q v w' :=
  calls_of_vc good follows an19 (args := [.agg x0]) Try.func19 (by kernel_rfl) ok19 (of_decide_eq_true (by kernel_rfl)) (Eq.mp (eq19 x0 w Q) h)

/-- (*bastion/bastionref03.Disk).Write -/
def F20 (x0 : Option Addr) (x1 : Int) (x2 : Sl) (w : World) (Q : Value → World → Prop) : Prop :=
 ∃ p8, x0 = some p8 ∧
 ∃ t10 : Bool, Ld w (p8.add 4) (.bool t10) ∧
 IfB t10
 (Q (.int .i64 20) w)
 (∃ J : Bool → World → Prop, (IfB (decide (x1 < (0 : Int)))
 (J true w)
 (∃ p16, x0 = some p16 ∧
 ∃ t18 : Int, Ld w (p16.add 0) (.int .i64 t18) ∧
 IfB (decide (x1 ≥ t18))
 (J true w)
 (J (((x2.l : Nat) : Int) != (256 : Int)) w))) ∧
 (∀ (u : Env) (x25 : Bool) (w1 : World), J x25 w1 →
 IfB x25
 (Q (.int .i64 1) w1)
 (∃ p27, x0 = some p27 ∧
 ∃ t29 : Int, Ld w1 (p27.add 2) (.int .i64 t29) ∧
 IfB (t29 == (0 : Int))
 (∃ p32, x0 = some p32 ∧
 Wr w1 (p32.add 4) ∧ ∀ w1_1, w1_1 = w1.setCell (p32.add 4) (.bool true) →
 Q (.int .i64 20) w1_1)
 (∃ p35, x0 = some p35 ∧
 ∃ t37 : Int, Ld w1 (p35.add 2) (.int .i64 t37) ∧
 IfB (decide (t37 > (0 : Int)))
 (∃ p40, x0 = some p40 ∧
 ∃ t42 : Int, Ld w1 (p40.add 2) (.int .i64 t42) ∧
 ∃ p44, x0 = some p44 ∧
 Wr w1 (p44.add 2) ∧ ∀ w1_1, w1_1 = w1.setCell (p44.add 2) (.int .i64 (IntKind.wrap .i64 (t42 - (1 : Int)))) →
 ∃ S : World → Prop, S w1_1.drew ∧
 ∃ p48, x0 = some p48 ∧
 ∃ t50 : Sl, (∀ w', S w' → Ld w' (p48.add 3) (.slice t50.a t50.l t50.c)) ∧
 RunT prog .str (convert 31 9 (.slice x2.a x2.l x2.c)) w1_1.drew fun (t53 : ByteArray) w1_2 =>
 S w1_2 ∧
 ∃ t54 : Array Value, BuildIs prog 63 #[(0, .int .i64 x1), (1, .string t53)] t54 ∧
 RunT prog .slice (Instr.buildSlice 51 1 #[(0, .agg t54)]) w1_2 fun (t55 : Sl) w1_3 =>
 S w1_3 ∧
 RunT prog .slice (Builtin.append_ #[51, 51] 51 #[.slice t50.a t50.l t50.c, .slice t55.a t55.l t55.c]) w1_3 fun (t56 : Sl) w1_4 =>
 ∃ p57, x0 = some p57 ∧
 Wr w1_4 (p57.add 3) ∧ ∀ w1_5, w1_5 = w1_4.setCell (p57.add 3) (.slice t56.a t56.l t56.c) →
 Q (.int .i64 0) w1_5)
 (∃ S : World → Prop, S w1.drew ∧
 ∃ p48, x0 = some p48 ∧
 ∃ t50 : Sl, (∀ w', S w' → Ld w' (p48.add 3) (.slice t50.a t50.l t50.c)) ∧
 RunT prog .str (convert 31 9 (.slice x2.a x2.l x2.c)) w1.drew fun (t53 : ByteArray) w1_1 =>
 S w1_1 ∧
 ∃ t54 : Array Value, BuildIs prog 63 #[(0, .int .i64 x1), (1, .string t53)] t54 ∧
 RunT prog .slice (Instr.buildSlice 51 1 #[(0, .agg t54)]) w1_1 fun (t55 : Sl) w1_2 =>
 S w1_2 ∧
 RunT prog .slice (Builtin.append_ #[51, 51] 51 #[.slice t50.a t50.l t50.c, .slice t55.a t55.l t55.c]) w1_2 fun (t56 : Sl) w1_3 =>
 ∃ p57, x0 = some p57 ∧
 Wr w1_3 (p57.add 3) ∧ ∀ w1_4, w1_4 = w1_3.setCell (p57.add 3) (.slice t56.a t56.l t56.c) →
 Q (.int .i64 0) w1_4)))))
def an20 : Ann := { cut := fun i => bif Nat.beq i 4 then some [(25, .bool)] else none, loop := fun i => [] }
theorem eq20 (x0 : Option Addr) (x1 : Int) (x2 : Sl) (w : World) (Q : Value → World → Prop) : F20 x0 x1 x2 w Q = vc prog an20 (Try.f20.body.getD .skip) (envOf [.pointer x0, .int .i64 x1, .slice x2.a x2.l x2.c]) w (retK prog Try.f20 Q) := by kernel_rfl
theorem ok20 : codeOk Try.f20.ntmps (Try.f20.body.getD .skip) = true := by kernel_rfl
theorem W20 {x0 : Option Addr} {x1 : Int} {x2 : Sl} {w : World} {Q : Value → World → Prop} (h : F20 x0 x1 x2 w Q) : Calls prog 20 #[.pointer x0, .int .i64 x1, .slice x2.a x2.l x2.c] w fun en w' => ∃ v, en = .returned v ∧ Q v w' :=
  calls_of_vc good follows an20 (args := [.pointer x0, .int .i64 x1, .slice x2.a x2.l x2.c]) Try.func20 (by kernel_rfl) ok20 (of_decide_eq_true (by kernel_rfl)) (Eq.mp (eq20 x0 x1 x2 w Q) h)

/-- (*bastion/bastionref03.Disk).Set -/
def F21 (x0 : Option Addr) (x1 : Int) (w : World) (Q : Value → World → Prop) : Prop :=
 ∃ p6, x0 = some p6 ∧
 ∃ t8 : Bool, Ld w (p6.add 4) (.bool t8) ∧
 IfB t8
 (Q (.int .i64 20) w)
 (IfB (decide (x1 < (0 : Int)))
 (Q (.int .i64 1) w)
 (∃ p13, x0 = some p13 ∧
 Wr w (p13.add 2) ∧ ∀ w1, w1 = w.setCell (p13.add 2) (.int .i64 x1) →
 Q (.int .i64 0) w1))
def an21 : Ann := { cut := fun i => none, loop := fun i => [] }
theorem eq21 (x0 : Option Addr) (x1 : Int) (w : World) (Q : Value → World → Prop) : F21 x0 x1 w Q = vc prog an21 (Try.f21.body.getD .skip) (envOf [.pointer x0, .int .i64 x1]) w (retK prog Try.f21 Q) := by kernel_rfl
theorem ok21 : codeOk Try.f21.ntmps (Try.f21.body.getD .skip) = true := by kernel_rfl
theorem W21 {x0 : Option Addr} {x1 : Int} {w : World} {Q : Value → World → Prop} (h : F21 x0 x1 w Q) : Calls prog 21 #[.pointer x0, .int .i64 x1] w fun en w' => ∃ v, en = .returned v ∧ Q v w' :=
  calls_of_vc good follows an21 (args := [.pointer x0, .int .i64 x1]) Try.func21 (by kernel_rfl) ok21 (of_decide_eq_true (by kernel_rfl)) (Eq.mp (eq21 x0 x1 w Q) h)

/-- (*bastion/bastionref03.Disk).Reopen -/
def F22 (x0 : Option Addr) (w : World) (Q : Value → World → Prop) : Prop :=
 ∃ p5, x0 = some p5 ∧
 ∃ t7 : Bool, Ld w (p5.add 4) (.bool t7) ∧
 IfB (!t7)
 (Q (.tuple #[.pointer none, .int .i64 50]) w)
 (∃ S : World → Prop, S w.drew ∧
 ∃ p10, x0 = some p10 ∧
 ∃ t12 : Int, (∀ w', S w' → Ld w' (p10.add 0) (.int .i64 t12)) ∧
 ∃ p14, x0 = some p14 ∧
 ∃ t16 : Sl, (∀ w', S w' → Ld w' (p14.add 3) (.slice t16.a t16.l t16.c)) ∧
 ∃ p20, x0 = some p20 ∧
 ∃ t22 : Sl, (∀ w', S w' → Ld w' (p20.add 3) (.slice t22.a t22.l t22.c)) ∧
 RunT prog .slice (Instr.buildSlice 51 0 #[]) w.drew fun (t18 : Sl) w1 =>
 S w1 ∧
 RunT prog .slice (Builtin.append_ #[51, 51] 51 #[.slice t18.a t18.l t18.c, .slice t22.a t22.l t22.c]) w1 fun (t23 : Sl) w1_1 =>
 S w1_1 ∧
 ∃ t24 : Array Value, BuildIs prog 53 #[(0, .int .i64 t12), (1, .int .i64 ((t16.l : Nat) : Int)), (2, .int .i64 (-1)), (3, .slice t23.a t23.l t23.c)] t24 ∧
 ∀ b25 w1_2, NewB w1_1 (.cells t24 53) b25 w1_2 →
 Q (.tuple #[.pointer (some (⟨b25, 0, none⟩ : Addr)), .int .i64 0]) w1_2)
def an22 : Ann := { cut := fun i => none, loop := fun i => [] }
theorem eq22 (x0 : Option Addr) (w : World) (Q : Value → World → Prop) : F22 x0 w Q = vc prog an22 (Try.f22.body.getD .skip) (envOf [.pointer x0]) w (retK prog Try.f22 Q) := by kernel_rfl
theorem ok22 : codeOk Try.f22.ntmps (Try.f22.body.getD .skip) = true := by kernel_rfl
theorem W22 {x0 : Option Addr} {w : World} {Q : Value → World → Prop} (h : F22 x0 w Q) : Calls prog 22 #[.pointer x0] w fun en w' => ∃ v, en = .returned v ∧ Q v w' :=
  calls_of_vc good follows an22 (args := [.pointer x0]) Try.func22 (by kernel_rfl) ok22 (of_decide_eq_true (by kernel_rfl)) (Eq.mp (eq22 x0 w Q) h)

/-- (*bastion/bastionref03.Disk).Copy -/
def F23 (x0 : Option Addr) (w : World) (Q : Value → World → Prop) : Prop :=
 ∃ S : World → Prop, S w.drew ∧
 ∃ p4, x0 = some p4 ∧
 ∃ t6 : Int, (∀ w', S w' → Ld w' (p4.add 0) (.int .i64 t6)) ∧
 ∃ p8, x0 = some p8 ∧
 ∃ t10 : Int, (∀ w', S w' → Ld w' (p8.add 1) (.int .i64 t10)) ∧
 ∃ p12, x0 = some p12 ∧
 ∃ t14 : Int, (∀ w', S w' → Ld w' (p12.add 2) (.int .i64 t14)) ∧
 ∃ p17, x0 = some p17 ∧
 ∃ t19 : Sl, (∀ w', S w' → Ld w' (p17.add 3) (.slice t19.a t19.l t19.c)) ∧
 ∃ p22, x0 = some p22 ∧
 ∃ t24 : Bool, (∀ w', S w' → Ld w' (p22.add 4) (.bool t24)) ∧
 RunT prog .slice (Instr.buildSlice 51 0 #[]) w.drew fun (t15 : Sl) w1 =>
 S w1 ∧
 RunT prog .slice (Builtin.append_ #[51, 51] 51 #[.slice t15.a t15.l t15.c, .slice t19.a t19.l t19.c]) w1 fun (t20 : Sl) w1_1 =>
 S w1_1 ∧
 ∃ t25 : Array Value, BuildIs prog 53 #[(0, .int .i64 t6), (1, .int .i64 t10), (2, .int .i64 t14), (3, .slice t20.a t20.l t20.c), (4, .bool t24)] t25 ∧
 ∀ b26 w1_2, NewB w1_1 (.cells t25 53) b26 w1_2 →
 Q (.pointer (some (⟨b26, 0, none⟩ : Addr))) w1_2
def an23 : Ann := { cut := fun i => none, loop := fun i => [] }
theorem eq23 (x0 : Option Addr) (w : World) (Q : Value → World → Prop) : F23 x0 w Q = vc prog an23 (Try.f23.body.getD .skip) (envOf [.pointer x0]) w (retK prog Try.f23 Q) := by kernel_rfl
theorem ok23 : codeOk Try.f23.ntmps (Try.f23.body.getD .skip) = true := by kernel_rfl
theorem W23 {x0 : Option Addr} {w : World} {Q : Value → World → Prop} (h : F23 x0 w Q) : Calls prog 23 #[.pointer x0] w fun en w' => ∃ v, en = .returned v ∧ Q v w' :=
  calls_of_vc good follows an23 (args := [.pointer x0]) Try.func23 (by kernel_rfl) ok23 (of_decide_eq_true (by kernel_rfl)) (Eq.mp (eq23 x0 w Q) h)

/-- (*bastion/bastionref03.Disk).Read -/
def F24 (x0 : Option Addr) (x1 : Int) (w : World) (Q : Value → World → Prop) : Prop :=
 ∃ p7, x0 = some p7 ∧
 ∃ t9 : Bool, Ld w (p7.add 4) (.bool t9) ∧
 IfB t9
 (Q (.tuple #[.slice none 0 0, .int .i64 20]) w)
 (IfB (decide (x1 < (0 : Int)))
 (Q (.tuple #[.slice none 0 0, .int .i64 1]) w)
 (∃ p15, x0 = some p15 ∧
 ∃ t17 : Int, Ld w (p15.add 0) (.int .i64 t17) ∧
 IfB (decide (x1 ≥ t17))
 (Q (.tuple #[.slice none 0 0, .int .i64 1]) w)
 (Calls prog 28 #[.pointer x0, .int .i64 x1] w fun en w1 =>
 ∃ t22 : Sl, en = .returned (.slice t22.a t22.l t22.c) ∧
 Q (.tuple #[.slice t22.a t22.l t22.c, .int .i64 0]) w1)))
def an24 : Ann := { cut := fun i => none, loop := fun i => [] }
theorem eq24 (x0 : Option Addr) (x1 : Int) (w : World) (Q : Value → World → Prop) : F24 x0 x1 w Q = vc prog an24 (Try.f24.body.getD .skip) (envOf [.pointer x0, .int .i64 x1]) w (retK prog Try.f24 Q) := by kernel_rfl
theorem ok24 : codeOk Try.f24.ntmps (Try.f24.body.getD .skip) = true := by kernel_rfl
theorem W24 {x0 : Option Addr} {x1 : Int} {w : World} {Q : Value → World → Prop} (h : F24 x0 x1 w Q) : Calls prog 24 #[.pointer x0, .int .i64 x1] w fun en w' => ∃ v, en = .returned v ∧ Q v w' :=
  calls_of_vc good follows an24 (args := [.pointer x0, .int .i64 x1]) Try.func24 (by kernel_rfl) ok24 (of_decide_eq_true (by kernel_rfl)) (Eq.mp (eq24 x0 x1 w Q) h)

/-- bastion/bastionlaw03.alike -/
def F25 (x0 : Sl) (x1 : Sl) (w : World) (Q : Value → World → Prop) : Prop :=
 RunT prog .str (convert 31 9 (.slice x0.a x0.l x0.c)) w fun (t6 : ByteArray) w1 =>
 RunT prog .str (convert 31 9 (.slice x1.a x1.l x1.c)) w1 fun (t8 : ByteArray) w1_1 =>
 Q (.bool (t6.toList == t8.toList)) w1_1
def an25 : Ann := { cut := fun i => none, loop := fun i => [] }
theorem eq25 (x0 : Sl) (x1 : Sl) (w : World) (Q : Value → World → Prop) : F25 x0 x1 w Q = vc prog an25 (Try.f25.body.getD .skip) (envOf [.slice x0.a x0.l x0.c, .slice x1.a x1.l x1.c]) w (retK prog Try.f25 Q) := by kernel_rfl
theorem ok25 : codeOk Try.f25.ntmps (Try.f25.body.getD .skip) = true := by kernel_rfl
theorem W25 {x0 : Sl} {x1 : Sl} {w : World} {Q : Value → World → Prop} (h : F25 x0 x1 w Q) : Calls prog 25 #[.slice x0.a x0.l x0.c, .slice x1.a x1.l x1.c] w fun en w' => ∃ v, en = .returned v ∧ Q v w' :=
  calls_of_vc good follows an25 (args := [.slice x0.a x0.l x0.c, .slice x1.a x1.l x1.c]) Try.func25 (by kernel_rfl) ok25 (of_decide_eq_true (by kernel_rfl)) (Eq.mp (eq25 x0 x1 w Q) h)

/-- (*bastion/disk.Disk).lives -/
def F26 (x0 : Option Addr) (w : World) (Q : Value → World → Prop) : Prop :=
 ∃ b5 : Bool, BinIs prog .eql 24 (.tmp 4) (.const (.pointer none)) (.pointer x0) (.pointer none) b5 ∧
 IfB b5
 (Q (.int .i64 2) w)
 (∃ p8, x0 = some p8 ∧
 ∃ t10 : Bool, Ld w (p8.add 3) (.bool t10) ∧
 IfB t10
 (Q (.int .i64 20) w)
 (Q (.int .i64 0) w))
def an26 : Ann := { cut := fun i => none, loop := fun i => [] }
theorem eq26 (x0 : Option Addr) (w : World) (Q : Value → World → Prop) : F26 x0 w Q = vc prog an26 (Try.f26.body.getD .skip) (envOf [.pointer x0]) w (retK prog Try.f26 Q) := by kernel_rfl
theorem ok26 : codeOk Try.f26.ntmps (Try.f26.body.getD .skip) = true := by kernel_rfl
theorem W26 {x0 : Option Addr} {w : World} {Q : Value → World → Prop} (h : F26 x0 w Q) : Calls prog 26 #[.pointer x0] w fun en w' => ∃ v, en = .returned v ∧ Q v w' :=
  calls_of_vc good follows an26 (args := [.pointer x0]) Try.func26 (by kernel_rfl) ok26 (of_decide_eq_true (by kernel_rfl)) (Eq.mp (eq26 x0 w Q) h)

/-- slices.Clone[[]bastion/disk.block,bastion/disk.block] -/
def F27 (x0 : Sl) (w : World) (Q : Value → World → Prop) : Prop :=
 ∃ b4 : Bool, BinIs prog .eql 55 (.tmp 3) (.const (.slice none 0 0)) (.slice x0.a x0.l x0.c) (.slice none 0 0) b4 ∧
 IfB b4
 (Q (.slice none 0 0) w)
 (RunT prog .slice (Instr.buildSlice 55 0 #[]) w fun (t5 : Sl) w1 =>
 RunT prog .slice (Builtin.append_ #[55, 55] 55 #[.slice t5.a t5.l t5.c, .slice x0.a x0.l x0.c]) w1 fun (t7 : Sl) w1_1 =>
 Q (.slice t7.a t7.l t7.c) w1_1)
def an27 : Ann := { cut := fun i => none, loop := fun i => [] }
theorem eq27 (x0 : Sl) (w : World) (Q : Value → World → Prop) : F27 x0 w Q = vc prog an27 (Try.f27.body.getD .skip) (envOf [.slice x0.a x0.l x0.c]) w (retK prog Try.f27 Q) := by kernel_rfl
theorem ok27 : codeOk Try.f27.ntmps (Try.f27.body.getD .skip) = true := by kernel_rfl
theorem W27 {x0 : Sl} {w : World} {Q : Value → World → Prop} (h : F27 x0 w Q) : Calls prog 27 #[.slice x0.a x0.l x0.c] w fun en w' => ∃ v, en = .returned v ∧ Q v w' :=
  calls_of_vc good follows an27 (args := [.slice x0.a x0.l x0.c]) Try.func27 (by kernel_rfl) ok27 (of_decide_eq_true (by kernel_rfl)) (Eq.mp (eq27 x0 w Q) h)

/-- (*bastion/bastionref03.Disk).Block -/
def F28 (x0 : Option Addr) (x1 : Int) (w : World) (Q : Value → World → Prop) : Prop :=
 ∃ p7, x0 = some p7 ∧
 ∃ t9 : Sl, Ld w (p7.add 3) (.slice t9.a t9.l t9.c) ∧
 ∃ (I : Nat → Int → World → Prop) (n0 : Nat), I n0 (IntKind.wrap .i64 (((t9.l : Nat) : Int) - (1 : Int))) w ∧
 ∀ (n : Nat) (u : Env) (x5 : Int) (w1 : World), I n x5 w1 →
 IfB (decide (x5 ≥ (0 : Int)))
 (∃ p17, x0 = some p17 ∧
 ∃ t19 : Sl, Ld w1 (p17.add 3) (.slice t19.a t19.l t19.c) ∧
 ∃ p21, t19.a = some p21 ∧ 0 ≤ x5 ∧ x5 < ((t19.l : Nat) : Int) ∧
 ∃ t23 : Int, Ld w1 ((p21.add ((x5).toNat * 2)).add 0) (.int .i64 t23) ∧
 IfB (t23 == x1)
 (∃ p27, x0 = some p27 ∧
 ∃ t29 : Sl, Ld w1 (p27.add 3) (.slice t29.a t29.l t29.c) ∧
 ∃ p31, t29.a = some p31 ∧ 0 ≤ x5 ∧ x5 < ((t29.l : Nat) : Int) ∧
 ∃ t33 : ByteArray, Ld w1 ((p31.add ((x5).toNat * 2)).add 1) (.string t33) ∧
 RunT prog .slice (convert 9 31 (.string t33)) w1 fun (t34 : Sl) w1_1 =>
 Q (.slice t34.a t34.l t34.c) w1_1)
 (∃ n', n' < n ∧ I n' (IntKind.wrap .i64 (x5 - (1 : Int))) w1))
 (RunT prog .slice (Instr.makeSlice 31 (.int .i64 256) (.int .i64 256)) w1 fun (t35 : Sl) w1_1 =>
 Q (.slice t35.a t35.l t35.c) w1_1)
def an28 : Ann := { cut := fun i => none, loop := fun i => bif Nat.beq i 2 then [(5, .int .i64)] else [] }
theorem eq28 (x0 : Option Addr) (x1 : Int) (w : World) (Q : Value → World → Prop) : F28 x0 x1 w Q = vc prog an28 (Try.f28.body.getD .skip) (envOf [.pointer x0, .int .i64 x1]) w (retK prog Try.f28 Q) := by kernel_rfl
theorem ok28 : codeOk Try.f28.ntmps (Try.f28.body.getD .skip) = true := by kernel_rfl
theorem W28 {x0 : Option Addr} {x1 : Int} {w : World} {Q : Value → World → Prop} (h : F28 x0 x1 w Q) : Calls prog 28 #[.pointer x0, .int .i64 x1] w fun en w' => ∃ v, en = .returned v ∧ Q v w' :=
  calls_of_vc good follows an28 (args := [.pointer x0, .int .i64 x1]) Try.func28 (by kernel_rfl) ok28 (of_decide_eq_true (by kernel_rfl)) (Eq.mp (eq28 x0 x1 w Q) h)
end Go.Proofs.Ytlmnnofghimneaa

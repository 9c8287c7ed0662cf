/-  YtedkaegdfdcdaaaF: weakest preconditions of functions, by wip/gen/gen.py; each is held against the machine's code by the kernel. -/
import Derived.Test.YtedkaegdfdcdaaaV
import Derived.Test.YtedkaegdfdcdaaaProg
import Derived.Test.YtedkaegdfdcdaaaGood
import Derived.KernelRfl
set_option linter.unusedVariables false
set_option maxRecDepth 1000000
namespace Go.Proofs.Ytedkaegdfdcdaaa
open Go Go.Proofs.YtedkaegdfdcdaaaV

/-- bastion/bastionlaw06.NodeWrites -/
def F3 (x0 : Array Value) (x1 : ByteArray) (w : World) (Q : Value → World → Prop) : Prop :=
 ∀ b2 w1, NewB w (.cells x0 25) b2 w1 →
 ∃ t14 : Array Value, LdA w1 (⟨b2, 0, none⟩ : Addr) 4 t14 ∧
 Calls prog 9 #[.agg t14] w1 fun en w1_1 =>
 ∃ t15 : Bool, en = .returned (.bool t15) ∧
 IfB t15
 (Calls prog 10 #[] w1_1 fun en w1_2 =>
 ∃ t16 : Bool, en = .returned (.bool t16) ∧
 Q (.bool t16) w1_2)
 (∃ t17 : Array Value, LdA w1_1 (⟨b2, 0, none⟩ : Addr) 4 t17 ∧
 Calls prog 11 #[.agg t17] w1_1 fun en w1_2 =>
 ∃ t18 : Array Value, en = .returned (.agg t18) ∧
 ∀ b5 w1_3, NewB w1_2 (.cells #[.bool false, .slice none 0 0, .slice none 0 0, .slice none 0 0] 28) b5 w1_3 →
 t18.size = 4 ∧ (∀ u, u ∈ t18.toList → u.oneCell' = true) ∧ WrA w1_3 (⟨b5, 0, none⟩ : Addr) 4 ∧ ∀ w1_4, w1_4 = setAt w1_3 (⟨b5, 0, none⟩ : Addr) t18.toList 0 →
 ∃ t20 : Array Value, LdA w1_4 (⟨b5, 0, none⟩ : Addr) 4 t20 ∧
 Calls prog 12 #[.agg t20] w1_4 fun en w1_5 =>
 ∃ t21a : Sl, ∃ t21b : Int, en = .returned (.tuple #[.slice t21a.a t21a.l t21a.c, .int .i64 t21b]) ∧
 ∃ t25 : Array Value, LdA w1_5 (⟨b2, 0, none⟩ : Addr) 4 t25 ∧
 Calls prog 13 #[.agg t25] w1_5 fun en w1_6 =>
 ∃ t26a : Sl, ∃ t26b : Int, en = .returned (.tuple #[.slice t26a.a t26a.l t26a.c, .int .i64 t26b]) ∧
 ∃ t30 : Array Value, LdA w1_6 (⟨b5, 0, none⟩ : Addr) 4 t30 ∧
 Calls prog 14 #[.agg t30, .string x1] w1_6 fun en w1_7 =>
 ∃ t32a : Int, ∃ t32b : Bool, en = .returned (.tuple #[.int .i64 t32a, .bool t32b]) ∧
 ∃ t36 : Array Value, LdA w1_7 (⟨b2, 0, none⟩ : Addr) 4 t36 ∧
 Calls prog 15 #[.agg t36, .string x1] w1_7 fun en w1_8 =>
 ∃ t38a : Int, ∃ t38b : Bool, en = .returned (.tuple #[.int .i64 t38a, .bool t38b]) ∧
 ∃ J : Bool → World → Prop, (IfB (t21b != t26b)
 (J true w1_8)
 (RunT prog .str (convert 30 9 (.slice t21a.a t21a.l t21a.c)) w1_8 fun (t46 : ByteArray) w1_9 =>
 RunT prog .str (convert 30 9 (.slice t26a.a t26a.l t26a.c)) w1_9 fun (t48 : ByteArray) w1_10 =>
 IfB (!(t46.toList == t48.toList))
 (J true w1_10)
 (IfB (t32a != t38a)
 (J true w1_10)
 (∃ b59 : Bool, BinIs prog .neq 4 (.tmp 57) (.tmp 58) (.bool t32b) (.bool t38b) b59 ∧
 J b59 w1_10)))) ∧
 (∀ (u : Env) (x60 : Bool) (w1_9 : World), J x60 w1_9 →
 IfB x60
 (Q (.bool false) w1_9)
 (∃ S : World → Prop, S w1_9.drew ∧
 ∃ t61 : Array Value, (∀ w', S w' → LdA w' (⟨b5, 0, none⟩ : Addr) 4 t61) ∧
 ∃ t63 : Array Value, (∀ w', S w' → LdA w' (⟨b2, 0, none⟩ : Addr) 4 t63) ∧
 Calls prog 16 #[.agg t61] w1_9.drew fun en w1_10 =>
 ∃ t62 : Int, en = .returned (.int .i64 t62) ∧
 ∃ S_1 : World → Prop, (∀ w', S_1 w' → S w') ∧ S_1 w1_10 ∧
 Calls prog 17 #[.agg t63] w1_10 fun en w1_11 =>
 ∃ t64 : Int, en = .returned (.int .i64 t64) ∧
 ∃ S_2 : World → Prop, (∀ w', S_2 w' → S_1 w') ∧ S_2 w1_11 ∧
 IfB (t62 == t64)
 (∃ t67 : Array Value, (∀ w', S_2 w' → LdA w' (⟨b5, 0, none⟩ : Addr) 4 t67) ∧
 Calls prog 18 #[.agg t67] w1_11 fun en w1_12 =>
 ∃ t68 : Bool, en = .returned (.bool t68) ∧
 ∃ S_3 : World → Prop, (∀ w', S_3 w' → S_2 w') ∧ S_3 w1_12 ∧
 ∃ b71 : Bool, BinIs prog .eql 4 (.tmp 68) (.tmp 70) (.bool t68) (.bool (t26b == (0 : Int))) b71 ∧
 IfB b71
 (∃ t74 : Array Value, (∀ w', S_3 w' → LdA w' (⟨b5, 0, none⟩ : Addr) 4 t74) ∧
 ∃ t76 : Array Value, (∀ w', S_3 w' → LdA w' (⟨b2, 0, none⟩ : Addr) 4 t76) ∧
 Calls prog 20 #[.agg t74] w1_12 fun en w1_13 =>
 ∃ t75 : Array Value, en = .returned (.agg t75) ∧
 S_3 w1_13 ∧
 Calls prog 19 #[.agg t75, .agg t76] w1_13 fun en w1_14 =>
 ∃ t77 : Bool, en = .returned (.bool t77) ∧
 IfB t77
 (Calls prog 10 #[] w1_14 fun en w1_15 =>
 ∃ t80 : Bool, en = .returned (.bool t80) ∧
 Q (.bool t80) w1_15)
 (Q (.bool false) w1_14))
 (Q (.bool false) w1_12))
 (Q (.bool false) w1_11))))
def an3 : Ann := { cut := fun i => bif Nat.beq i 9 then some [(60, .bool)] else none, loop := fun i => [] }
theorem eq3 (x0 : Array Value) (x1 : ByteArray) (w : World) (Q : Value → World → Prop) : F3 x0 x1 w Q = vc prog an3 (Try.f3.body.getD .skip) (envOf [.agg x0, .string x1]) w (retK prog Try.f3 Q) := by kernel_rfl
theorem ok3 : codeOk Try.f3.ntmps (Try.f3.body.getD .skip) = true := by kernel_rfl
theorem W3 {x0 : Array Value} {x1 : ByteArray} {w : World} {Q : Value → World → Prop} (h : F3 x0 x1 w Q) : Calls prog 3 #[.agg x0, .string x1] w fun en w' => ∃ v, en = .returned v ∧ Q v w' :=
  calls_of_vc good follows an3 (args := [.agg x0, .string x1]) Try.func3 (by kernel_rfl) ok3 (of_decide_eq_true (by kernel_rfl)) (Eq.mp (eq3 x0 x1 w Q) h)

/-- bastion/bastionlaw06.NodeReads -/
def F4 (x0 : Sl) (w : World) (Q : Value → World → Prop) : Prop :=
 IfB (decide (((x0.l : Nat) : Int) > (2000 : Int)))
 (Calls prog 10 #[] w fun en w1 =>
 ∃ t15 : Bool, en = .returned (.bool t15) ∧
 Q (.bool t15) w1)
 (RunT prog .slice (Instr.buildSlice 30 0 #[]) w fun (t16 : Sl) w1 =>
 RunT prog .slice (Builtin.append_ #[30, 30] 30 #[.slice t16.a t16.l t16.c, .slice x0.a x0.l x0.c]) w1 fun (t18 : Sl) w1_1 =>
 Calls prog 21 #[.slice t18.a t18.l t18.c] w1_1 fun en w1_2 =>
 ∃ t21a : Array Value, ∃ t21b : Int, en = .returned (.tuple #[.agg t21a, .int .i64 t21b]) ∧
 ∀ b4 w1_3, NewB w1_2 (.cells #[.bool false, .slice none 0 0, .slice none 0 0, .slice none 0 0] 28) b4 w1_3 →
 t21a.size = 4 ∧ (∀ u, u ∈ t21a.toList → u.oneCell' = true) ∧ WrA w1_3 (⟨b4, 0, none⟩ : Addr) 4 ∧ ∀ w1_4, w1_4 = setAt w1_3 (⟨b4, 0, none⟩ : Addr) t21a.toList 0 →
 Calls prog 22 #[.slice x0.a x0.l x0.c] w1_4 fun en w1_5 =>
 ∃ t26a : Array Value, ∃ t26b : Int, en = .returned (.tuple #[.agg t26a, .int .i64 t26b]) ∧
 ∀ b6 w1_6, NewB w1_5 (.cells #[.bool false, .slice none 0 0, .slice none 0 0, .slice none 0 0] 25) b6 w1_6 →
 t26a.size = 4 ∧ (∀ u, u ∈ t26a.toList → u.oneCell' = true) ∧ WrA w1_6 (⟨b6, 0, none⟩ : Addr) 4 ∧ ∀ w1_7, w1_7 = setAt w1_6 (⟨b6, 0, none⟩ : Addr) t26a.toList 0 →
 ∃ J : Bool → World → Prop, (∃ S : World → Prop, S w1_7.drew ∧
 IfB (t21b != t26b)
 ((J true w1_7.drew) ∧
 (J true w1_7.drew))
 (∃ t33 : Array Value, (∀ w', S w' → LdA w' (⟨b4, 0, none⟩ : Addr) 4 t33) ∧
 ∃ t35 : Array Value, (∀ w', S w' → LdA w' (⟨b6, 0, none⟩ : Addr) 4 t35) ∧
 Calls prog 20 #[.agg t33] w1_7.drew fun en w1_8 =>
 ∃ t34 : Array Value, en = .returned (.agg t34) ∧
 S w1_8 ∧
 Calls prog 19 #[.agg t34, .agg t35] w1_8 fun en w1_9 =>
 ∃ t36 : Bool, en = .returned (.bool t36) ∧
 IfB (!t36)
 ((J true w1_9) ∧
 (J true w1_9))
 ((RunT prog .str (convert 30 9 (.slice t18.a t18.l t18.c)) w1_9 fun (t41 : ByteArray) w1_10 =>
 RunT prog .str (convert 30 9 (.slice x0.a x0.l x0.c)) w1_10 fun (t43 : ByteArray) w1_11 =>
 J (!(t41.toList == t43.toList)) w1_11) ∧
 (RunT prog .str (convert 30 9 (.slice x0.a x0.l x0.c)) w1_9 fun (t43 : ByteArray) w1_10 =>
 RunT prog .str (convert 30 9 (.slice t18.a t18.l t18.c)) w1_10 fun (t41 : ByteArray) w1_11 =>
 J (!(t41.toList == t43.toList)) w1_11)))) ∧
 (∀ (u : Env) (x45 : Bool) (w1_8 : World), J x45 w1_8 →
 IfB x45
 (Q (.bool false) w1_8)
 (∃ (I : Nat → Int → World → Prop) (n0 : Nat), I n0 (0 : Int) w1_8 ∧
 ∀ (n : Nat) (u_1 : Env) (x8 : Int) (w1_9 : World), I n x8 w1_9 →
 ∃ t48 : Sl, Ld w1_9 ((⟨b4, 0, none⟩ : Addr).add 1) (.slice t48.a t48.l t48.c) ∧
 IfB (decide (x8 < ((t48.l : Nat) : Int)))
 (∃ t54 : Sl, Ld w1_9 ((⟨b4, 0, none⟩ : Addr).add 1) (.slice t54.a t54.l t54.c) ∧
 ∃ p56, t54.a = some p56 ∧ 0 ≤ x8 ∧ x8 < ((t54.l : Nat) : Int) ∧
 Wr w1_9 (p56.add ((x8).toNat * 1)) ∧ ∀ w1_10, w1_10 = w1_9.setCell (p56.add ((x8).toNat * 1)) (.string (⟨#[115, 112, 111, 105, 108, 116]⟩ : ByteArray)) →
 ∃ n', n' < n ∧ I n' (IntKind.wrap .i64 (x8 + (1 : Int))) w1_10)
 (∃ (I_1 : Nat → Int → World → Prop) (n0_1 : Nat), I_1 n0_1 (0 : Int) w1_9 ∧
 ∀ (n_1 : Nat) (u_2 : Env) (x9 : Int) (w1_10 : World), I_1 n_1 x9 w1_10 →
 ∃ t59 : Sl, Ld w1_10 ((⟨b4, 0, none⟩ : Addr).add 3) (.slice t59.a t59.l t59.c) ∧
 IfB (decide (x9 < ((t59.l : Nat) : Int)))
 (∃ t65 : Sl, Ld w1_10 ((⟨b4, 0, none⟩ : Addr).add 3) (.slice t65.a t65.l t65.c) ∧
 ∃ p67, t65.a = some p67 ∧ 0 ≤ x9 ∧ x9 < ((t65.l : Nat) : Int) ∧
 Wr w1_10 (p67.add ((x9).toNat * 1)) ∧ ∀ w1_11, w1_11 = w1_10.setCell (p67.add ((x9).toNat * 1)) (.int .i64 (-1)) →
 ∃ n', n' < n_1 ∧ I_1 n' (IntKind.wrap .i64 (x9 + (1 : Int))) w1_11)
 (Calls prog 21 #[.slice t18.a t18.l t18.c] w1_10 fun en w1_11 =>
 ∃ t70a : Array Value, ∃ t70b : Int, en = .returned (.tuple #[.agg t70a, .int .i64 t70b]) ∧
 ∀ b10 w1_12, NewB w1_11 (.cells #[.bool false, .slice none 0 0, .slice none 0 0, .slice none 0 0] 28) b10 w1_12 →
 t70a.size = 4 ∧ (∀ u, u ∈ t70a.toList → u.oneCell' = true) ∧ WrA w1_12 (⟨b10, 0, none⟩ : Addr) 4 ∧ ∀ w1_13, w1_13 = setAt w1_12 (⟨b10, 0, none⟩ : Addr) t70a.toList 0 →
 ∃ S : World → Prop, S w1_13.drew ∧
 ∃ t73 : Array Value, (∀ w', S w' → LdA w' (⟨b10, 0, none⟩ : Addr) 4 t73) ∧
 ∃ t75 : Array Value, (∀ w', S w' → LdA w' (⟨b6, 0, none⟩ : Addr) 4 t75) ∧
 Calls prog 20 #[.agg t73] w1_13.drew fun en w1_14 =>
 ∃ t74 : Array Value, en = .returned (.agg t74) ∧
 S w1_14 ∧
 Calls prog 19 #[.agg t74, .agg t75] w1_14 fun en w1_15 =>
 ∃ t76 : Bool, en = .returned (.bool t76) ∧
 IfB t76
 (Calls prog 10 #[] w1_15 fun en w1_16 =>
 ∃ t78 : Bool, en = .returned (.bool t78) ∧
 Q (.bool t78) w1_16)
 (Q (.bool false) w1_15))))))
def an4 : Ann := { cut := fun i => bif Nat.beq i 7 then some [(45, .bool)] else none, loop := fun i => bif Nat.beq i 9 then [(8, .int .i64)] else bif Nat.beq i 13 then [(9, .int .i64)] else [] }
theorem eq4 (x0 : Sl) (w : World) (Q : Value → World → Prop) : F4 x0 w Q = vc prog an4 (Try.f4.body.getD .skip) (envOf [.slice x0.a x0.l x0.c]) w (retK prog Try.f4 Q) := by kernel_rfl
theorem ok4 : codeOk Try.f4.ntmps (Try.f4.body.getD .skip) = true := by kernel_rfl
theorem W4 {x0 : Sl} {w : World} {Q : Value → World → Prop} (h : F4 x0 w Q) : Calls prog 4 #[.slice x0.a x0.l x0.c] w fun en w' => ∃ v, en = .returned v ∧ Q v w' :=
  calls_of_vc good follows an4 (args := [.slice x0.a x0.l x0.c]) Try.func4 (by kernel_rfl) ok4 (of_decide_eq_true (by kernel_rfl)) (Eq.mp (eq4 x0 w Q) h)

/-- bastion/bastionlaw06.NodeNames -/
def F5 (w : World) (Q : Value → World → Prop) : Prop :=
 ∃ (I : Nat → ByteArray → ByteArray → Int → World → Prop) (n0 : Nat), I n0 (⟨#[]⟩ : ByteArray) (⟨#[]⟩ : ByteArray) (0 : Int) w ∧
 ∀ (n : Nat) (u : Env) (x1 : ByteArray) (x2 : ByteArray) (x3 : Int) (w1 : World), I n x1 x2 x3 w1 →
 IfB (decide (x3 < (32 : Int)))
 (x1.size + (⟨#[107]⟩ : ByteArray).size ≤ 9223372036854775807 ∧
 x2.size + (⟨#[118, 118]⟩ : ByteArray).size ≤ 9223372036854775807 ∧
 ∃ n', n' < n ∧ I n' (x1 ++ (⟨#[107]⟩ : ByteArray)) (x2 ++ (⟨#[118, 118]⟩ : ByteArray)) (IntKind.wrap .i64 (x3 + (1 : Int))) w1)
 (RunT prog .slice (Instr.buildSlice 22 2 #[(0, .string (⟨#[98]⟩ : ByteArray)), (1, .string (⟨#[97]⟩ : ByteArray))]) w1 fun (t37 : Sl) w1_1 =>
 RunT prog .slice (Instr.buildSlice 22 2 #[(0, .string (⟨#[]⟩ : ByteArray)), (1, .string (⟨#[]⟩ : ByteArray))]) w1_1 fun (t38 : Sl) w1_2 =>
 ∃ t39 : Array Value, BuildIs prog 28 #[(0, .bool true), (1, .slice t37.a t37.l t37.c), (2, .slice t38.a t38.l t38.c)] t39 ∧
 Calls prog 12 #[.agg t39] w1_2 fun en w1_3 =>
 ∃ t40a : Sl, ∃ t40b : Int, en = .returned (.tuple #[.slice t40a.a t40a.l t40a.c, .int .i64 t40b]) ∧
 (0 ≤ (1 : Int) ∧ (1 : Int) ≤ ((x1.size : Nat) : Int)) ∧
 (x1.extract 1 x1.size).size + (⟨#[97]⟩ : ByteArray).size ≤ 9223372036854775807 ∧
 (0 ≤ (1 : Int) ∧ (1 : Int) ≤ ((x1.size : Nat) : Int)) ∧
 (x1.extract 1 x1.size).size + (⟨#[98]⟩ : ByteArray).size ≤ 9223372036854775807 ∧
 (0 ≤ (1 : Int) ∧ (1 : Int) ≤ ((x1.size : Nat) : Int)) ∧
 (x1.extract 1 x1.size).size + (⟨#[99]⟩ : ByteArray).size ≤ 9223372036854775807 ∧
 (RunT prog .slice (Instr.buildSlice 22 3 #[(0, .string ((x1.extract 1 x1.size) ++ (⟨#[97]⟩ : ByteArray))), (1, .string ((x1.extract 1 x1.size) ++ (⟨#[98]⟩ : ByteArray))), (2, .string ((x1.extract 1 x1.size) ++ (⟨#[99]⟩ : ByteArray)))]) w1_3.drew fun (t53 : Sl) w1_4 =>
 RunT prog .slice (Instr.buildSlice 22 3 #[(0, .string x2), (1, .string x2), (2, .string x2)]) w1_4 fun (t57 : Sl) w1_5 =>
 ∃ t58 : Array Value, BuildIs prog 28 #[(0, .bool true), (1, .slice t53.a t53.l t53.c), (2, .slice t57.a t57.l t57.c)] t58 ∧
 Calls prog 12 #[.agg t58] w1_5 fun en w1_6 =>
 ∃ t59a : Sl, ∃ t59b : Int, en = .returned (.tuple #[.slice t59a.a t59a.l t59a.c, .int .i64 t59b]) ∧
 x1.size + (⟨#[107]⟩ : ByteArray).size ≤ 9223372036854775807 ∧
 RunT prog .slice (Instr.buildSlice 22 1 #[(0, .string (x1 ++ (⟨#[107]⟩ : ByteArray)))]) w1_6 fun (t65 : Sl) w1_7 =>
 RunT prog .slice (Instr.buildSlice 22 1 #[(0, .string (⟨#[]⟩ : ByteArray))]) w1_7 fun (t66 : Sl) w1_8 =>
 ∃ t67 : Array Value, BuildIs prog 28 #[(0, .bool true), (1, .slice t65.a t65.l t65.c), (2, .slice t66.a t66.l t66.c)] t67 ∧
 Calls prog 12 #[.agg t67] w1_8 fun en w1_9 =>
 ∃ t68a : Sl, ∃ t68b : Int, en = .returned (.tuple #[.slice t68a.a t68a.l t68a.c, .int .i64 t68b]) ∧
 RunT prog .slice (Instr.buildSlice 22 1 #[(0, .string x1)]) w1_9 fun (t73 : Sl) w1_10 =>
 x2.size + (⟨#[118]⟩ : ByteArray).size ≤ 9223372036854775807 ∧
 RunT prog .slice (Instr.buildSlice 22 1 #[(0, .string (x2 ++ (⟨#[118]⟩ : ByteArray)))]) w1_10 fun (t76 : Sl) w1_11 =>
 ∃ t77 : Array Value, BuildIs prog 28 #[(0, .bool true), (1, .slice t73.a t73.l t73.c), (2, .slice t76.a t76.l t76.c)] t77 ∧
 Calls prog 12 #[.agg t77] w1_11 fun en w1_12 =>
 ∃ t78a : Sl, ∃ t78b : Int, en = .returned (.tuple #[.slice t78a.a t78a.l t78a.c, .int .i64 t78b]) ∧
 RunT prog .slice (Instr.buildSlice 22 1 #[(0, .string x1)]) w1_12 fun (t83 : Sl) w1_13 =>
 RunT prog .slice (Instr.buildSlice 22 1 #[(0, .string x2)]) w1_13 fun (t85 : Sl) w1_14 =>
 ∃ t86 : Array Value, BuildIs prog 28 #[(0, .bool true), (1, .slice t83.a t83.l t83.c), (2, .slice t85.a t85.l t85.c)] t86 ∧
 Calls prog 12 #[.agg t86] w1_14 fun en w1_15 =>
 ∃ t87a : Sl, ∃ t87b : Int, en = .returned (.tuple #[.slice t87a.a t87a.l t87a.c, .int .i64 t87b]) ∧
 RunT prog .slice (Instr.buildSlice 30 1 #[(0, .int .u8 2)]) w1_15 fun (t91 : Sl) w1_16 =>
 RunT prog .slice (Builtin.append_ #[30, 3] 30 #[.slice t91.a t91.l t91.c, .int .i64 255]) w1_16 fun (t92 : Sl) w1_17 =>
 Calls prog 21 #[.slice t92.a t92.l t92.c] w1_17 fun en w1_18 =>
 ∃ t93a : Array Value, ∃ t93b : Int, en = .returned (.tuple #[.agg t93a, .int .i64 t93b]) ∧
 ∀ b14 w1_19, NewB w1_18 (.cells #[.bool false, .slice none 0 0, .slice none 0 0, .slice none 0 0] 28) b14 w1_19 →
 t93a.size = 4 ∧ (∀ u, u ∈ t93a.toList → u.oneCell' = true) ∧ WrA w1_19 (⟨b14, 0, none⟩ : Addr) 4 ∧ ∀ w1_20, w1_20 = setAt w1_19 (⟨b14, 0, none⟩ : Addr) t93a.toList 0 →
 Calls prog 21 #[.slice none 0 0] w1_20 fun en w1_21 =>
 ∃ t97a : Array Value, ∃ t97b : Int, en = .returned (.tuple #[.agg t97a, .int .i64 t97b]) ∧
 ∀ b16 w1_22, NewB w1_21 (.cells #[.bool false, .slice none 0 0, .slice none 0 0, .slice none 0 0] 28) b16 w1_22 →
 t97a.size = 4 ∧ (∀ u, u ∈ t97a.toList → u.oneCell' = true) ∧ WrA w1_22 (⟨b16, 0, none⟩ : Addr) 4 ∧ ∀ w1_23, w1_23 = setAt w1_22 (⟨b16, 0, none⟩ : Addr) t97a.toList 0 →
 ∃ t101 : Array Value, BuildIs prog 28 #[] t101 ∧
 Calls prog 12 #[.agg t101] w1_23 fun en w1_24 =>
 ∃ t102a : Sl, ∃ t102b : Int, en = .returned (.tuple #[.slice t102a.a t102a.l t102a.c, .int .i64 t102b]) ∧
 RunT prog .slice (Instr.buildSlice 23 1 #[(0, .int .i64 32768)]) w1_24 fun (t106 : Sl) w1_25 =>
 ∃ t107 : Array Value, BuildIs prog 28 #[(3, .slice t106.a t106.l t106.c)] t107 ∧
 Calls prog 12 #[.agg t107] w1_25 fun en w1_26 =>
 ∃ t108a : Sl, ∃ t108b : Int, en = .returned (.tuple #[.slice t108a.a t108a.l t108a.c, .int .i64 t108b]) ∧
 RunT prog .slice (Instr.buildSlice 23 1 #[(0, .int .i64 32769)]) w1_26 fun (t112 : Sl) w1_27 =>
 ∃ t113 : Array Value, BuildIs prog 28 #[(3, .slice t112.a t112.l t112.c)] t113 ∧
 Calls prog 12 #[.agg t113] w1_27 fun en w1_28 =>
 ∃ t114a : Sl, ∃ t114b : Int, en = .returned (.tuple #[.slice t114a.a t114a.l t114a.c, .int .i64 t114b]) ∧
 RunT prog .slice (Instr.buildSlice 22 2 #[(0, .string (⟨#[97]⟩ : ByteArray)), (1, .string (⟨#[97]⟩ : ByteArray))]) w1_28 fun (t118 : Sl) w1_29 =>
 RunT prog .slice (Instr.buildSlice 22 2 #[(0, .string (⟨#[]⟩ : ByteArray)), (1, .string (⟨#[]⟩ : ByteArray))]) w1_29 fun (t119 : Sl) w1_30 =>
 ∃ t120 : Array Value, BuildIs prog 28 #[(0, .bool true), (1, .slice t118.a t118.l t118.c), (2, .slice t119.a t119.l t119.c)] t120 ∧
 Calls prog 12 #[.agg t120] w1_30 fun en w1_31 =>
 ∃ t121a : Sl, ∃ t121b : Int, en = .returned (.tuple #[.slice t121a.a t121a.l t121a.c, .int .i64 t121b]) ∧
 RunT prog .slice (Instr.buildSlice 22 1 #[(0, .string (⟨#[]⟩ : ByteArray))]) w1_31 fun (t125 : Sl) w1_32 =>
 RunT prog .slice (Instr.buildSlice 22 1 #[(0, .string (⟨#[]⟩ : ByteArray))]) w1_32 fun (t126 : Sl) w1_33 =>
 ∃ t127 : Array Value, BuildIs prog 28 #[(0, .bool true), (1, .slice t125.a t125.l t125.c), (2, .slice t126.a t126.l t126.c)] t127 ∧
 Calls prog 12 #[.agg t127] w1_33 fun en w1_34 =>
 ∃ t128a : Sl, ∃ t128b : Int, en = .returned (.tuple #[.slice t128a.a t128a.l t128a.c, .int .i64 t128b]) ∧
 IfB (t40b == (1 : Int))
 (IfB (t59b == (3 : Int))
 (IfB (t68b == (1 : Int))
 (IfB (t78b == (1 : Int))
 (IfB (t87b == (0 : Int))
 (IfB (t93b == (4 : Int))
 (IfB (t97b == (4 : Int))
 (IfB (t102b == (1 : Int))
 (IfB (t108b == (0 : Int))
 (IfB (t114b == (1 : Int))
 (IfB (t121b == (1 : Int))
 (IfB (t128b == (1 : Int))
 (Calls prog 10 #[] w1_34 fun en w1_35 =>
 ∃ t184 : Bool, en = .returned (.bool t184) ∧
 Q (.bool t184) w1_35)
 (Q (.bool false) w1_34))
 (Q (.bool false) w1_34))
 (Q (.bool false) w1_34))
 (Q (.bool false) w1_34))
 (Q (.bool false) w1_34))
 (Q (.bool false) w1_34))
 (Q (.bool false) w1_34))
 (Q (.bool false) w1_34))
 (Q (.bool false) w1_34))
 (Q (.bool false) w1_34))
 (Q (.bool false) w1_34))
 (Q (.bool false) w1_34)) ∧
 (RunT prog .slice (Instr.buildSlice 22 3 #[(0, .string x2), (1, .string x2), (2, .string x2)]) w1_3.drew fun (t57 : Sl) w1_4 =>
 RunT prog .slice (Instr.buildSlice 22 3 #[(0, .string ((x1.extract 1 x1.size) ++ (⟨#[97]⟩ : ByteArray))), (1, .string ((x1.extract 1 x1.size) ++ (⟨#[98]⟩ : ByteArray))), (2, .string ((x1.extract 1 x1.size) ++ (⟨#[99]⟩ : ByteArray)))]) w1_4 fun (t53 : Sl) w1_5 =>
 ∃ t58 : Array Value, BuildIs prog 28 #[(0, .bool true), (1, .slice t53.a t53.l t53.c), (2, .slice t57.a t57.l t57.c)] t58 ∧
 Calls prog 12 #[.agg t58] w1_5 fun en w1_6 =>
 ∃ t59a : Sl, ∃ t59b : Int, en = .returned (.tuple #[.slice t59a.a t59a.l t59a.c, .int .i64 t59b]) ∧
 x1.size + (⟨#[107]⟩ : ByteArray).size ≤ 9223372036854775807 ∧
 RunT prog .slice (Instr.buildSlice 22 1 #[(0, .string (x1 ++ (⟨#[107]⟩ : ByteArray)))]) w1_6 fun (t65 : Sl) w1_7 =>
 RunT prog .slice (Instr.buildSlice 22 1 #[(0, .string (⟨#[]⟩ : ByteArray))]) w1_7 fun (t66 : Sl) w1_8 =>
 ∃ t67 : Array Value, BuildIs prog 28 #[(0, .bool true), (1, .slice t65.a t65.l t65.c), (2, .slice t66.a t66.l t66.c)] t67 ∧
 Calls prog 12 #[.agg t67] w1_8 fun en w1_9 =>
 ∃ t68a : Sl, ∃ t68b : Int, en = .returned (.tuple #[.slice t68a.a t68a.l t68a.c, .int .i64 t68b]) ∧
 RunT prog .slice (Instr.buildSlice 22 1 #[(0, .string x1)]) w1_9 fun (t73 : Sl) w1_10 =>
 x2.size + (⟨#[118]⟩ : ByteArray).size ≤ 9223372036854775807 ∧
 RunT prog .slice (Instr.buildSlice 22 1 #[(0, .string (x2 ++ (⟨#[118]⟩ : ByteArray)))]) w1_10 fun (t76 : Sl) w1_11 =>
 ∃ t77 : Array Value, BuildIs prog 28 #[(0, .bool true), (1, .slice t73.a t73.l t73.c), (2, .slice t76.a t76.l t76.c)] t77 ∧
 Calls prog 12 #[.agg t77] w1_11 fun en w1_12 =>
 ∃ t78a : Sl, ∃ t78b : Int, en = .returned (.tuple #[.slice t78a.a t78a.l t78a.c, .int .i64 t78b]) ∧
 RunT prog .slice (Instr.buildSlice 22 1 #[(0, .string x1)]) w1_12 fun (t83 : Sl) w1_13 =>
 RunT prog .slice (Instr.buildSlice 22 1 #[(0, .string x2)]) w1_13 fun (t85 : Sl) w1_14 =>
 ∃ t86 : Array Value, BuildIs prog 28 #[(0, .bool true), (1, .slice t83.a t83.l t83.c), (2, .slice t85.a t85.l t85.c)] t86 ∧
 Calls prog 12 #[.agg t86] w1_14 fun en w1_15 =>
 ∃ t87a : Sl, ∃ t87b : Int, en = .returned (.tuple #[.slice t87a.a t87a.l t87a.c, .int .i64 t87b]) ∧
 RunT prog .slice (Instr.buildSlice 30 1 #[(0, .int .u8 2)]) w1_15 fun (t91 : Sl) w1_16 =>
 RunT prog .slice (Builtin.append_ #[30, 3] 30 #[.slice t91.a t91.l t91.c, .int .i64 255]) w1_16 fun (t92 : Sl) w1_17 =>
 Calls prog 21 #[.slice t92.a t92.l t92.c] w1_17 fun en w1_18 =>
 ∃ t93a : Array Value, ∃ t93b : Int, en = .returned (.tuple #[.agg t93a, .int .i64 t93b]) ∧
 ∀ b14 w1_19, NewB w1_18 (.cells #[.bool false, .slice none 0 0, .slice none 0 0, .slice none 0 0] 28) b14 w1_19 →
 t93a.size = 4 ∧ (∀ u, u ∈ t93a.toList → u.oneCell' = true) ∧ WrA w1_19 (⟨b14, 0, none⟩ : Addr) 4 ∧ ∀ w1_20, w1_20 = setAt w1_19 (⟨b14, 0, none⟩ : Addr) t93a.toList 0 →
 Calls prog 21 #[.slice none 0 0] w1_20 fun en w1_21 =>
 ∃ t97a : Array Value, ∃ t97b : Int, en = .returned (.tuple #[.agg t97a, .int .i64 t97b]) ∧
 ∀ b16 w1_22, NewB w1_21 (.cells #[.bool false, .slice none 0 0, .slice none 0 0, .slice none 0 0] 28) b16 w1_22 →
 t97a.size = 4 ∧ (∀ u, u ∈ t97a.toList → u.oneCell' = true) ∧ WrA w1_22 (⟨b16, 0, none⟩ : Addr) 4 ∧ ∀ w1_23, w1_23 = setAt w1_22 (⟨b16, 0, none⟩ : Addr) t97a.toList 0 →
 ∃ t101 : Array Value, BuildIs prog 28 #[] t101 ∧
 Calls prog 12 #[.agg t101] w1_23 fun en w1_24 =>
 ∃ t102a : Sl, ∃ t102b : Int, en = .returned (.tuple #[.slice t102a.a t102a.l t102a.c, .int .i64 t102b]) ∧
 RunT prog .slice (Instr.buildSlice 23 1 #[(0, .int .i64 32768)]) w1_24 fun (t106 : Sl) w1_25 =>
 ∃ t107 : Array Value, BuildIs prog 28 #[(3, .slice t106.a t106.l t106.c)] t107 ∧
 Calls prog 12 #[.agg t107] w1_25 fun en w1_26 =>
 ∃ t108a : Sl, ∃ t108b : Int, en = .returned (.tuple #[.slice t108a.a t108a.l t108a.c, .int .i64 t108b]) ∧
 RunT prog .slice (Instr.buildSlice 23 1 #[(0, .int .i64 32769)]) w1_26 fun (t112 : Sl) w1_27 =>
 ∃ t113 : Array Value, BuildIs prog 28 #[(3, .slice t112.a t112.l t112.c)] t113 ∧
 Calls prog 12 #[.agg t113] w1_27 fun en w1_28 =>
 ∃ t114a : Sl, ∃ t114b : Int, en = .returned (.tuple #[.slice t114a.a t114a.l t114a.c, .int .i64 t114b]) ∧
 RunT prog .slice (Instr.buildSlice 22 2 #[(0, .string (⟨#[97]⟩ : ByteArray)), (1, .string (⟨#[97]⟩ : ByteArray))]) w1_28 fun (t118 : Sl) w1_29 =>
 RunT prog .slice (Instr.buildSlice 22 2 #[(0, .string (⟨#[]⟩ : ByteArray)), (1, .string (⟨#[]⟩ : ByteArray))]) w1_29 fun (t119 : Sl) w1_30 =>
 ∃ t120 : Array Value, BuildIs prog 28 #[(0, .bool true), (1, .slice t118.a t118.l t118.c), (2, .slice t119.a t119.l t119.c)] t120 ∧
 Calls prog 12 #[.agg t120] w1_30 fun en w1_31 =>
 ∃ t121a : Sl, ∃ t121b : Int, en = .returned (.tuple #[.slice t121a.a t121a.l t121a.c, .int .i64 t121b]) ∧
 RunT prog .slice (Instr.buildSlice 22 1 #[(0, .string (⟨#[]⟩ : ByteArray))]) w1_31 fun (t125 : Sl) w1_32 =>
 RunT prog .slice (Instr.buildSlice 22 1 #[(0, .string (⟨#[]⟩ : ByteArray))]) w1_32 fun (t126 : Sl) w1_33 =>
 ∃ t127 : Array Value, BuildIs prog 28 #[(0, .bool true), (1, .slice t125.a t125.l t125.c), (2, .slice t126.a t126.l t126.c)] t127 ∧
 Calls prog 12 #[.agg t127] w1_33 fun en w1_34 =>
 ∃ t128a : Sl, ∃ t128b : Int, en = .returned (.tuple #[.slice t128a.a t128a.l t128a.c, .int .i64 t128b]) ∧
 IfB (t40b == (1 : Int))
 (IfB (t59b == (3 : Int))
 (IfB (t68b == (1 : Int))
 (IfB (t78b == (1 : Int))
 (IfB (t87b == (0 : Int))
 (IfB (t93b == (4 : Int))
 (IfB (t97b == (4 : Int))
 (IfB (t102b == (1 : Int))
 (IfB (t108b == (0 : Int))
 (IfB (t114b == (1 : Int))
 (IfB (t121b == (1 : Int))
 (IfB (t128b == (1 : Int))
 (Calls prog 10 #[] w1_34 fun en w1_35 =>
 ∃ t184 : Bool, en = .returned (.bool t184) ∧
 Q (.bool t184) w1_35)
 (Q (.bool false) w1_34))
 (Q (.bool false) w1_34))
 (Q (.bool false) w1_34))
 (Q (.bool false) w1_34))
 (Q (.bool false) w1_34))
 (Q (.bool false) w1_34))
 (Q (.bool false) w1_34))
 (Q (.bool false) w1_34))
 (Q (.bool false) w1_34))
 (Q (.bool false) w1_34))
 (Q (.bool false) w1_34))
 (Q (.bool false) w1_34)))
def an5 : Ann := { cut := fun i => none, loop := fun i => bif Nat.beq i 3 then [(1, .str), (2, .str), (3, .int .i64)] else [] }
theorem eq5 (w : World) (Q : Value → World → Prop) : F5  w Q = vc prog an5 (Try.f5.body.getD .skip) (envOf []) w (retK prog Try.f5 Q) := by kernel_rfl
theorem ok5 : codeOk Try.f5.ntmps (Try.f5.body.getD .skip) = true := by kernel_rfl
theorem W5 {w : World} {Q : Value → World → Prop} (h : F5  w Q) : Calls prog 5 #[] w fun en w' => ∃ v, en = .returned v ∧ Q v w' :=
  calls_of_vc good follows an5 (args := []) Try.func5 (by kernel_rfl) ok5 (of_decide_eq_true (by kernel_rfl)) (Eq.mp (eq5  w Q) h)

/-- bastion/bastionlaw06.NodeBack -/
def F6 (x0 : Array Value) (x1 : Sl) (w : World) (Q : Value → World → Prop) : Prop :=
 ∀ b2 w1, NewB w (.cells x0 25) b2 w1 →
 ∃ J : Bool → World → Prop, (∃ t10 : Array Value, LdA w1 (⟨b2, 0, none⟩ : Addr) 4 t10 ∧
 Calls prog 9 #[.agg t10] w1 fun en w1_1 =>
 ∃ t11 : Bool, en = .returned (.bool t11) ∧
 IfB t11
 (J true w1_1)
 (IfB (decide (((x1.l : Nat) : Int) > (2000 : Int)))
 (J true w1_1)
 (Calls prog 10 #[] w1_1 fun en w1_2 =>
 ∃ t18 : Bool, en = .returned (.bool t18) ∧
 J (!t18) w1_2))) ∧
 (∀ (u : Env) (x20 : Bool) (w1_1 : World), J x20 w1_1 →
 IfB x20
 (Calls prog 10 #[] w1_1 fun en w1_2 =>
 ∃ t21 : Bool, en = .returned (.bool t21) ∧
 Q (.bool t21) w1_2)
 (∃ t23 : Array Value, LdA w1_1 (⟨b2, 0, none⟩ : Addr) 4 t23 ∧
 Calls prog 11 #[.agg t23] w1_1 fun en w1_2 =>
 ∃ t24 : Array Value, en = .returned (.agg t24) ∧
 Calls prog 12 #[.agg t24] w1_2 fun en w1_3 =>
 ∃ t25a : Sl, ∃ t25b : Int, en = .returned (.tuple #[.slice t25a.a t25a.l t25a.c, .int .i64 t25b]) ∧
 IfB (t25b == (0 : Int))
 (Calls prog 21 #[.slice t25a.a t25a.l t25a.c] w1_3 fun en w1_4 =>
 ∃ t32a : Array Value, ∃ t32b : Int, en = .returned (.tuple #[.agg t32a, .int .i64 t32b]) ∧
 ∀ b7 w1_5, NewB w1_4 (.cells #[.bool false, .slice none 0 0, .slice none 0 0, .slice none 0 0] 28) b7 w1_5 →
 t32a.size = 4 ∧ (∀ u, u ∈ t32a.toList → u.oneCell' = true) ∧ WrA w1_5 (⟨b7, 0, none⟩ : Addr) 4 ∧ ∀ w1_6, w1_6 = setAt w1_5 (⟨b7, 0, none⟩ : Addr) t32a.toList 0 →
 ∃ J_1 : Bool → World → Prop, (∃ S : World → Prop, S w1_6.drew ∧
 IfB (t32b != (0 : Int))
 (J_1 true w1_6.drew)
 (∃ t38 : Array Value, (∀ w', S w' → LdA w' (⟨b7, 0, none⟩ : Addr) 4 t38) ∧
 ∃ t40 : Array Value, (∀ w', S w' → LdA w' (⟨b2, 0, none⟩ : Addr) 4 t40) ∧
 Calls prog 20 #[.agg t38] w1_6.drew fun en w1_7 =>
 ∃ t39 : Array Value, en = .returned (.agg t39) ∧
 S w1_7 ∧
 Calls prog 19 #[.agg t39, .agg t40] w1_7 fun en w1_8 =>
 ∃ t41 : Bool, en = .returned (.bool t41) ∧
 IfB (!t41)
 (J_1 true w1_8)
 (J_1 (((t25a.l : Nat) : Int) != (256 : Int)) w1_8))) ∧
 (∀ (u_1 : Env) (x48 : Bool) (w1_7 : World), J_1 x48 w1_7 →
 IfB x48
 (Q (.bool false) w1_7)
 (Calls prog 21 #[.slice x1.a x1.l x1.c] w1_7 fun en w1_8 =>
 ∃ t51a : Array Value, ∃ t51b : Int, en = .returned (.tuple #[.agg t51a, .int .i64 t51b]) ∧
 ∀ b9 w1_9, NewB w1_8 (.cells #[.bool false, .slice none 0 0, .slice none 0 0, .slice none 0 0] 28) b9 w1_9 →
 t51a.size = 4 ∧ (∀ u, u ∈ t51a.toList → u.oneCell' = true) ∧ WrA w1_9 (⟨b9, 0, none⟩ : Addr) 4 ∧ ∀ w1_10, w1_10 = setAt w1_9 (⟨b9, 0, none⟩ : Addr) t51a.toList 0 →
 IfB (t51b != (0 : Int))
 (Q (.bool true) w1_10)
 (∃ t57 : Array Value, LdA w1_10 (⟨b9, 0, none⟩ : Addr) 4 t57 ∧
 Calls prog 12 #[.agg t57] w1_10 fun en w1_11 =>
 ∃ t58a : Sl, ∃ t58b : Int, en = .returned (.tuple #[.slice t58a.a t58a.l t58a.c, .int .i64 t58b]) ∧
 IfB (t58b == (0 : Int))
 (RunT prog .str (convert 30 9 (.slice t58a.a t58a.l t58a.c)) w1_11 fun (t65 : ByteArray) w1_12 =>
 RunT prog .str (convert 30 9 (.slice x1.a x1.l x1.c)) w1_12 fun (t67 : ByteArray) w1_13 =>
 Q (.bool (t65.toList == t67.toList)) w1_13)
 (Q (.bool false) w1_11)))))
 (Calls prog 21 #[.slice x1.a x1.l x1.c] w1_3 fun en w1_4 =>
 ∃ t51a : Array Value, ∃ t51b : Int, en = .returned (.tuple #[.agg t51a, .int .i64 t51b]) ∧
 ∀ b9 w1_5, NewB w1_4 (.cells #[.bool false, .slice none 0 0, .slice none 0 0, .slice none 0 0] 28) b9 w1_5 →
 t51a.size = 4 ∧ (∀ u, u ∈ t51a.toList → u.oneCell' = true) ∧ WrA w1_5 (⟨b9, 0, none⟩ : Addr) 4 ∧ ∀ w1_6, w1_6 = setAt w1_5 (⟨b9, 0, none⟩ : Addr) t51a.toList 0 →
 IfB (t51b != (0 : Int))
 (Q (.bool true) w1_6)
 (∃ t57 : Array Value, LdA w1_6 (⟨b9, 0, none⟩ : Addr) 4 t57 ∧
 Calls prog 12 #[.agg t57] w1_6 fun en w1_7 =>
 ∃ t58a : Sl, ∃ t58b : Int, en = .returned (.tuple #[.slice t58a.a t58a.l t58a.c, .int .i64 t58b]) ∧
 IfB (t58b == (0 : Int))
 (RunT prog .str (convert 30 9 (.slice t58a.a t58a.l t58a.c)) w1_7 fun (t65 : ByteArray) w1_8 =>
 RunT prog .str (convert 30 9 (.slice x1.a x1.l x1.c)) w1_8 fun (t67 : ByteArray) w1_9 =>
 Q (.bool (t65.toList == t67.toList)) w1_9)
 (Q (.bool false) w1_7)))))
def an6 : Ann := { cut := fun i => bif Nat.beq i 2 then some [(20, .bool)] else bif Nat.beq i 7 then some [(48, .bool)] else none, loop := fun i => [] }
theorem eq6 (x0 : Array Value) (x1 : Sl) (w : World) (Q : Value → World → Prop) : F6 x0 x1 w Q = vc prog an6 (Try.f6.body.getD .skip) (envOf [.agg x0, .slice x1.a x1.l x1.c]) w (retK prog Try.f6 Q) := by kernel_rfl
theorem ok6 : codeOk Try.f6.ntmps (Try.f6.body.getD .skip) = true := by kernel_rfl
theorem W6 {x0 : Array Value} {x1 : Sl} {w : World} {Q : Value → World → Prop} (h : F6 x0 x1 w Q) : Calls prog 6 #[.agg x0, .slice x1.a x1.l x1.c] w fun en w' => ∃ v, en = .returned v ∧ Q v w' :=
  calls_of_vc good follows an6 (args := [.agg x0, .slice x1.a x1.l x1.c]) Try.func6 (by kernel_rfl) ok6 (of_decide_eq_true (by kernel_rfl)) (Eq.mp (eq6 x0 x1 w Q) h)

/-- bastion/bastionlaw06.NodeRoom -/
def F7 (x0 : Array Value) (x1 : Int) (w : World) (Q : Value → World → Prop) : Prop :=
 ∀ b2 w1, NewB w (.cells x0 25) b2 w1 →
 ∃ J : Bool → World → Prop, (∃ t7 : Array Value, LdA w1 (⟨b2, 0, none⟩ : Addr) 4 t7 ∧
 Calls prog 9 #[.agg t7] w1 fun en w1_1 =>
 ∃ t8 : Bool, en = .returned (.bool t8) ∧
 IfB t8
 (J true w1_1)
 (Calls prog 10 #[] w1_1 fun en w1_2 =>
 ∃ t10 : Bool, en = .returned (.bool t10) ∧
 J (!t10) w1_2)) ∧
 (∀ (u : Env) (x12 : Bool) (w1_1 : World), J x12 w1_1 →
 IfB x12
 (Calls prog 10 #[] w1_1 fun en w1_2 =>
 ∃ t13 : Bool, en = .returned (.bool t13) ∧
 Q (.bool t13) w1_2)
 (∃ t14 : Array Value, LdA w1_1 (⟨b2, 0, none⟩ : Addr) 4 t14 ∧
 Calls prog 11 #[.agg t14] w1_1 fun en w1_2 =>
 ∃ t15 : Array Value, en = .returned (.agg t15) ∧
 Calls prog 16 #[.agg t15] w1_2 fun en w1_3 =>
 ∃ t16 : Int, en = .returned (.int .i64 t16) ∧
 ∃ J_1 : Bool → World → Prop, (IfB (decide (t16 > (0 : Int)))
 (∃ t21 : Bool, Ld w1_3 ((⟨b2, 0, none⟩ : Addr).add 0) (.bool t21) ∧
 IfB t21
 (∃ t24 : Sl, Ld w1_3 ((⟨b2, 0, none⟩ : Addr).add 1) (.slice t24.a t24.l t24.c) ∧
 IfB (decide (((t24.l : Nat) : Int) ≤ (2 : Int)))
 (∃ t41 : Array Value, LdA w1_3 (⟨b2, 0, none⟩ : Addr) 4 t41 ∧
 Calls prog 11 #[.agg t41] w1_3 fun en w1_4 =>
 ∃ t42 : Array Value, en = .returned (.agg t42) ∧
 Calls prog 18 #[.agg t42] w1_4 fun en w1_5 =>
 ∃ t43 : Bool, en = .returned (.bool t43) ∧
 J_1 (!t43) w1_5)
 (∃ t30 : Bool, Ld w1_3 ((⟨b2, 0, none⟩ : Addr).add 0) (.bool t30) ∧
 IfB (!t30)
 (∃ t34 : Sl, Ld w1_3 ((⟨b2, 0, none⟩ : Addr).add 1) (.slice t34.a t34.l t34.c) ∧
 IfB (decide (((t34.l : Nat) : Int) ≤ (6 : Int)))
 (∃ t41 : Array Value, LdA w1_3 (⟨b2, 0, none⟩ : Addr) 4 t41 ∧
 Calls prog 11 #[.agg t41] w1_3 fun en w1_4 =>
 ∃ t42 : Array Value, en = .returned (.agg t42) ∧
 Calls prog 18 #[.agg t42] w1_4 fun en w1_5 =>
 ∃ t43 : Bool, en = .returned (.bool t43) ∧
 J_1 (!t43) w1_5)
 (J_1 false w1_3))
 (J_1 false w1_3)))
 (∃ t30 : Bool, Ld w1_3 ((⟨b2, 0, none⟩ : Addr).add 0) (.bool t30) ∧
 IfB (!t30)
 (∃ t34 : Sl, Ld w1_3 ((⟨b2, 0, none⟩ : Addr).add 1) (.slice t34.a t34.l t34.c) ∧
 IfB (decide (((t34.l : Nat) : Int) ≤ (6 : Int)))
 (∃ t41 : Array Value, LdA w1_3 (⟨b2, 0, none⟩ : Addr) 4 t41 ∧
 Calls prog 11 #[.agg t41] w1_3 fun en w1_4 =>
 ∃ t42 : Array Value, en = .returned (.agg t42) ∧
 Calls prog 18 #[.agg t42] w1_4 fun en w1_5 =>
 ∃ t43 : Bool, en = .returned (.bool t43) ∧
 J_1 (!t43) w1_5)
 (J_1 false w1_3))
 (J_1 false w1_3)))
 (J_1 false w1_3)) ∧
 (∀ (u_1 : Env) (x45 : Bool) (w1_4 : World), J_1 x45 w1_4 →
 IfB x45
 (Q (.bool false) w1_4)
 (∃ J_2 : Bool → World → Prop, (∃ t46 : Array Value, LdA w1_4 (⟨b2, 0, none⟩ : Addr) 4 t46 ∧
 Calls prog 11 #[.agg t46] w1_4 fun en w1_5 =>
 ∃ t47 : Array Value, en = .returned (.agg t47) ∧
 Calls prog 18 #[.agg t47] w1_5 fun en w1_6 =>
 ∃ t48 : Bool, en = .returned (.bool t48) ∧
 IfB (!t48)
 (J_2 true w1_6)
 (∃ t52 : Sl, Ld w1_6 ((⟨b2, 0, none⟩ : Addr).add 1) (.slice t52.a t52.l t52.c) ∧
 J_2 (((t52.l : Nat) : Int) == (0 : Int)) w1_6)) ∧
 (∀ (u_2 : Env) (x55 : Bool) (w1_5 : World), J_2 x55 w1_5 →
 IfB x55
 (Q (.bool true) w1_5)
 (∃ S : World → Prop, S w1_5.drew ∧
 ∃ t56 : Array Value, (∀ w', S w' → LdA w' (⟨b2, 0, none⟩ : Addr) 4 t56) ∧
 ∃ t60 : Sl, (∀ w', S w' → Ld w' ((⟨b2, 0, none⟩ : Addr).add 1) (.slice t60.a t60.l t60.c)) ∧
 IntKind.wrap .u64 ((t60.l : Nat) : Int) ≠ 0 ∧
 (Calls prog 23 #[.agg t56, .int .i64 (IntKind.wrap .i64 (Int.tmod (IntKind.wrap .u64 x1) (IntKind.wrap .u64 ((t60.l : Nat) : Int))))] w1_5.drew fun en w1_6 =>
 ∃ t65 : Array Value, en = .returned (.agg t65) ∧
 ∀ b6 w1_7, NewB w1_6 (.cells #[.bool false, .slice none 0 0, .slice none 0 0, .slice none 0 0] 25) b6 w1_7 →
 TrueW w1_7 ∧
 t65.size = 4 ∧ (∀ u, u ∈ t65.toList → u.oneCell' = true) ∧ WrA w1_7 (⟨b6, 0, none⟩ : Addr) 4 ∧ ∀ w1_8, w1_8 = setAt w1_7 (⟨b6, 0, none⟩ : Addr) t65.toList 0 →
 ∃ S_1 : World → Prop, S_1 w1_8.drew ∧
 ∃ t66 : Array Value, (∀ w', S_1 w' → LdA w' (⟨b6, 0, none⟩ : Addr) 4 t66) ∧
 Calls prog 11 #[.agg t66] w1_8.drew fun en w1_9 =>
 ∃ t67 : Array Value, en = .returned (.agg t67) ∧
 ∃ S_2 : World → Prop, (∀ w', S_2 w' → S_1 w') ∧ S_2 w1_9 ∧
 Calls prog 18 #[.agg t67] w1_9 fun en w1_10 =>
 ∃ t68 : Bool, en = .returned (.bool t68) ∧
 ∃ S_3 : World → Prop, (∀ w', S_3 w' → S_2 w') ∧ S_3 w1_10 ∧
 IfB t68
 (∃ t70 : Array Value, (∀ w', S_3 w' → LdA w' (⟨b6, 0, none⟩ : Addr) 4 t70) ∧
 ∃ t73 : Array Value, (∀ w', S_3 w' → LdA w' (⟨b2, 0, none⟩ : Addr) 4 t73) ∧
 Calls prog 11 #[.agg t70] w1_10 fun en w1_11 =>
 ∃ t71 : Array Value, en = .returned (.agg t71) ∧
 S_3 w1_11 ∧
 Calls prog 16 #[.agg t71] w1_11 fun en w1_12 =>
 ∃ t72 : Int, en = .returned (.int .i64 t72) ∧
 S_3 w1_12 ∧
 Calls prog 11 #[.agg t73] w1_12 fun en w1_13 =>
 ∃ t74 : Array Value, en = .returned (.agg t74) ∧
 Calls prog 16 #[.agg t74] w1_13 fun en w1_14 =>
 ∃ t75 : Int, en = .returned (.int .i64 t75) ∧
 Q (.bool (decide (t72 < t75))) w1_14)
 (Q (.bool false) w1_10)) ∧
 (∀ b6 w1_6, NewB w1_5.drew (.cells #[.bool false, .slice none 0 0, .slice none 0 0, .slice none 0 0] 25) b6 w1_6 →
 S w1_6 ∧
 Calls prog 23 #[.agg t56, .int .i64 (IntKind.wrap .i64 (Int.tmod (IntKind.wrap .u64 x1) (IntKind.wrap .u64 ((t60.l : Nat) : Int))))] w1_6 fun en w1_7 =>
 ∃ t65 : Array Value, en = .returned (.agg t65) ∧
 t65.size = 4 ∧ (∀ u, u ∈ t65.toList → u.oneCell' = true) ∧ WrA w1_7 (⟨b6, 0, none⟩ : Addr) 4 ∧ ∀ w1_8, w1_8 = setAt w1_7 (⟨b6, 0, none⟩ : Addr) t65.toList 0 →
 ∃ S_1 : World → Prop, S_1 w1_8.drew ∧
 ∃ t66 : Array Value, (∀ w', S_1 w' → LdA w' (⟨b6, 0, none⟩ : Addr) 4 t66) ∧
 Calls prog 11 #[.agg t66] w1_8.drew fun en w1_9 =>
 ∃ t67 : Array Value, en = .returned (.agg t67) ∧
 ∃ S_2 : World → Prop, (∀ w', S_2 w' → S_1 w') ∧ S_2 w1_9 ∧
 Calls prog 18 #[.agg t67] w1_9 fun en w1_10 =>
 ∃ t68 : Bool, en = .returned (.bool t68) ∧
 ∃ S_3 : World → Prop, (∀ w', S_3 w' → S_2 w') ∧ S_3 w1_10 ∧
 IfB t68
 (∃ t70 : Array Value, (∀ w', S_3 w' → LdA w' (⟨b6, 0, none⟩ : Addr) 4 t70) ∧
 ∃ t73 : Array Value, (∀ w', S_3 w' → LdA w' (⟨b2, 0, none⟩ : Addr) 4 t73) ∧
 Calls prog 11 #[.agg t70] w1_10 fun en w1_11 =>
 ∃ t71 : Array Value, en = .returned (.agg t71) ∧
 S_3 w1_11 ∧
 Calls prog 16 #[.agg t71] w1_11 fun en w1_12 =>
 ∃ t72 : Int, en = .returned (.int .i64 t72) ∧
 S_3 w1_12 ∧
 Calls prog 11 #[.agg t73] w1_12 fun en w1_13 =>
 ∃ t74 : Array Value, en = .returned (.agg t74) ∧
 Calls prog 16 #[.agg t74] w1_13 fun en w1_14 =>
 ∃ t75 : Int, en = .returned (.int .i64 t75) ∧
 Q (.bool (decide (t72 < t75))) w1_14)
 (Q (.bool false) w1_10))))))))
def an7 : Ann := { cut := fun i => bif Nat.beq i 2 then some [(12, .bool)] else bif Nat.beq i 5 then some [(45, .bool)] else bif Nat.beq i 7 then some [(55, .bool)] else none, loop := fun i => [] }
theorem eq7 (x0 : Array Value) (x1 : Int) (w : World) (Q : Value → World → Prop) : F7 x0 x1 w Q = vc prog an7 (Try.f7.body.getD .skip) (envOf [.agg x0, .int .i64 x1]) w (retK prog Try.f7 Q) := by kernel_rfl
theorem ok7 : codeOk Try.f7.ntmps (Try.f7.body.getD .skip) = true := by kernel_rfl
theorem W7 {x0 : Array Value} {x1 : Int} {w : World} {Q : Value → World → Prop} (h : F7 x0 x1 w Q) : Calls prog 7 #[.agg x0, .int .i64 x1] w fun en w' => ∃ v, en = .returned v ∧ Q v w' :=
  calls_of_vc good follows an7 (args := [.agg x0, .int .i64 x1]) Try.func7 (by kernel_rfl) ok7 (of_decide_eq_true (by kernel_rfl)) (Eq.mp (eq7 x0 x1 w Q) h)

/-- bastion/bastionlaw06.NodeFinds -/
def F8 (x0 : Array Value) (x1 : ByteArray) (w : World) (Q : Value → World → Prop) : Prop :=
 ∀ b2 w1, NewB w (.cells x0 25) b2 w1 →
 ∃ J : Bool → World → Prop, (∃ t8 : Array Value, LdA w1 (⟨b2, 0, none⟩ : Addr) 4 t8 ∧
 Calls prog 9 #[.agg t8] w1 fun en w1_1 =>
 ∃ t9 : Bool, en = .returned (.bool t9) ∧
 IfB t9
 (J true w1_1)
 (Calls prog 10 #[] w1_1 fun en w1_2 =>
 ∃ t11 : Bool, en = .returned (.bool t11) ∧
 J (!t11) w1_2)) ∧
 (∀ (u : Env) (x13 : Bool) (w1_1 : World), J x13 w1_1 →
 IfB x13
 (Calls prog 10 #[] w1_1 fun en w1_2 =>
 ∃ t14 : Bool, en = .returned (.bool t14) ∧
 Q (.bool t14) w1_2)
 (∃ t15 : Array Value, LdA w1_1 (⟨b2, 0, none⟩ : Addr) 4 t15 ∧
 Calls prog 11 #[.agg t15] w1_1 fun en w1_2 =>
 ∃ t16 : Array Value, en = .returned (.agg t16) ∧
 Calls prog 16 #[.agg t16] w1_2 fun en w1_3 =>
 ∃ t17 : Int, en = .returned (.int .i64 t17) ∧
 IfB (t17 == (0 : Int))
 (Q (.bool true) w1_3)
 (∃ t20 : Array Value, LdA w1_3 (⟨b2, 0, none⟩ : Addr) 4 t20 ∧
 Calls prog 11 #[.agg t20] w1_3 fun en w1_4 =>
 ∃ t21 : Array Value, en = .returned (.agg t21) ∧
 Calls prog 14 #[.agg t21, .string x1] w1_4 fun en w1_5 =>
 ∃ t23a : Int, ∃ t23b : Bool, en = .returned (.tuple #[.int .i64 t23a, .bool t23b]) ∧
 ∃ J_1 : Bool → World → Prop, (IfB (decide (t23a < (0 : Int)))
 (J_1 true w1_5)
 (∃ t31 : Sl, Ld w1_5 ((⟨b2, 0, none⟩ : Addr).add 1) (.slice t31.a t31.l t31.c) ∧
 IfB (decide (t23a > ((t31.l : Nat) : Int)))
 (J_1 true w1_5)
 (∃ t39 : Sl, Ld w1_5 ((⟨b2, 0, none⟩ : Addr).add 1) (.slice t39.a t39.l t39.c) ∧
 IfB (decide (t23a < ((t39.l : Nat) : Int)))
 (∃ t44 : Sl, Ld w1_5 ((⟨b2, 0, none⟩ : Addr).add 1) (.slice t44.a t44.l t44.c) ∧
 ∃ p46, t44.a = some p46 ∧ 0 ≤ t23a ∧ t23a < ((t44.l : Nat) : Int) ∧
 ∃ t47 : ByteArray, Ld w1_5 (p46.add ((t23a).toNat * 1)) (.string t47) ∧
 ∃ b51 : Bool, BinIs prog .neq 4 (.tmp 36) (.tmp 50) (.bool t23b) (.bool (t47.toList == x1.toList)) b51 ∧
 J_1 b51 w1_5)
 (∃ b51 : Bool, BinIs prog .neq 4 (.tmp 36) (.tmp 50) (.bool t23b) (.bool false) b51 ∧
 J_1 b51 w1_5)))) ∧
 (∀ (u_1 : Env) (x52 : Bool) (w1_6 : World), J_1 x52 w1_6 →
 IfB x52
 (Q (.bool false) w1_6)
 (∃ (I : Nat → Int → World → Prop) (n0 : Nat), I n0 (0 : Int) w1_6 ∧
 ∀ (n : Nat) (u_2 : Env) (x7 : Int) (w1_7 : World), I n x7 w1_7 →
 ∃ t55 : Sl, Ld w1_7 ((⟨b2, 0, none⟩ : Addr).add 1) (.slice t55.a t55.l t55.c) ∧
 IfB (decide (x7 < ((t55.l : Nat) : Int)))
 (∃ t61 : Sl, Ld w1_7 ((⟨b2, 0, none⟩ : Addr).add 1) (.slice t61.a t61.l t61.c) ∧
 ∃ p63, t61.a = some p63 ∧ 0 ≤ x7 ∧ x7 < ((t61.l : Nat) : Int) ∧
 ∃ t64 : ByteArray, Ld w1_7 (p63.add ((x7).toNat * 1)) (.string t64) ∧
 ∃ b70 : Bool, BinIs prog .neq 4 (.tmp 66) (.tmp 69) (.bool (Op.bytesLess t64.toList x1.toList)) (.bool (decide (x7 < t23a))) b70 ∧
 IfB b70
 (Q (.bool false) w1_7)
 (∃ n', n' < n ∧ I n' (IntKind.wrap .i64 (x7 + (1 : Int))) w1_7))
 (Q (.bool true) w1_7))))))
def an8 : Ann := { cut := fun i => bif Nat.beq i 2 then some [(13, .bool)] else bif Nat.beq i 7 then some [(52, .bool)] else none, loop := fun i => bif Nat.beq i 9 then [(7, .int .i64)] else [] }
theorem eq8 (x0 : Array Value) (x1 : ByteArray) (w : World) (Q : Value → World → Prop) : F8 x0 x1 w Q = vc prog an8 (Try.f8.body.getD .skip) (envOf [.agg x0, .string x1]) w (retK prog Try.f8 Q) := by kernel_rfl
theorem ok8 : codeOk Try.f8.ntmps (Try.f8.body.getD .skip) = true := by kernel_rfl
theorem W8 {x0 : Array Value} {x1 : ByteArray} {w : World} {Q : Value → World → Prop} (h : F8 x0 x1 w Q) : Calls prog 8 #[.agg x0, .string x1] w fun en w' => ∃ v, en = .returned v ∧ Q v w' :=
  calls_of_vc good follows an8 (args := [.agg x0, .string x1]) Try.func8 (by kernel_rfl) ok8 (of_decide_eq_true (by kernel_rfl)) (Eq.mp (eq8 x0 x1 w Q) h)

/-- bastion/bastionlaw06.large -/
def F9 (x0 : Array Value) (w : World) (Q : Value → World → Prop) : Prop :=
 ∀ b1 w1, NewB w (.cells x0 25) b1 w1 →
 ∃ t7 : Sl, Ld w1 ((⟨b1, 0, none⟩ : Addr).add 1) (.slice t7.a t7.l t7.c) ∧
 ∃ t10 : Sl, Ld w1 ((⟨b1, 0, none⟩ : Addr).add 2) (.slice t10.a t10.l t10.c) ∧
 ∃ t14 : Sl, Ld w1 ((⟨b1, 0, none⟩ : Addr).add 3) (.slice t14.a t14.l t14.c) ∧
 ∃ J : Int → World → Prop, (∃ (I : Nat → Int → Int → World → Prop) (n0 : Nat), I n0 (IntKind.wrap .i64 ((IntKind.wrap .i64 (((t7.l : Nat) : Int) + ((t10.l : Nat) : Int))) + ((t14.l : Nat) : Int))) (0 : Int) w1 ∧
 ∀ (n : Nat) (u : Env) (x3 : Int) (x4 : Int) (w1_1 : World), I n x3 x4 w1_1 →
 ∃ t19 : Sl, Ld w1_1 ((⟨b1, 0, none⟩ : Addr).add 1) (.slice t19.a t19.l t19.c) ∧
 IfB (decide (x4 < ((t19.l : Nat) : Int)))
 (IfB (decide (x4 < (300 : Int)))
 (∃ t30 : Sl, Ld w1_1 ((⟨b1, 0, none⟩ : Addr).add 1) (.slice t30.a t30.l t30.c) ∧
 ∃ p32, t30.a = some p32 ∧ 0 ≤ x4 ∧ x4 < ((t30.l : Nat) : Int) ∧
 ∃ t33 : ByteArray, Ld w1_1 (p32.add ((x4).toNat * 1)) (.string t33) ∧
 ∃ n', n' < n ∧ I n' (IntKind.wrap .i64 (x3 + ((t33.size : Nat) : Int))) (IntKind.wrap .i64 (x4 + (1 : Int))) w1_1)
 (J x3 w1_1))
 (J x3 w1_1)) ∧
 (∀ (u : Env) (x3 : Int) (w1_1 : World), J x3 w1_1 →
 ∃ (I : Nat → Int → Int → World → Prop) (n0 : Nat), I n0 x3 (0 : Int) w1_1 ∧
 ∀ (n : Nat) (u_1 : Env) (x3_1 : Int) (x5 : Int) (w1_2 : World), I n x3_1 x5 w1_2 →
 ∃ t38 : Sl, Ld w1_2 ((⟨b1, 0, none⟩ : Addr).add 2) (.slice t38.a t38.l t38.c) ∧
 IfB (decide (x5 < ((t38.l : Nat) : Int)))
 (IfB (decide (x5 < (300 : Int)))
 (∃ t49 : Sl, Ld w1_2 ((⟨b1, 0, none⟩ : Addr).add 2) (.slice t49.a t49.l t49.c) ∧
 ∃ p51, t49.a = some p51 ∧ 0 ≤ x5 ∧ x5 < ((t49.l : Nat) : Int) ∧
 ∃ t52 : ByteArray, Ld w1_2 (p51.add ((x5).toNat * 1)) (.string t52) ∧
 ∃ n', n' < n ∧ I n' (IntKind.wrap .i64 (x3_1 + ((t52.size : Nat) : Int))) (IntKind.wrap .i64 (x5 + (1 : Int))) w1_2)
 (Q (.bool (decide (x3_1 > (5000 : Int)))) w1_2))
 (Q (.bool (decide (x3_1 > (5000 : Int)))) w1_2))
def an9 : Ann := { cut := fun i => bif Nat.beq i 6 then some [(3, .int .i64)] else none, loop := fun i => bif Nat.beq i 3 then [(3, .int .i64), (4, .int .i64)] else bif Nat.beq i 7 then [(3, .int .i64), (5, .int .i64)] else [] }
theorem eq9 (x0 : Array Value) (w : World) (Q : Value → World → Prop) : F9 x0 w Q = vc prog an9 (Try.f9.body.getD .skip) (envOf [.agg x0]) w (retK prog Try.f9 Q) := by kernel_rfl
theorem ok9 : codeOk Try.f9.ntmps (Try.f9.body.getD .skip) = true := by kernel_rfl
theorem W9 {x0 : Array Value} {w : World} {Q : Value → World → Prop} (h : F9 x0 w Q) : Calls prog 9 #[.agg x0] w fun en w' => ∃ v, en = .returned v ∧ Q v w' :=
  calls_of_vc good follows an9 (args := [.agg x0]) Try.func9 (by kernel_rfl) ok9 (of_decide_eq_true (by kernel_rfl)) (Eq.mp (eq9 x0 w Q) h)

/-- bastion/bastionlaw06.awake -/
def F10 (w : World) (Q : Value → World → Prop) : Prop :=
 RunT prog .slice (Instr.buildSlice 22 2 #[(0, .string (⟨#[97]⟩ : ByteArray)), (1, .string (⟨#[98]⟩ : ByteArray))]) w fun (t12 : Sl) w1 =>
 RunT prog .slice (Instr.buildSlice 22 2 #[(0, .string (⟨#[120]⟩ : ByteArray)), (1, .string (⟨#[]⟩ : ByteArray))]) w1 fun (t13 : Sl) w1_1 =>
 ∃ t14 : Array Value, BuildIs prog 28 #[(0, .bool true), (1, .slice t12.a t12.l t12.c), (2, .slice t13.a t13.l t13.c)] t14 ∧
 ∀ b1 w1_2, NewB w1_1 (.cells #[.bool false, .slice none 0 0, .slice none 0 0, .slice none 0 0] 28) b1 w1_2 →
 t14.size = 4 ∧ (∀ u, u ∈ t14.toList → u.oneCell' = true) ∧ WrA w1_2 (⟨b1, 0, none⟩ : Addr) 4 ∧ ∀ w1_3, w1_3 = setAt w1_2 (⟨b1, 0, none⟩ : Addr) t14.toList 0 →
 ∃ t16 : Array Value, LdA w1_3 (⟨b1, 0, none⟩ : Addr) 4 t16 ∧
 Calls prog 12 #[.agg t16] w1_3 fun en w1_4 =>
 ∃ t17a : Sl, ∃ t17b : Int, en = .returned (.tuple #[.slice t17a.a t17a.l t17a.c, .int .i64 t17b]) ∧
 RunT prog .slice (Instr.buildSlice 23 1 #[(0, .int .i64 5)]) w1_4 fun (t21 : Sl) w1_5 =>
 ∃ t22 : Array Value, BuildIs prog 28 #[(3, .slice t21.a t21.l t21.c)] t22 ∧
 Calls prog 12 #[.agg t22] w1_5 fun en w1_6 =>
 ∃ t23a : Sl, ∃ t23b : Int, en = .returned (.tuple #[.slice t23a.a t23a.l t23a.c, .int .i64 t23b]) ∧
 Calls prog 21 #[.slice t17a.a t17a.l t17a.c] w1_6 fun en w1_7 =>
 ∃ t28a : Array Value, ∃ t28b : Int, en = .returned (.tuple #[.agg t28a, .int .i64 t28b]) ∧
 ∀ b6 w1_8, NewB w1_7 (.cells #[.bool false, .slice none 0 0, .slice none 0 0, .slice none 0 0] 28) b6 w1_8 →
 t28a.size = 4 ∧ (∀ u, u ∈ t28a.toList → u.oneCell' = true) ∧ WrA w1_8 (⟨b6, 0, none⟩ : Addr) 4 ∧ ∀ w1_9, w1_9 = setAt w1_8 (⟨b6, 0, none⟩ : Addr) t28a.toList 0 →
 ∃ t32 : Array Value, LdA w1_9 (⟨b1, 0, none⟩ : Addr) 4 t32 ∧
 Calls prog 14 #[.agg t32, .string (⟨#[97, 97]⟩ : ByteArray)] w1_9 fun en w1_10 =>
 ∃ t33a : Int, ∃ t33b : Bool, en = .returned (.tuple #[.int .i64 t33a, .bool t33b]) ∧
 ∃ t37 : Array Value, LdA w1_10 (⟨b1, 0, none⟩ : Addr) 4 t37 ∧
 Calls prog 14 #[.agg t37, .string (⟨#[98]⟩ : ByteArray)] w1_10 fun en w1_11 =>
 ∃ t38a : Int, ∃ t38b : Bool, en = .returned (.tuple #[.int .i64 t38a, .bool t38b]) ∧
 ∃ S : World → Prop, S w1_11.drew ∧
 IfB (t17b == (0 : Int))
 (IfB (((t17a.l : Nat) : Int) == (256 : Int))
 ((0 ≤ (10 : Int) ∧ (10 : Int) ≤ ((t17a.c : Nat) : Int)) ∧
 RunT prog .str (convert 30 9 (.slice (slA t17a.a 0 t17a.c 1) (10 - 0) (t17a.c - 0))) w1_11.drew fun (t51 : ByteArray) w1_12 =>
 ∃ S_1 : World → Prop, (∀ w', S_1 w' → S w') ∧ S_1 w1_12 ∧
 IfB (t51.toList == (⟨#[1, 2, 1, 97, 1, 120, 1, 98, 0, 0]⟩ : ByteArray).toList)
 (∃ t55 : Array Value, (∀ w', S_1 w' → LdA w' (⟨b1, 0, none⟩ : Addr) 4 t55) ∧
 Calls prog 16 #[.agg t55] w1_12 fun en w1_13 =>
 ∃ t56 : Int, en = .returned (.int .i64 t56) ∧
 ∃ S_2 : World → Prop, (∀ w', S_2 w' → S_1 w') ∧ S_2 w1_13 ∧
 IfB (t56 == (9 : Int))
 (IfB (t23b == (0 : Int))
 ((0 ≤ (4 : Int) ∧ (4 : Int) ≤ ((t23a.c : Nat) : Int)) ∧
 RunT prog .str (convert 30 9 (.slice (slA t23a.a 0 t23a.c 1) (4 - 0) (t23a.c - 0))) w1_13 fun (t66 : ByteArray) w1_14 =>
 ∃ S_3 : World → Prop, (∀ w', S_3 w' → S_2 w') ∧ S_3 w1_14 ∧
 IfB (t66.toList == (⟨#[0, 0, 5, 0]⟩ : ByteArray).toList)
 (IfB (t28b == (0 : Int))
 (∃ t74 : Array Value, (∀ w', S_3 w' → LdA w' (⟨b6, 0, none⟩ : Addr) 4 t74) ∧
 ∃ t76 : Array Value, (∀ w', S_3 w' → LdA w' (⟨b1, 0, none⟩ : Addr) 4 t76) ∧
 Calls prog 20 #[.agg t74] w1_14 fun en w1_15 =>
 ∃ t75 : Array Value, en = .returned (.agg t75) ∧
 ∃ S_4 : World → Prop, (∀ w', S_4 w' → S_3 w') ∧ S_4 w1_15 ∧
 Calls prog 20 #[.agg t76] w1_15 fun en w1_16 =>
 ∃ t77 : Array Value, en = .returned (.agg t77) ∧
 ∃ S_5 : World → Prop, (∀ w', S_5 w' → S_4 w') ∧ S_5 w1_16 ∧
 Calls prog 19 #[.agg t75, .agg t77] w1_16 fun en w1_17 =>
 ∃ t78 : Bool, en = .returned (.bool t78) ∧
 ∃ S_6 : World → Prop, (∀ w', S_6 w' → S_5 w') ∧ S_6 w1_17 ∧
 IfB t78
 (IfB (t33a == (1 : Int))
 (IfB (!t33b)
 (IfB (t38a == (1 : Int))
 (IfB t38b
 (∃ t96 : Array Value, (∀ w', S_6 w' → LdA w' (⟨b1, 0, none⟩ : Addr) 4 t96) ∧
 Calls prog 18 #[.agg t96] w1_17 fun en w1_18 =>
 ∃ t97 : Bool, en = .returned (.bool t97) ∧
 Q (.bool t97) w1_18)
 (Q (.bool false) w1_17))
 (Q (.bool false) w1_17))
 (Q (.bool false) w1_17))
 (Q (.bool false) w1_17))
 (Q (.bool false) w1_17))
 (Q (.bool false) w1_14))
 (Q (.bool false) w1_14))
 (Q (.bool false) w1_13))
 (Q (.bool false) w1_13))
 (Q (.bool false) w1_12))
 (Q (.bool false) w1_11.drew))
 (Q (.bool false) w1_11.drew)
def an10 : Ann := { cut := fun i => none, loop := fun i => [] }
theorem eq10 (w : World) (Q : Value → World → Prop) : F10  w Q = vc prog an10 (Try.f10.body.getD .skip) (envOf []) w (retK prog Try.f10 Q) := by kernel_rfl
theorem ok10 : codeOk Try.f10.ntmps (Try.f10.body.getD .skip) = true := by kernel_rfl
theorem W10 {w : World} {Q : Value → World → Prop} (h : F10  w Q) : Calls prog 10 #[] w fun en w' => ∃ v, en = .returned v ∧ Q v w' :=
  calls_of_vc good follows an10 (args := []) Try.func10 (by kernel_rfl) ok10 (of_decide_eq_true (by kernel_rfl)) (Eq.mp (eq10  w Q) h)

/-- bastion/bastionlaw06.given -/
def F11 (x0 : Array Value) (w : World) (Q : Value → World → Prop) : Prop :=
 ∀ b1 w1, NewB w (.cells x0 25) b1 w1 →
 ∀ b2 w1_1, NewB w1 (.cells #[.bool false, .slice none 0 0, .slice none 0 0, .slice none 0 0] 28) b2 w1_1 →
 ∃ S : World → Prop, S w1_1.drew ∧
 ∃ t4 : Bool, (∀ w', S w' → Ld w' ((⟨b1, 0, none⟩ : Addr).add 0) (.bool t4)) ∧
 ∃ t7 : Sl, (∀ w', S w' → Ld w' ((⟨b1, 0, none⟩ : Addr).add 1) (.slice t7.a t7.l t7.c)) ∧
 ∃ t11 : Sl, (∀ w', S w' → Ld w' ((⟨b1, 0, none⟩ : Addr).add 2) (.slice t11.a t11.l t11.c)) ∧
 ∃ t15 : Sl, (∀ w', S w' → Ld w' ((⟨b1, 0, none⟩ : Addr).add 3) (.slice t15.a t15.l t15.c)) ∧
 (RunT prog .slice (Instr.buildSlice 22 0 #[]) w1_1.drew fun (t5 : Sl) w1_2 =>
 S w1_2 ∧
 (RunT prog .slice (Builtin.append_ #[22, 22] 22 #[.slice t5.a t5.l t5.c, .slice t7.a t7.l t7.c]) w1_2 fun (t8 : Sl) w1_3 =>
 S w1_3 ∧
 (RunT prog .slice (Instr.buildSlice 22 0 #[]) w1_3 fun (t9 : Sl) w1_4 =>
 S w1_4 ∧
 (RunT prog .slice (Builtin.append_ #[22, 22] 22 #[.slice t9.a t9.l t9.c, .slice t11.a t11.l t11.c]) w1_4 fun (t12 : Sl) w1_5 =>
 S w1_5 ∧
 RunT prog .slice (Instr.buildSlice 23 0 #[]) w1_5 fun (t13 : Sl) w1_6 =>
 S w1_6 ∧
 RunT prog .slice (Builtin.append_ #[23, 23] 23 #[.slice t13.a t13.l t13.c, .slice t15.a t15.l t15.c]) w1_6 fun (t16 : Sl) w1_7 =>
 S w1_7 ∧
 ∃ t17 : Array Value, BuildIs prog 28 #[(0, .bool t4), (1, .slice t8.a t8.l t8.c), (2, .slice t12.a t12.l t12.c), (3, .slice t16.a t16.l t16.c)] t17 ∧
 t17.size = 4 ∧ (∀ u, u ∈ t17.toList → u.oneCell' = true) ∧ WrA w1_7 (⟨b2, 0, none⟩ : Addr) 4 ∧ ∀ w1_8, w1_8 = setAt w1_7 (⟨b2, 0, none⟩ : Addr) t17.toList 0 →
 ∃ t2r : Array Value, LdA w1_8 (⟨b2, 0, none⟩ : Addr) 4 t2r ∧
 Q (.agg t2r) w1_8) ∧
 (RunT prog .slice (Instr.buildSlice 23 0 #[]) w1_4 fun (t13 : Sl) w1_5 =>
 S w1_5 ∧
 RunT prog .slice (Builtin.append_ #[22, 22] 22 #[.slice t9.a t9.l t9.c, .slice t11.a t11.l t11.c]) w1_5 fun (t12 : Sl) w1_6 =>
 S w1_6 ∧
 RunT prog .slice (Builtin.append_ #[23, 23] 23 #[.slice t13.a t13.l t13.c, .slice t15.a t15.l t15.c]) w1_6 fun (t16 : Sl) w1_7 =>
 S w1_7 ∧
 ∃ t17 : Array Value, BuildIs prog 28 #[(0, .bool t4), (1, .slice t8.a t8.l t8.c), (2, .slice t12.a t12.l t12.c), (3, .slice t16.a t16.l t16.c)] t17 ∧
 t17.size = 4 ∧ (∀ u, u ∈ t17.toList → u.oneCell' = true) ∧ WrA w1_7 (⟨b2, 0, none⟩ : Addr) 4 ∧ ∀ w1_8, w1_8 = setAt w1_7 (⟨b2, 0, none⟩ : Addr) t17.toList 0 →
 ∃ t2r : Array Value, LdA w1_8 (⟨b2, 0, none⟩ : Addr) 4 t2r ∧
 Q (.agg t2r) w1_8)) ∧
 (RunT prog .slice (Instr.buildSlice 23 0 #[]) w1_3 fun (t13 : Sl) w1_4 =>
 S w1_4 ∧
 RunT prog .slice (Instr.buildSlice 22 0 #[]) w1_4 fun (t9 : Sl) w1_5 =>
 S w1_5 ∧
 RunT prog .slice (Builtin.append_ #[22, 22] 22 #[.slice t9.a t9.l t9.c, .slice t11.a t11.l t11.c]) w1_5 fun (t12 : Sl) w1_6 =>
 S w1_6 ∧
 RunT prog .slice (Builtin.append_ #[23, 23] 23 #[.slice t13.a t13.l t13.c, .slice t15.a t15.l t15.c]) w1_6 fun (t16 : Sl) w1_7 =>
 S w1_7 ∧
 ∃ t17 : Array Value, BuildIs prog 28 #[(0, .bool t4), (1, .slice t8.a t8.l t8.c), (2, .slice t12.a t12.l t12.c), (3, .slice t16.a t16.l t16.c)] t17 ∧
 t17.size = 4 ∧ (∀ u, u ∈ t17.toList → u.oneCell' = true) ∧ WrA w1_7 (⟨b2, 0, none⟩ : Addr) 4 ∧ ∀ w1_8, w1_8 = setAt w1_7 (⟨b2, 0, none⟩ : Addr) t17.toList 0 →
 ∃ t2r : Array Value, LdA w1_8 (⟨b2, 0, none⟩ : Addr) 4 t2r ∧
 Q (.agg t2r) w1_8)) ∧
 (RunT prog .slice (Instr.buildSlice 22 0 #[]) w1_2 fun (t9 : Sl) w1_3 =>
 S w1_3 ∧
 (RunT prog .slice (Builtin.append_ #[22, 22] 22 #[.slice t5.a t5.l t5.c, .slice t7.a t7.l t7.c]) w1_3 fun (t8 : Sl) w1_4 =>
 S w1_4 ∧
 (RunT prog .slice (Builtin.append_ #[22, 22] 22 #[.slice t9.a t9.l t9.c, .slice t11.a t11.l t11.c]) w1_4 fun (t12 : Sl) w1_5 =>
 S w1_5 ∧
 RunT prog .slice (Instr.buildSlice 23 0 #[]) w1_5 fun (t13 : Sl) w1_6 =>
 S w1_6 ∧
 RunT prog .slice (Builtin.append_ #[23, 23] 23 #[.slice t13.a t13.l t13.c, .slice t15.a t15.l t15.c]) w1_6 fun (t16 : Sl) w1_7 =>
 S w1_7 ∧
 ∃ t17 : Array Value, BuildIs prog 28 #[(0, .bool t4), (1, .slice t8.a t8.l t8.c), (2, .slice t12.a t12.l t12.c), (3, .slice t16.a t16.l t16.c)] t17 ∧
 t17.size = 4 ∧ (∀ u, u ∈ t17.toList → u.oneCell' = true) ∧ WrA w1_7 (⟨b2, 0, none⟩ : Addr) 4 ∧ ∀ w1_8, w1_8 = setAt w1_7 (⟨b2, 0, none⟩ : Addr) t17.toList 0 →
 ∃ t2r : Array Value, LdA w1_8 (⟨b2, 0, none⟩ : Addr) 4 t2r ∧
 Q (.agg t2r) w1_8) ∧
 (RunT prog .slice (Instr.buildSlice 23 0 #[]) w1_4 fun (t13 : Sl) w1_5 =>
 S w1_5 ∧
 RunT prog .slice (Builtin.append_ #[22, 22] 22 #[.slice t9.a t9.l t9.c, .slice t11.a t11.l t11.c]) w1_5 fun (t12 : Sl) w1_6 =>
 S w1_6 ∧
 RunT prog .slice (Builtin.append_ #[23, 23] 23 #[.slice t13.a t13.l t13.c, .slice t15.a t15.l t15.c]) w1_6 fun (t16 : Sl) w1_7 =>
 S w1_7 ∧
 ∃ t17 : Array Value, BuildIs prog 28 #[(0, .bool t4), (1, .slice t8.a t8.l t8.c), (2, .slice t12.a t12.l t12.c), (3, .slice t16.a t16.l t16.c)] t17 ∧
 t17.size = 4 ∧ (∀ u, u ∈ t17.toList → u.oneCell' = true) ∧ WrA w1_7 (⟨b2, 0, none⟩ : Addr) 4 ∧ ∀ w1_8, w1_8 = setAt w1_7 (⟨b2, 0, none⟩ : Addr) t17.toList 0 →
 ∃ t2r : Array Value, LdA w1_8 (⟨b2, 0, none⟩ : Addr) 4 t2r ∧
 Q (.agg t2r) w1_8)) ∧
 (RunT prog .slice (Instr.buildSlice 23 0 #[]) w1_3 fun (t13 : Sl) w1_4 =>
 S w1_4 ∧
 RunT prog .slice (Builtin.append_ #[22, 22] 22 #[.slice t5.a t5.l t5.c, .slice t7.a t7.l t7.c]) w1_4 fun (t8 : Sl) w1_5 =>
 S w1_5 ∧
 RunT prog .slice (Builtin.append_ #[22, 22] 22 #[.slice t9.a t9.l t9.c, .slice t11.a t11.l t11.c]) w1_5 fun (t12 : Sl) w1_6 =>
 S w1_6 ∧
 RunT prog .slice (Builtin.append_ #[23, 23] 23 #[.slice t13.a t13.l t13.c, .slice t15.a t15.l t15.c]) w1_6 fun (t16 : Sl) w1_7 =>
 S w1_7 ∧
 ∃ t17 : Array Value, BuildIs prog 28 #[(0, .bool t4), (1, .slice t8.a t8.l t8.c), (2, .slice t12.a t12.l t12.c), (3, .slice t16.a t16.l t16.c)] t17 ∧
 t17.size = 4 ∧ (∀ u, u ∈ t17.toList → u.oneCell' = true) ∧ WrA w1_7 (⟨b2, 0, none⟩ : Addr) 4 ∧ ∀ w1_8, w1_8 = setAt w1_7 (⟨b2, 0, none⟩ : Addr) t17.toList 0 →
 ∃ t2r : Array Value, LdA w1_8 (⟨b2, 0, none⟩ : Addr) 4 t2r ∧
 Q (.agg t2r) w1_8)) ∧
 (RunT prog .slice (Instr.buildSlice 23 0 #[]) w1_2 fun (t13 : Sl) w1_3 =>
 S w1_3 ∧
 (RunT prog .slice (Builtin.append_ #[22, 22] 22 #[.slice t5.a t5.l t5.c, .slice t7.a t7.l t7.c]) w1_3 fun (t8 : Sl) w1_4 =>
 S w1_4 ∧
 RunT prog .slice (Instr.buildSlice 22 0 #[]) w1_4 fun (t9 : Sl) w1_5 =>
 S w1_5 ∧
 RunT prog .slice (Builtin.append_ #[22, 22] 22 #[.slice t9.a t9.l t9.c, .slice t11.a t11.l t11.c]) w1_5 fun (t12 : Sl) w1_6 =>
 S w1_6 ∧
 RunT prog .slice (Builtin.append_ #[23, 23] 23 #[.slice t13.a t13.l t13.c, .slice t15.a t15.l t15.c]) w1_6 fun (t16 : Sl) w1_7 =>
 S w1_7 ∧
 ∃ t17 : Array Value, BuildIs prog 28 #[(0, .bool t4), (1, .slice t8.a t8.l t8.c), (2, .slice t12.a t12.l t12.c), (3, .slice t16.a t16.l t16.c)] t17 ∧
 t17.size = 4 ∧ (∀ u, u ∈ t17.toList → u.oneCell' = true) ∧ WrA w1_7 (⟨b2, 0, none⟩ : Addr) 4 ∧ ∀ w1_8, w1_8 = setAt w1_7 (⟨b2, 0, none⟩ : Addr) t17.toList 0 →
 ∃ t2r : Array Value, LdA w1_8 (⟨b2, 0, none⟩ : Addr) 4 t2r ∧
 Q (.agg t2r) w1_8) ∧
 (RunT prog .slice (Instr.buildSlice 22 0 #[]) w1_3 fun (t9 : Sl) w1_4 =>
 S w1_4 ∧
 RunT prog .slice (Builtin.append_ #[22, 22] 22 #[.slice t5.a t5.l t5.c, .slice t7.a t7.l t7.c]) w1_4 fun (t8 : Sl) w1_5 =>
 S w1_5 ∧
 RunT prog .slice (Builtin.append_ #[22, 22] 22 #[.slice t9.a t9.l t9.c, .slice t11.a t11.l t11.c]) w1_5 fun (t12 : Sl) w1_6 =>
 S w1_6 ∧
 RunT prog .slice (Builtin.append_ #[23, 23] 23 #[.slice t13.a t13.l t13.c, .slice t15.a t15.l t15.c]) w1_6 fun (t16 : Sl) w1_7 =>
 S w1_7 ∧
 ∃ t17 : Array Value, BuildIs prog 28 #[(0, .bool t4), (1, .slice t8.a t8.l t8.c), (2, .slice t12.a t12.l t12.c), (3, .slice t16.a t16.l t16.c)] t17 ∧
 t17.size = 4 ∧ (∀ u, u ∈ t17.toList → u.oneCell' = true) ∧ WrA w1_7 (⟨b2, 0, none⟩ : Addr) 4 ∧ ∀ w1_8, w1_8 = setAt w1_7 (⟨b2, 0, none⟩ : Addr) t17.toList 0 →
 ∃ t2r : Array Value, LdA w1_8 (⟨b2, 0, none⟩ : Addr) 4 t2r ∧
 Q (.agg t2r) w1_8))) ∧
 (RunT prog .slice (Instr.buildSlice 22 0 #[]) w1_1.drew fun (t9 : Sl) w1_2 =>
 S w1_2 ∧
 (RunT prog .slice (Instr.buildSlice 22 0 #[]) w1_2 fun (t5 : Sl) w1_3 =>
 S w1_3 ∧
 (RunT prog .slice (Builtin.append_ #[22, 22] 22 #[.slice t5.a t5.l t5.c, .slice t7.a t7.l t7.c]) w1_3 fun (t8 : Sl) w1_4 =>
 S w1_4 ∧
 (RunT prog .slice (Builtin.append_ #[22, 22] 22 #[.slice t9.a t9.l t9.c, .slice t11.a t11.l t11.c]) w1_4 fun (t12 : Sl) w1_5 =>
 S w1_5 ∧
 RunT prog .slice (Instr.buildSlice 23 0 #[]) w1_5 fun (t13 : Sl) w1_6 =>
 S w1_6 ∧
 RunT prog .slice (Builtin.append_ #[23, 23] 23 #[.slice t13.a t13.l t13.c, .slice t15.a t15.l t15.c]) w1_6 fun (t16 : Sl) w1_7 =>
 S w1_7 ∧
 ∃ t17 : Array Value, BuildIs prog 28 #[(0, .bool t4), (1, .slice t8.a t8.l t8.c), (2, .slice t12.a t12.l t12.c), (3, .slice t16.a t16.l t16.c)] t17 ∧
 t17.size = 4 ∧ (∀ u, u ∈ t17.toList → u.oneCell' = true) ∧ WrA w1_7 (⟨b2, 0, none⟩ : Addr) 4 ∧ ∀ w1_8, w1_8 = setAt w1_7 (⟨b2, 0, none⟩ : Addr) t17.toList 0 →
 ∃ t2r : Array Value, LdA w1_8 (⟨b2, 0, none⟩ : Addr) 4 t2r ∧
 Q (.agg t2r) w1_8) ∧
 (RunT prog .slice (Instr.buildSlice 23 0 #[]) w1_4 fun (t13 : Sl) w1_5 =>
 S w1_5 ∧
 RunT prog .slice (Builtin.append_ #[22, 22] 22 #[.slice t9.a t9.l t9.c, .slice t11.a t11.l t11.c]) w1_5 fun (t12 : Sl) w1_6 =>
 S w1_6 ∧
 RunT prog .slice (Builtin.append_ #[23, 23] 23 #[.slice t13.a t13.l t13.c, .slice t15.a t15.l t15.c]) w1_6 fun (t16 : Sl) w1_7 =>
 S w1_7 ∧
 ∃ t17 : Array Value, BuildIs prog 28 #[(0, .bool t4), (1, .slice t8.a t8.l t8.c), (2, .slice t12.a t12.l t12.c), (3, .slice t16.a t16.l t16.c)] t17 ∧
 t17.size = 4 ∧ (∀ u, u ∈ t17.toList → u.oneCell' = true) ∧ WrA w1_7 (⟨b2, 0, none⟩ : Addr) 4 ∧ ∀ w1_8, w1_8 = setAt w1_7 (⟨b2, 0, none⟩ : Addr) t17.toList 0 →
 ∃ t2r : Array Value, LdA w1_8 (⟨b2, 0, none⟩ : Addr) 4 t2r ∧
 Q (.agg t2r) w1_8)) ∧
 (RunT prog .slice (Instr.buildSlice 23 0 #[]) w1_3 fun (t13 : Sl) w1_4 =>
 S w1_4 ∧
 RunT prog .slice (Builtin.append_ #[22, 22] 22 #[.slice t5.a t5.l t5.c, .slice t7.a t7.l t7.c]) w1_4 fun (t8 : Sl) w1_5 =>
 S w1_5 ∧
 RunT prog .slice (Builtin.append_ #[22, 22] 22 #[.slice t9.a t9.l t9.c, .slice t11.a t11.l t11.c]) w1_5 fun (t12 : Sl) w1_6 =>
 S w1_6 ∧
 RunT prog .slice (Builtin.append_ #[23, 23] 23 #[.slice t13.a t13.l t13.c, .slice t15.a t15.l t15.c]) w1_6 fun (t16 : Sl) w1_7 =>
 S w1_7 ∧
 ∃ t17 : Array Value, BuildIs prog 28 #[(0, .bool t4), (1, .slice t8.a t8.l t8.c), (2, .slice t12.a t12.l t12.c), (3, .slice t16.a t16.l t16.c)] t17 ∧
 t17.size = 4 ∧ (∀ u, u ∈ t17.toList → u.oneCell' = true) ∧ WrA w1_7 (⟨b2, 0, none⟩ : Addr) 4 ∧ ∀ w1_8, w1_8 = setAt w1_7 (⟨b2, 0, none⟩ : Addr) t17.toList 0 →
 ∃ t2r : Array Value, LdA w1_8 (⟨b2, 0, none⟩ : Addr) 4 t2r ∧
 Q (.agg t2r) w1_8)) ∧
 (RunT prog .slice (Instr.buildSlice 23 0 #[]) w1_2 fun (t13 : Sl) w1_3 =>
 S w1_3 ∧
 RunT prog .slice (Instr.buildSlice 22 0 #[]) w1_3 fun (t5 : Sl) w1_4 =>
 S w1_4 ∧
 RunT prog .slice (Builtin.append_ #[22, 22] 22 #[.slice t5.a t5.l t5.c, .slice t7.a t7.l t7.c]) w1_4 fun (t8 : Sl) w1_5 =>
 S w1_5 ∧
 RunT prog .slice (Builtin.append_ #[22, 22] 22 #[.slice t9.a t9.l t9.c, .slice t11.a t11.l t11.c]) w1_5 fun (t12 : Sl) w1_6 =>
 S w1_6 ∧
 RunT prog .slice (Builtin.append_ #[23, 23] 23 #[.slice t13.a t13.l t13.c, .slice t15.a t15.l t15.c]) w1_6 fun (t16 : Sl) w1_7 =>
 S w1_7 ∧
 ∃ t17 : Array Value, BuildIs prog 28 #[(0, .bool t4), (1, .slice t8.a t8.l t8.c), (2, .slice t12.a t12.l t12.c), (3, .slice t16.a t16.l t16.c)] t17 ∧
 t17.size = 4 ∧ (∀ u, u ∈ t17.toList → u.oneCell' = true) ∧ WrA w1_7 (⟨b2, 0, none⟩ : Addr) 4 ∧ ∀ w1_8, w1_8 = setAt w1_7 (⟨b2, 0, none⟩ : Addr) t17.toList 0 →
 ∃ t2r : Array Value, LdA w1_8 (⟨b2, 0, none⟩ : Addr) 4 t2r ∧
 Q (.agg t2r) w1_8)) ∧
 (RunT prog .slice (Instr.buildSlice 23 0 #[]) w1_1.drew fun (t13 : Sl) w1_2 =>
 S w1_2 ∧
 (RunT prog .slice (Instr.buildSlice 22 0 #[]) w1_2 fun (t5 : Sl) w1_3 =>
 S w1_3 ∧
 (RunT prog .slice (Builtin.append_ #[22, 22] 22 #[.slice t5.a t5.l t5.c, .slice t7.a t7.l t7.c]) w1_3 fun (t8 : Sl) w1_4 =>
 S w1_4 ∧
 RunT prog .slice (Instr.buildSlice 22 0 #[]) w1_4 fun (t9 : Sl) w1_5 =>
 S w1_5 ∧
 RunT prog .slice (Builtin.append_ #[22, 22] 22 #[.slice t9.a t9.l t9.c, .slice t11.a t11.l t11.c]) w1_5 fun (t12 : Sl) w1_6 =>
 S w1_6 ∧
 RunT prog .slice (Builtin.append_ #[23, 23] 23 #[.slice t13.a t13.l t13.c, .slice t15.a t15.l t15.c]) w1_6 fun (t16 : Sl) w1_7 =>
 S w1_7 ∧
 ∃ t17 : Array Value, BuildIs prog 28 #[(0, .bool t4), (1, .slice t8.a t8.l t8.c), (2, .slice t12.a t12.l t12.c), (3, .slice t16.a t16.l t16.c)] t17 ∧
 t17.size = 4 ∧ (∀ u, u ∈ t17.toList → u.oneCell' = true) ∧ WrA w1_7 (⟨b2, 0, none⟩ : Addr) 4 ∧ ∀ w1_8, w1_8 = setAt w1_7 (⟨b2, 0, none⟩ : Addr) t17.toList 0 →
 ∃ t2r : Array Value, LdA w1_8 (⟨b2, 0, none⟩ : Addr) 4 t2r ∧
 Q (.agg t2r) w1_8) ∧
 (RunT prog .slice (Instr.buildSlice 22 0 #[]) w1_3 fun (t9 : Sl) w1_4 =>
 S w1_4 ∧
 RunT prog .slice (Builtin.append_ #[22, 22] 22 #[.slice t5.a t5.l t5.c, .slice t7.a t7.l t7.c]) w1_4 fun (t8 : Sl) w1_5 =>
 S w1_5 ∧
 RunT prog .slice (Builtin.append_ #[22, 22] 22 #[.slice t9.a t9.l t9.c, .slice t11.a t11.l t11.c]) w1_5 fun (t12 : Sl) w1_6 =>
 S w1_6 ∧
 RunT prog .slice (Builtin.append_ #[23, 23] 23 #[.slice t13.a t13.l t13.c, .slice t15.a t15.l t15.c]) w1_6 fun (t16 : Sl) w1_7 =>
 S w1_7 ∧
 ∃ t17 : Array Value, BuildIs prog 28 #[(0, .bool t4), (1, .slice t8.a t8.l t8.c), (2, .slice t12.a t12.l t12.c), (3, .slice t16.a t16.l t16.c)] t17 ∧
 t17.size = 4 ∧ (∀ u, u ∈ t17.toList → u.oneCell' = true) ∧ WrA w1_7 (⟨b2, 0, none⟩ : Addr) 4 ∧ ∀ w1_8, w1_8 = setAt w1_7 (⟨b2, 0, none⟩ : Addr) t17.toList 0 →
 ∃ t2r : Array Value, LdA w1_8 (⟨b2, 0, none⟩ : Addr) 4 t2r ∧
 Q (.agg t2r) w1_8)) ∧
 (RunT prog .slice (Instr.buildSlice 22 0 #[]) w1_2 fun (t9 : Sl) w1_3 =>
 S w1_3 ∧
 RunT prog .slice (Instr.buildSlice 22 0 #[]) w1_3 fun (t5 : Sl) w1_4 =>
 S w1_4 ∧
 RunT prog .slice (Builtin.append_ #[22, 22] 22 #[.slice t5.a t5.l t5.c, .slice t7.a t7.l t7.c]) w1_4 fun (t8 : Sl) w1_5 =>
 S w1_5 ∧
 RunT prog .slice (Builtin.append_ #[22, 22] 22 #[.slice t9.a t9.l t9.c, .slice t11.a t11.l t11.c]) w1_5 fun (t12 : Sl) w1_6 =>
 S w1_6 ∧
 RunT prog .slice (Builtin.append_ #[23, 23] 23 #[.slice t13.a t13.l t13.c, .slice t15.a t15.l t15.c]) w1_6 fun (t16 : Sl) w1_7 =>
 S w1_7 ∧
 ∃ t17 : Array Value, BuildIs prog 28 #[(0, .bool t4), (1, .slice t8.a t8.l t8.c), (2, .slice t12.a t12.l t12.c), (3, .slice t16.a t16.l t16.c)] t17 ∧
 t17.size = 4 ∧ (∀ u, u ∈ t17.toList → u.oneCell' = true) ∧ WrA w1_7 (⟨b2, 0, none⟩ : Addr) 4 ∧ ∀ w1_8, w1_8 = setAt w1_7 (⟨b2, 0, none⟩ : Addr) t17.toList 0 →
 ∃ t2r : Array Value, LdA w1_8 (⟨b2, 0, none⟩ : Addr) 4 t2r ∧
 Q (.agg t2r) w1_8))
def an11 : Ann := { cut := fun i => none, loop := fun i => [] }
theorem eq11 (x0 : Array Value) (w : World) (Q : Value → World → Prop) : F11 x0 w Q = vc prog an11 (Try.f11.body.getD .skip) (envOf [.agg x0]) w (retK prog Try.f11 Q) := by kernel_rfl
theorem ok11 : codeOk Try.f11.ntmps (Try.f11.body.getD .skip) = true := by kernel_rfl
theorem W11 {x0 : Array Value} {w : World} {Q : Value → World → Prop} (h : F11 x0 w Q) : Calls prog 11 #[.agg x0] w fun en w' => ∃ v, en = .returned v ∧ Q v w' :=
  calls_of_vc good follows an11 (args := [.agg x0]) Try.func11 (by kernel_rfl) ok11 (of_decide_eq_true (by kernel_rfl)) (Eq.mp (eq11 x0 w Q) h)

/-- bastion/node.Encode -/
def F12 (x0 : Array Value) (w : World) (Q : Value → World → Prop) : Prop :=
 ∀ b1 w1, NewB w (.cells x0 28) b1 w1 →
 ∃ t6 : Array Value, LdA w1 (⟨b1, 0, none⟩ : Addr) 4 t6 ∧
 Calls prog 24 #[.agg t6] w1 fun en w1_1 =>
 ∃ t7 : Bool, en = .returned (.bool t7) ∧
 IfB (!t7)
 (Q (.tuple #[.slice none 0 0, .int .i64 1]) w1_1)
 (∃ t9 : Array Value, LdA w1_1 (⟨b1, 0, none⟩ : Addr) 4 t9 ∧
 Calls prog 25 #[.agg t9] w1_1 fun en w1_2 =>
 ∃ t10 : Sl, en = .returned (.slice t10.a t10.l t10.c) ∧
 IfB (decide (((t10.l : Nat) : Int) > (256 : Int)))
 (Q (.tuple #[.slice none 0 0, .int .i64 3]) w1_2)
 (RunT prog .slice (Instr.makeSlice 30 (.int .i64 256) (.int .i64 256)) w1_2 fun (t14 : Sl) w1_3 =>
 RunT prog (.int .i64) (Builtin.copy_ #[30, 30] 3 #[.slice t14.a t14.l t14.c, .slice t10.a t10.l t10.c]) w1_3 fun (t17 : Int) w1_4 =>
 Q (.tuple #[.slice t14.a t14.l t14.c, .int .i64 0]) w1_4))
def an12 : Ann := { cut := fun i => none, loop := fun i => [] }
theorem eq12 (x0 : Array Value) (w : World) (Q : Value → World → Prop) : F12 x0 w Q = vc prog an12 (Try.f12.body.getD .skip) (envOf [.agg x0]) w (retK prog Try.f12 Q) := by kernel_rfl
theorem ok12 : codeOk Try.f12.ntmps (Try.f12.body.getD .skip) = true := by kernel_rfl
theorem W12 {x0 : Array Value} {w : World} {Q : Value → World → Prop} (h : F12 x0 w Q) : Calls prog 12 #[.agg x0] w fun en w' => ∃ v, en = .returned v ∧ Q v w' :=
  calls_of_vc good follows an12 (args := [.agg x0]) Try.func12 (by kernel_rfl) ok12 (of_decide_eq_true (by kernel_rfl)) (Eq.mp (eq12 x0 w Q) h)

/-- bastion/bastionref06.Encode -/
def F13 (x0 : Array Value) (w : World) (Q : Value → World → Prop) : Prop :=
 ∀ b1 w1, NewB w (.cells x0 25) b1 w1 →
 ∃ t5 : Array Value, LdA w1 (⟨b1, 0, none⟩ : Addr) 4 t5 ∧
 Calls prog 26 #[.agg t5] w1 fun en w1_1 =>
 ∃ t6 : Bool, en = .returned (.bool t6) ∧
 IfB (!t6)
 (Q (.tuple #[.slice none 0 0, .int .i64 1]) w1_1)
 (∃ t8 : Array Value, LdA w1_1 (⟨b1, 0, none⟩ : Addr) 4 t8 ∧
 Calls prog 27 #[.agg t8] w1_1 fun en w1_2 =>
 ∃ t9 : Sl, en = .returned (.slice t9.a t9.l t9.c) ∧
 IfB (decide (((t9.l : Nat) : Int) > (256 : Int)))
 (Q (.tuple #[.slice none 0 0, .int .i64 3]) w1_2)
 (RunT prog .slice (Builtin.append_ #[30, 3] 30 #[.slice t9.a t9.l t9.c, .int .i64 (IntKind.wrap .i64 ((256 : Int) - ((t9.l : Nat) : Int)))]) w1_2 fun (t17 : Sl) w1_3 =>
 Q (.tuple #[.slice t17.a t17.l t17.c, .int .i64 0]) w1_3))
def an13 : Ann := { cut := fun i => none, loop := fun i => [] }
theorem eq13 (x0 : Array Value) (w : World) (Q : Value → World → Prop) : F13 x0 w Q = vc prog an13 (Try.f13.body.getD .skip) (envOf [.agg x0]) w (retK prog Try.f13 Q) := by kernel_rfl
theorem ok13 : codeOk Try.f13.ntmps (Try.f13.body.getD .skip) = true := by kernel_rfl
theorem W13 {x0 : Array Value} {w : World} {Q : Value → World → Prop} (h : F13 x0 w Q) : Calls prog 13 #[.agg x0] w fun en w' => ∃ v, en = .returned v ∧ Q v w' :=
  calls_of_vc good follows an13 (args := [.agg x0]) Try.func13 (by kernel_rfl) ok13 (of_decide_eq_true (by kernel_rfl)) (Eq.mp (eq13 x0 w Q) h)

/-- bastion/node.Find -/
def F14 (x0 : Array Value) (x1 : ByteArray) (w : World) (Q : Value → World → Prop) : Prop :=
 ∀ b2 w1, NewB w (.cells x0 28) b2 w1 →
 ∀ b3 w1_1, NewB w1 (.cells #[.string x1] 9) b3 w1_1 →
 ∃ t7 : Array Value, LdA w1_1 (⟨b2, 0, none⟩ : Addr) 4 t7 ∧
 Calls prog 24 #[.agg t7] w1_1 fun en w1_2 =>
 ∃ t8 : Bool, en = .returned (.bool t8) ∧
 IfB (!t8)
 (Q (.tuple #[.int .i64 0, .bool false]) w1_2)
 (∃ t11 : Sl, Ld w1_2 ((⟨b2, 0, none⟩ : Addr).add 1) (.slice t11.a t11.l t11.c) ∧
 Calls prog 28 #[.int .i64 ((t11.l : Nat) : Int), .func (.func 29) #[] #[.pointer (some (⟨b2, 0, none⟩ : Addr)), .pointer (some (⟨b3, 0, none⟩ : Addr))]] w1_2 fun en w1_3 =>
 ∃ t14 : Int, en = .returned (.int .i64 t14) ∧
 ∃ t18 : Sl, Ld w1_3.drew ((⟨b2, 0, none⟩ : Addr).add 1) (.slice t18.a t18.l t18.c) ∧
 IfB (decide (t14 < ((t18.l : Nat) : Int)))
 (∃ t23 : Sl, Ld w1_3.drew ((⟨b2, 0, none⟩ : Addr).add 1) (.slice t23.a t23.l t23.c) ∧
 ∃ p25, t23.a = some p25 ∧ 0 ≤ t14 ∧ t14 < ((t23.l : Nat) : Int) ∧
 ∃ t26 : ByteArray, Ld w1_3.drew (p25.add ((t14).toNat * 1)) (.string t26) ∧
 ∃ t27 : ByteArray, Ld w1_3.drew (⟨b3, 0, none⟩ : Addr) (.string t27) ∧
 Q (.tuple #[.int .i64 t14, .bool (t26.toList == t27.toList)]) w1_3.drew)
 (Q (.tuple #[.int .i64 t14, .bool false]) w1_3.drew))
def an14 : Ann := { cut := fun i => none, loop := fun i => [] }
theorem eq14 (x0 : Array Value) (x1 : ByteArray) (w : World) (Q : Value → World → Prop) : F14 x0 x1 w Q = vc prog an14 (Try.f14.body.getD .skip) (envOf [.agg x0, .string x1]) w (retK prog Try.f14 Q) := by kernel_rfl
theorem ok14 : codeOk Try.f14.ntmps (Try.f14.body.getD .skip) = true := by kernel_rfl
theorem W14 {x0 : Array Value} {x1 : ByteArray} {w : World} {Q : Value → World → Prop} (h : F14 x0 x1 w Q) : Calls prog 14 #[.agg x0, .string x1] w fun en w' => ∃ v, en = .returned v ∧ Q v w' :=
  calls_of_vc good follows an14 (args := [.agg x0, .string x1]) Try.func14 (by kernel_rfl) ok14 (of_decide_eq_true (by kernel_rfl)) (Eq.mp (eq14 x0 x1 w Q) h)

/-- bastion/bastionref06.Find -/
def F15 (x0 : Array Value) (x1 : ByteArray) (w : World) (Q : Value → World → Prop) : Prop :=
 ∀ b2 w1, NewB w (.cells x0 25) b2 w1 →
 ∃ t7 : Array Value, LdA w1 (⟨b2, 0, none⟩ : Addr) 4 t7 ∧
 Calls prog 26 #[.agg t7] w1 fun en w1_1 =>
 ∃ t8 : Bool, en = .returned (.bool t8) ∧
 IfB (!t8)
 (Q (.tuple #[.int .i64 0, .bool false]) w1_1)
 (∃ (I : Nat → Int → World → Prop) (n0 : Nat), I n0 (0 : Int) w1_1 ∧
 ∀ (n : Nat) (u : Env) (x6 : Int) (w1_2 : World), I n x6 w1_2 →
 ∃ t12 : Sl, Ld w1_2 ((⟨b2, 0, none⟩ : Addr).add 1) (.slice t12.a t12.l t12.c) ∧
 IfB (decide (x6 < ((t12.l : Nat) : Int)))
 (∃ t17 : Sl, Ld w1_2 ((⟨b2, 0, none⟩ : Addr).add 1) (.slice t17.a t17.l t17.c) ∧
 ∃ p19, t17.a = some p19 ∧ 0 ≤ x6 ∧ x6 < ((t17.l : Nat) : Int) ∧
 ∃ t20 : ByteArray, Ld w1_2 (p19.add ((x6).toNat * 1)) (.string t20) ∧
 IfB (Op.bytesLess t20.toList x1.toList)
 (∃ n', n' < n ∧ I n' (IntKind.wrap .i64 (x6 + (1 : Int))) w1_2)
 (∃ t29 : Sl, Ld w1_2.drew ((⟨b2, 0, none⟩ : Addr).add 1) (.slice t29.a t29.l t29.c) ∧
 IfB (decide (x6 < ((t29.l : Nat) : Int)))
 (∃ t34 : Sl, Ld w1_2.drew ((⟨b2, 0, none⟩ : Addr).add 1) (.slice t34.a t34.l t34.c) ∧
 ∃ p36, t34.a = some p36 ∧ 0 ≤ x6 ∧ x6 < ((t34.l : Nat) : Int) ∧
 ∃ t37 : ByteArray, Ld w1_2.drew (p36.add ((x6).toNat * 1)) (.string t37) ∧
 Q (.tuple #[.int .i64 x6, .bool (t37.toList == x1.toList)]) w1_2.drew)
 (Q (.tuple #[.int .i64 x6, .bool false]) w1_2.drew)))
 (∃ t29 : Sl, Ld w1_2.drew ((⟨b2, 0, none⟩ : Addr).add 1) (.slice t29.a t29.l t29.c) ∧
 IfB (decide (x6 < ((t29.l : Nat) : Int)))
 (∃ t34 : Sl, Ld w1_2.drew ((⟨b2, 0, none⟩ : Addr).add 1) (.slice t34.a t34.l t34.c) ∧
 ∃ p36, t34.a = some p36 ∧ 0 ≤ x6 ∧ x6 < ((t34.l : Nat) : Int) ∧
 ∃ t37 : ByteArray, Ld w1_2.drew (p36.add ((x6).toNat * 1)) (.string t37) ∧
 Q (.tuple #[.int .i64 x6, .bool (t37.toList == x1.toList)]) w1_2.drew)
 (Q (.tuple #[.int .i64 x6, .bool false]) w1_2.drew)))
def an15 : Ann := { cut := fun i => none, loop := fun i => bif Nat.beq i 4 then [(6, .int .i64)] else [] }
theorem eq15 (x0 : Array Value) (x1 : ByteArray) (w : World) (Q : Value → World → Prop) : F15 x0 x1 w Q = vc prog an15 (Try.f15.body.getD .skip) (envOf [.agg x0, .string x1]) w (retK prog Try.f15 Q) := by kernel_rfl
theorem ok15 : codeOk Try.f15.ntmps (Try.f15.body.getD .skip) = true := by kernel_rfl
theorem W15 {x0 : Array Value} {x1 : ByteArray} {w : World} {Q : Value → World → Prop} (h : F15 x0 x1 w Q) : Calls prog 15 #[.agg x0, .string x1] w fun en w' => ∃ v, en = .returned v ∧ Q v w' :=
  calls_of_vc good follows an15 (args := [.agg x0, .string x1]) Try.func15 (by kernel_rfl) ok15 (of_decide_eq_true (by kernel_rfl)) (Eq.mp (eq15 x0 x1 w Q) h)

/-- bastion/node.Size -/
def F16 (x0 : Array Value) (w : World) (Q : Value → World → Prop) : Prop :=
 ∀ b1 w1, NewB w (.cells x0 28) b1 w1 →
 ∃ t3 : Array Value, LdA w1 (⟨b1, 0, none⟩ : Addr) 4 t3 ∧
 Calls prog 24 #[.agg t3] w1 fun en w1_1 =>
 ∃ t4 : Bool, en = .returned (.bool t4) ∧
 IfB (!t4)
 (Q (.int .i64 0) w1_1)
 (∃ t6 : Array Value, LdA w1_1 (⟨b1, 0, none⟩ : Addr) 4 t6 ∧
 Calls prog 25 #[.agg t6] w1_1 fun en w1_2 =>
 ∃ t7 : Sl, en = .returned (.slice t7.a t7.l t7.c) ∧
 Q (.int .i64 ((t7.l : Nat) : Int)) w1_2)
def an16 : Ann := { cut := fun i => none, loop := fun i => [] }
theorem eq16 (x0 : Array Value) (w : World) (Q : Value → World → Prop) : F16 x0 w Q = vc prog an16 (Try.f16.body.getD .skip) (envOf [.agg x0]) w (retK prog Try.f16 Q) := by kernel_rfl
theorem ok16 : codeOk Try.f16.ntmps (Try.f16.body.getD .skip) = true := by kernel_rfl
theorem W16 {x0 : Array Value} {w : World} {Q : Value → World → Prop} (h : F16 x0 w Q) : Calls prog 16 #[.agg x0] w fun en w' => ∃ v, en = .returned v ∧ Q v w' :=
  calls_of_vc good follows an16 (args := [.agg x0]) Try.func16 (by kernel_rfl) ok16 (of_decide_eq_true (by kernel_rfl)) (Eq.mp (eq16 x0 w Q) h)

/-- bastion/bastionref06.Size -/
def F17 (x0 : Array Value) (w : World) (Q : Value → World → Prop) : Prop :=
 ∀ b1 w1, NewB w (.cells x0 25) b1 w1 →
 ∃ t3 : Array Value, LdA w1 (⟨b1, 0, none⟩ : Addr) 4 t3 ∧
 Calls prog 26 #[.agg t3] w1 fun en w1_1 =>
 ∃ t4 : Bool, en = .returned (.bool t4) ∧
 IfB (!t4)
 (Q (.int .i64 0) w1_1)
 (∃ t6 : Array Value, LdA w1_1 (⟨b1, 0, none⟩ : Addr) 4 t6 ∧
 Calls prog 27 #[.agg t6] w1_1 fun en w1_2 =>
 ∃ t7 : Sl, en = .returned (.slice t7.a t7.l t7.c) ∧
 Q (.int .i64 ((t7.l : Nat) : Int)) w1_2)
def an17 : Ann := { cut := fun i => none, loop := fun i => [] }
theorem eq17 (x0 : Array Value) (w : World) (Q : Value → World → Prop) : F17 x0 w Q = vc prog an17 (Try.f17.body.getD .skip) (envOf [.agg x0]) w (retK prog Try.f17 Q) := by kernel_rfl
theorem ok17 : codeOk Try.f17.ntmps (Try.f17.body.getD .skip) = true := by kernel_rfl
theorem W17 {x0 : Array Value} {w : World} {Q : Value → World → Prop} (h : F17 x0 w Q) : Calls prog 17 #[.agg x0] w fun en w' => ∃ v, en = .returned v ∧ Q v w' :=
  calls_of_vc good follows an17 (args := [.agg x0]) Try.func17 (by kernel_rfl) ok17 (of_decide_eq_true (by kernel_rfl)) (Eq.mp (eq17 x0 w Q) h)

/-- bastion/node.Fits -/
def F18 (x0 : Array Value) (w : World) (Q : Value → World → Prop) : Prop :=
 ∀ b1 w1, NewB w (.cells x0 28) b1 w1 →
 ∃ t3 : Array Value, LdA w1 (⟨b1, 0, none⟩ : Addr) 4 t3 ∧
 Calls prog 24 #[.agg t3] w1 fun en w1_1 =>
 ∃ t4 : Bool, en = .returned (.bool t4) ∧
 IfB t4
 (∃ t6 : Array Value, LdA w1_1 (⟨b1, 0, none⟩ : Addr) 4 t6 ∧
 Calls prog 16 #[.agg t6] w1_1 fun en w1_2 =>
 ∃ t7 : Int, en = .returned (.int .i64 t7) ∧
 Q (.bool (decide (t7 ≤ (256 : Int)))) w1_2)
 (Q (.bool false) w1_1)
def an18 : Ann := { cut := fun i => none, loop := fun i => [] }
theorem eq18 (x0 : Array Value) (w : World) (Q : Value → World → Prop) : F18 x0 w Q = vc prog an18 (Try.f18.body.getD .skip) (envOf [.agg x0]) w (retK prog Try.f18 Q) := by kernel_rfl
theorem ok18 : codeOk Try.f18.ntmps (Try.f18.body.getD .skip) = true := by kernel_rfl
theorem W18 {x0 : Array Value} {w : World} {Q : Value → World → Prop} (h : F18 x0 w Q) : Calls prog 18 #[.agg x0] w fun en w' => ∃ v, en = .returned v ∧ Q v w' :=
  calls_of_vc good follows an18 (args := [.agg x0]) Try.func18 (by kernel_rfl) ok18 (of_decide_eq_true (by kernel_rfl)) (Eq.mp (eq18 x0 w Q) h)

/-- bastion/bastionref06.Same -/
def F19 (x0 : Array Value) (x1 : Array Value) (w : World) (Q : Value → World → Prop) : Prop :=
 ∀ b2 w1, NewB w (.cells x0 25) b2 w1 →
 ∀ b3 w1_1, NewB w1 (.cells x1 25) b3 w1_1 →
 ∃ J : Bool → World → Prop, (∃ t9 : Bool, Ld w1_1 ((⟨b2, 0, none⟩ : Addr).add 0) (.bool t9) ∧
 ∃ t11 : Bool, Ld w1_1 ((⟨b3, 0, none⟩ : Addr).add 0) (.bool t11) ∧
 ∃ b12 : Bool, BinIs prog .neq 4 (.tmp 9) (.tmp 11) (.bool t9) (.bool t11) b12 ∧
 IfB b12
 (J true w1_1)
 (∃ t15 : Sl, Ld w1_1 ((⟨b2, 0, none⟩ : Addr).add 1) (.slice t15.a t15.l t15.c) ∧
 ∃ t18 : Sl, Ld w1_1 ((⟨b3, 0, none⟩ : Addr).add 1) (.slice t18.a t18.l t18.c) ∧
 IfB (((t15.l : Nat) : Int) != ((t18.l : Nat) : Int))
 (J true w1_1)
 (∃ t24 : Sl, Ld w1_1 ((⟨b2, 0, none⟩ : Addr).add 2) (.slice t24.a t24.l t24.c) ∧
 ∃ t27 : Sl, Ld w1_1 ((⟨b3, 0, none⟩ : Addr).add 2) (.slice t27.a t27.l t27.c) ∧
 IfB (((t24.l : Nat) : Int) != ((t27.l : Nat) : Int))
 (J true w1_1)
 (∃ t33 : Sl, Ld w1_1 ((⟨b2, 0, none⟩ : Addr).add 3) (.slice t33.a t33.l t33.c) ∧
 ∃ t36 : Sl, Ld w1_1 ((⟨b3, 0, none⟩ : Addr).add 3) (.slice t36.a t36.l t36.c) ∧
 J (((t33.l : Nat) : Int) != ((t36.l : Nat) : Int)) w1_1)))) ∧
 (∀ (u : Env) (x39 : Bool) (w1_2 : World), J x39 w1_2 →
 IfB x39
 (Q (.bool false) w1_2)
 (∃ (I : Nat → Int → World → Prop) (n0 : Nat), I n0 (0 : Int) w1_2 ∧
 ∀ (n : Nat) (u_1 : Env) (x5 : Int) (w1_3 : World), I n x5 w1_3 →
 ∃ t42 : Sl, Ld w1_3 ((⟨b2, 0, none⟩ : Addr).add 1) (.slice t42.a t42.l t42.c) ∧
 IfB (decide (x5 < ((t42.l : Nat) : Int)))
 (∃ t48 : Sl, Ld w1_3.drew ((⟨b2, 0, none⟩ : Addr).add 1) (.slice t48.a t48.l t48.c) ∧
 ∃ p50, t48.a = some p50 ∧ 0 ≤ x5 ∧ x5 < ((t48.l : Nat) : Int) ∧
 ∃ t51 : ByteArray, Ld w1_3.drew (p50.add ((x5).toNat * 1)) (.string t51) ∧
 ∃ t53 : Sl, Ld w1_3.drew ((⟨b3, 0, none⟩ : Addr).add 1) (.slice t53.a t53.l t53.c) ∧
 ∃ p55, t53.a = some p55 ∧ 0 ≤ x5 ∧ x5 < ((t53.l : Nat) : Int) ∧
 ∃ t56 : ByteArray, Ld w1_3.drew (p55.add ((x5).toNat * 1)) (.string t56) ∧
 IfB (!(t51.toList == t56.toList))
 (Q (.bool false) w1_3.drew)
 (∃ n', n' < n ∧ I n' (IntKind.wrap .i64 (x5 + (1 : Int))) w1_3.drew))
 (∃ (I_1 : Nat → Int → World → Prop) (n0_1 : Nat), I_1 n0_1 (0 : Int) w1_3 ∧
 ∀ (n_1 : Nat) (u_2 : Env) (x6 : Int) (w1_4 : World), I_1 n_1 x6 w1_4 →
 ∃ t60 : Sl, Ld w1_4 ((⟨b2, 0, none⟩ : Addr).add 2) (.slice t60.a t60.l t60.c) ∧
 IfB (decide (x6 < ((t60.l : Nat) : Int)))
 (∃ t66 : Sl, Ld w1_4.drew ((⟨b2, 0, none⟩ : Addr).add 2) (.slice t66.a t66.l t66.c) ∧
 ∃ p68, t66.a = some p68 ∧ 0 ≤ x6 ∧ x6 < ((t66.l : Nat) : Int) ∧
 ∃ t69 : ByteArray, Ld w1_4.drew (p68.add ((x6).toNat * 1)) (.string t69) ∧
 ∃ t71 : Sl, Ld w1_4.drew ((⟨b3, 0, none⟩ : Addr).add 2) (.slice t71.a t71.l t71.c) ∧
 ∃ p73, t71.a = some p73 ∧ 0 ≤ x6 ∧ x6 < ((t71.l : Nat) : Int) ∧
 ∃ t74 : ByteArray, Ld w1_4.drew (p73.add ((x6).toNat * 1)) (.string t74) ∧
 IfB (!(t69.toList == t74.toList))
 (Q (.bool false) w1_4.drew)
 (∃ n', n' < n_1 ∧ I_1 n' (IntKind.wrap .i64 (x6 + (1 : Int))) w1_4.drew))
 (∃ (I_2 : Nat → Int → World → Prop) (n0_2 : Nat), I_2 n0_2 (0 : Int) w1_4 ∧
 ∀ (n_2 : Nat) (u_3 : Env) (x7 : Int) (w1_5 : World), I_2 n_2 x7 w1_5 →
 ∃ t78 : Sl, Ld w1_5 ((⟨b2, 0, none⟩ : Addr).add 3) (.slice t78.a t78.l t78.c) ∧
 IfB (decide (x7 < ((t78.l : Nat) : Int)))
 (∃ t84 : Sl, Ld w1_5.drew ((⟨b2, 0, none⟩ : Addr).add 3) (.slice t84.a t84.l t84.c) ∧
 ∃ p86, t84.a = some p86 ∧ 0 ≤ x7 ∧ x7 < ((t84.l : Nat) : Int) ∧
 ∃ t87 : Int, Ld w1_5.drew (p86.add ((x7).toNat * 1)) (.int .i64 t87) ∧
 ∃ t89 : Sl, Ld w1_5.drew ((⟨b3, 0, none⟩ : Addr).add 3) (.slice t89.a t89.l t89.c) ∧
 ∃ p91, t89.a = some p91 ∧ 0 ≤ x7 ∧ x7 < ((t89.l : Nat) : Int) ∧
 ∃ t92 : Int, Ld w1_5.drew (p91.add ((x7).toNat * 1)) (.int .i64 t92) ∧
 IfB (t87 != t92)
 (Q (.bool false) w1_5.drew)
 (∃ n', n' < n_2 ∧ I_2 n' (IntKind.wrap .i64 (x7 + (1 : Int))) w1_5.drew))
 (Q (.bool true) w1_5)))))
def an19 : Ann := { cut := fun i => bif Nat.beq i 2 then some [(39, .bool)] else none, loop := fun i => bif Nat.beq i 4 then [(5, .int .i64)] else bif Nat.beq i 9 then [(6, .int .i64)] else bif Nat.beq i 14 then [(7, .int .i64)] else [] }
theorem eq19 (x0 : Array Value) (x1 : Array Value) (w : World) (Q : Value → World → Prop) : F19 x0 x1 w Q = vc prog an19 (Try.f19.body.getD .skip) (envOf [.agg x0, .agg x1]) w (retK prog Try.f19 Q) := by kernel_rfl
theorem ok19 : codeOk Try.f19.ntmps (Try.f19.body.getD .skip) = true := by kernel_rfl
theorem W19 {x0 : Array Value} {x1 : Array Value} {w : World} {Q : Value → World → Prop} (h : F19 x0 x1 w Q) : Calls prog 19 #[.agg x0, .agg x1] w fun en w' => ∃ v, en = .returned v ∧ Q v w' :=
  calls_of_vc good follows an19 (args := [.agg x0, .agg x1]) Try.func19 (by kernel_rfl) ok19 (of_decide_eq_true (by kernel_rfl)) (Eq.mp (eq19 x0 x1 w Q) h)

/-- bastion/bastionlaw06.back -/
def F20 (x0 : Array Value) (w : World) (Q : Value → World → Prop) : Prop :=
 ∀ b1 w1, NewB w (.cells x0 28) b1 w1 →
 ∀ b2 w1_1, NewB w1 (.cells #[.bool false, .slice none 0 0, .slice none 0 0, .slice none 0 0] 25) b2 w1_1 →
 ∃ t4 : Bool, Ld w1_1 ((⟨b1, 0, none⟩ : Addr).add 0) (.bool t4) ∧
 ∃ t6 : Sl, Ld w1_1 ((⟨b1, 0, none⟩ : Addr).add 1) (.slice t6.a t6.l t6.c) ∧
 ∃ t8 : Sl, Ld w1_1 ((⟨b1, 0, none⟩ : Addr).add 2) (.slice t8.a t8.l t8.c) ∧
 ∃ t10 : Sl, Ld w1_1 ((⟨b1, 0, none⟩ : Addr).add 3) (.slice t10.a t10.l t10.c) ∧
 ∃ t11 : Array Value, BuildIs prog 25 #[(0, .bool t4), (1, .slice t6.a t6.l t6.c), (2, .slice t8.a t8.l t8.c), (3, .slice t10.a t10.l t10.c)] t11 ∧
 t11.size = 4 ∧ (∀ u, u ∈ t11.toList → u.oneCell' = true) ∧ WrA w1_1 (⟨b2, 0, none⟩ : Addr) 4 ∧ ∀ w1_2, w1_2 = setAt w1_1 (⟨b2, 0, none⟩ : Addr) t11.toList 0 →
 ∃ t2r : Array Value, LdA w1_2 (⟨b2, 0, none⟩ : Addr) 4 t2r ∧
 Q (.agg t2r) w1_2
def an20 : Ann := { cut := fun i => none, loop := fun i => [] }
theorem eq20 (x0 : Array Value) (w : World) (Q : Value → World → Prop) : F20 x0 w Q = vc prog an20 (Try.f20.body.getD .skip) (envOf [.agg x0]) w (retK prog Try.f20 Q) := by kernel_rfl
theorem ok20 : codeOk Try.f20.ntmps (Try.f20.body.getD .skip) = true := by kernel_rfl
theorem W20 {x0 : Array Value} {w : World} {Q : Value → World → Prop} (h : F20 x0 w Q) : Calls prog 20 #[.agg x0] w fun en w' => ∃ v, en = .returned v ∧ Q v w' :=
  calls_of_vc good follows an20 (args := [.agg x0]) Try.func20 (by kernel_rfl) ok20 (of_decide_eq_true (by kernel_rfl)) (Eq.mp (eq20 x0 w Q) h)

/-- bastion/node.Decode -/
def F21 (x0 : Sl) (w : World) (Q : Value → World → Prop) : Prop :=
 ∀ b2 w1, NewB w (.cells #[.bool false, .slice none 0 0, .slice none 0 0, .slice none 0 0] 28) b2 w1 →
 Calls prog 30 #[.slice x0.a x0.l x0.c] w1 fun en w1_1 =>
 ∃ t13 : Option Addr, en = .returned (.pointer t13) ∧
 ∀ b4 w1_2, NewB w1_1 (.cells #[.pointer none] 57) b4 w1_2 →
 Wr w1_2 (⟨b4, 0, none⟩ : Addr) ∧ ∀ w1_3, w1_3 = w1_2.setCell (⟨b4, 0, none⟩ : Addr) (.pointer t13) →
 ∃ t14 : Option Addr, Ld w1_3 (⟨b4, 0, none⟩ : Addr) (.pointer t14) ∧
 Calls prog 31 #[.pointer t14] w1_3 fun en w1_4 =>
 ∃ t15 : Bool, en = .returned (.bool t15) ∧
 ∃ t16 : Array Value, BuildIs prog 28 #[(0, .bool t15)] t16 ∧
 ∀ b5 w1_5, NewB w1_4 (.cells #[.bool false, .slice none 0 0, .slice none 0 0, .slice none 0 0] 28) b5 w1_5 →
 t16.size = 4 ∧ (∀ u, u ∈ t16.toList → u.oneCell' = true) ∧ WrA w1_5 (⟨b5, 0, none⟩ : Addr) 4 ∧ ∀ w1_6, w1_6 = setAt w1_5 (⟨b5, 0, none⟩ : Addr) t16.toList 0 →
 ∃ t17 : Option Addr, Ld w1_6 (⟨b4, 0, none⟩ : Addr) (.pointer t17) ∧
 Calls prog 32 #[.pointer t17, .int .i64 256] w1_6 fun en w1_7 =>
 ∃ t18 : Int, en = .returned (.int .i64 t18) ∧
 ∃ J : Value → World → Prop, (∃ t23 : Bool, Ld w1_7 ((⟨b5, 0, none⟩ : Addr).add 0) (.bool t23) ∧
 IfB (!t23)
 (CallV prog (.func (.func 33) #[] #[.pointer (some (⟨b5, 0, none⟩ : Addr)), .pointer (some (⟨b4, 0, none⟩ : Addr))]) #[] w1_7 fun v27 w1_8 =>
 v27 = (.tuple #[]) ∧
 J (.func (.func 33) #[] #[.pointer (some (⟨b5, 0, none⟩ : Addr)), .pointer (some (⟨b4, 0, none⟩ : Addr))]) w1_8)
 (J (.func (.func 34) #[] #[.pointer (some (⟨b5, 0, none⟩ : Addr)), .pointer (some (⟨b4, 0, none⟩ : Addr))]) w1_7)) ∧
 (∀ (u : Env) (x9 : Value) (w1_8 : World), J x9 w1_8 →
 ∃ (I : Nat → Int → World → Prop) (n0 : Nat), I n0 (0 : Int) w1_8 ∧
 ∀ (n : Nat) (u_1 : Env) (x29 : Int) (w1_9 : World), I n x29 w1_9 →
 IfB (decide (x29 < t18))
 (∃ S : World → Prop, S w1_9.drew ∧
 ∃ t32 : Sl, (∀ w', S w' → Ld w' ((⟨b5, 0, none⟩ : Addr).add 1) (.slice t32.a t32.l t32.c)) ∧
 ∃ t33 : Option Addr, (∀ w', S w' → Ld w' (⟨b4, 0, none⟩ : Addr) (.pointer t33)) ∧
 Calls prog 35 #[.pointer t33, .int .i64 32] w1_9.drew fun en w1_10 =>
 ∃ t34 : ByteArray, en = .returned (.string t34) ∧
 S w1_10 ∧
 RunT prog .slice (Instr.buildSlice 22 1 #[(0, .string t34)]) w1_10 fun (t35 : Sl) w1_11 =>
 S w1_11 ∧
 RunT prog .slice (Builtin.append_ #[22, 22] 22 #[.slice t32.a t32.l t32.c, .slice t35.a t35.l t35.c]) w1_11 fun (t36 : Sl) w1_12 =>
 Wr w1_12 ((⟨b5, 0, none⟩ : Addr).add 1) ∧ ∀ w1_13, w1_13 = w1_12.setCell ((⟨b5, 0, none⟩ : Addr).add 1) (.slice t36.a t36.l t36.c) →
 CallV prog x9 #[] w1_13 fun v39 w1_14 =>
 v39 = (.tuple #[]) ∧
 ∃ n', n' < n ∧ I n' (IntKind.wrap .i64 (x29 + (1 : Int))) w1_14)
 (∃ t41 : Option Addr, Ld w1_9 (⟨b4, 0, none⟩ : Addr) (.pointer t41) ∧
 Calls prog 36 #[.pointer t41] w1_9 fun en w1_10 =>
 ∃ t42 : Bool, en = .returned (.bool t42) ∧
 IfB (!t42)
 (∃ t44 : Array Value, BuildIs prog 28 #[] t44 ∧
 t44.size = 4 ∧ (∀ u, u ∈ t44.toList → u.oneCell' = true) ∧ WrA w1_10 (⟨b2, 0, none⟩ : Addr) 4 ∧ ∀ w1_11, w1_11 = setAt w1_10 (⟨b2, 0, none⟩ : Addr) t44.toList 0 →
 ∃ t2r : Array Value, LdA w1_11 (⟨b2, 0, none⟩ : Addr) 4 t2r ∧
 Q (.tuple #[.agg t2r, .int .i64 4]) w1_11)
 (∃ t46 : Array Value, LdA w1_10 (⟨b5, 0, none⟩ : Addr) 4 t46 ∧
 Calls prog 12 #[.agg t46] w1_10 fun en w1_11 =>
 ∃ t47a : Sl, ∃ t47b : Int, en = .returned (.tuple #[.slice t47a.a t47a.l t47a.c, .int .i64 t47b]) ∧
 IfB (t47b != (0 : Int))
 (∃ t58 : Array Value, BuildIs prog 28 #[] t58 ∧
 t58.size = 4 ∧ (∀ u, u ∈ t58.toList → u.oneCell' = true) ∧ WrA w1_11 (⟨b2, 0, none⟩ : Addr) 4 ∧ ∀ w1_12, w1_12 = setAt w1_11 (⟨b2, 0, none⟩ : Addr) t58.toList 0 →
 ∃ t2r : Array Value, LdA w1_12 (⟨b2, 0, none⟩ : Addr) 4 t2r ∧
 Q (.tuple #[.agg t2r, .int .i64 4]) w1_12)
 (Calls prog 37 #[.slice t47a.a t47a.l t47a.c, .slice x0.a x0.l x0.c] w1_11 fun en w1_12 =>
 ∃ t55 : Bool, en = .returned (.bool t55) ∧
 IfB (!t55)
 (∃ t58 : Array Value, BuildIs prog 28 #[] t58 ∧
 t58.size = 4 ∧ (∀ u, u ∈ t58.toList → u.oneCell' = true) ∧ WrA w1_12 (⟨b2, 0, none⟩ : Addr) 4 ∧ ∀ w1_13, w1_13 = setAt w1_12 (⟨b2, 0, none⟩ : Addr) t58.toList 0 →
 ∃ t2r : Array Value, LdA w1_13 (⟨b2, 0, none⟩ : Addr) 4 t2r ∧
 Q (.tuple #[.agg t2r, .int .i64 4]) w1_13)
 (∃ t59 : Array Value, LdA w1_12 (⟨b5, 0, none⟩ : Addr) 4 t59 ∧
 t59.size = 4 ∧ (∀ u, u ∈ t59.toList → u.oneCell' = true) ∧ WrA w1_12 (⟨b2, 0, none⟩ : Addr) 4 ∧ ∀ w1_13, w1_13 = setAt w1_12 (⟨b2, 0, none⟩ : Addr) t59.toList 0 →
 ∃ t2r : Array Value, LdA w1_13 (⟨b2, 0, none⟩ : Addr) 4 t2r ∧
 Q (.tuple #[.agg t2r, .int .i64 0]) w1_13)))))
def an21 : Ann := { cut := fun i => bif Nat.beq i 10 then some [(9, .val)] else none, loop := fun i => bif Nat.beq i 11 then [(29, .int .i64)] else [] }
theorem eq21 (x0 : Sl) (w : World) (Q : Value → World → Prop) : F21 x0 w Q = vc prog an21 (Try.f21.body.getD .skip) (envOf [.slice x0.a x0.l x0.c]) w (retK prog Try.f21 Q) := by kernel_rfl
theorem ok21 : codeOk Try.f21.ntmps (Try.f21.body.getD .skip) = true := by kernel_rfl
theorem W21 {x0 : Sl} {w : World} {Q : Value → World → Prop} (h : F21 x0 w Q) : Calls prog 21 #[.slice x0.a x0.l x0.c] w fun en w' => ∃ v, en = .returned v ∧ Q v w' :=
  calls_of_vc good follows an21 (args := [.slice x0.a x0.l x0.c]) Try.func21 (by kernel_rfl) ok21 (of_decide_eq_true (by kernel_rfl)) (Eq.mp (eq21 x0 w Q) h)

/-- bastion/bastionref06.Decode -/
def F22 (x0 : Sl) (w : World) (Q : Value → World → Prop) : Prop :=
 ∀ b2 w1, NewB w (.cells #[.bool false, .slice none 0 0, .slice none 0 0, .slice none 0 0] 25) b2 w1 →
 Calls prog 38 #[.slice x0.a x0.l x0.c] w1 fun en w1_1 =>
 ∃ t11 : Option Addr, en = .returned (.pointer t11) ∧
 Calls prog 39 #[.pointer t11] w1_1 fun en w1_2 =>
 ∃ t13 : Bool, en = .returned (.bool t13) ∧
 ∃ t14 : Array Value, BuildIs prog 25 #[(0, .bool t13)] t14 ∧
 ∀ b5 w1_3, NewB w1_2 (.cells #[.bool false, .slice none 0 0, .slice none 0 0, .slice none 0 0] 25) b5 w1_3 →
 t14.size = 4 ∧ (∀ u, u ∈ t14.toList → u.oneCell' = true) ∧ WrA w1_3 (⟨b5, 0, none⟩ : Addr) 4 ∧ ∀ w1_4, w1_4 = setAt w1_3 (⟨b5, 0, none⟩ : Addr) t14.toList 0 →
 Calls prog 40 #[.pointer t11, .int .i64 256] w1_4 fun en w1_5 =>
 ∃ t16 : Int, en = .returned (.int .i64 t16) ∧
 ∃ J : World → Prop, (∃ t18 : Bool, Ld w1_5 ((⟨b5, 0, none⟩ : Addr).add 0) (.bool t18) ∧
 IfB (!t18)
 (∃ S : World → Prop, S w1_5.drew ∧
 ∃ t21 : Sl, (∀ w', S w' → Ld w' ((⟨b5, 0, none⟩ : Addr).add 3) (.slice t21.a t21.l t21.c)) ∧
 Calls prog 40 #[.pointer t11, .int .i64 32768] w1_5.drew fun en w1_6 =>
 ∃ t23 : Int, en = .returned (.int .i64 t23) ∧
 S w1_6 ∧
 RunT prog .slice (Instr.buildSlice 23 1 #[(0, .int .i64 t23)]) w1_6 fun (t24 : Sl) w1_7 =>
 S w1_7 ∧
 RunT prog .slice (Builtin.append_ #[23, 23] 23 #[.slice t21.a t21.l t21.c, .slice t24.a t24.l t24.c]) w1_7 fun (t25 : Sl) w1_8 =>
 Wr w1_8 ((⟨b5, 0, none⟩ : Addr).add 3) ∧ ∀ w1_9, w1_9 = w1_8.setCell ((⟨b5, 0, none⟩ : Addr).add 3) (.slice t25.a t25.l t25.c) →
 J  w1_9)
 (J  w1_5)) ∧
 (∀ (u : Env) (w1_6 : World), J  w1_6 →
 ∃ J_1 : World → Prop, (∃ (I : Nat → Int → World → Prop) (n0 : Nat), I n0 (0 : Int) w1_6 ∧
 ∀ (n : Nat) (u_1 : Env) (x7 : Int) (w1_7 : World), I n x7 w1_7 →
 ∃ J_2 : World → Prop, (IfB (decide (x7 < t16))
 (Calls prog 41 #[.pointer t11] w1_7 fun en w1_8 =>
 ∃ t32 : Bool, en = .returned (.bool t32) ∧
 IfB t32
 (J_2  w1_8)
 (J_1  w1_8))
 (J_1  w1_7)) ∧
 (∀ (u_2 : Env) (w1_8 : World), J_2  w1_8 →
 ∃ S : World → Prop, S w1_8.drew ∧
 ∃ t37 : Sl, (∀ w', S w' → Ld w' ((⟨b5, 0, none⟩ : Addr).add 1) (.slice t37.a t37.l t37.c)) ∧
 Calls prog 42 #[.pointer t11, .int .i64 32] w1_8.drew fun en w1_9 =>
 ∃ t39 : ByteArray, en = .returned (.string t39) ∧
 S w1_9 ∧
 RunT prog .slice (Instr.buildSlice 22 1 #[(0, .string t39)]) w1_9 fun (t40 : Sl) w1_10 =>
 S w1_10 ∧
 RunT prog .slice (Builtin.append_ #[22, 22] 22 #[.slice t37.a t37.l t37.c, .slice t40.a t40.l t40.c]) w1_10 fun (t41 : Sl) w1_11 =>
 Wr w1_11 ((⟨b5, 0, none⟩ : Addr).add 1) ∧ ∀ w1_12, w1_12 = w1_11.setCell ((⟨b5, 0, none⟩ : Addr).add 1) (.slice t41.a t41.l t41.c) →
 ∃ t44 : Bool, Ld w1_12 ((⟨b5, 0, none⟩ : Addr).add 0) (.bool t44) ∧
 IfB t44
 (∃ S_1 : World → Prop, S_1 w1_12.drew ∧
 ∃ t46 : Sl, (∀ w', S_1 w' → Ld w' ((⟨b5, 0, none⟩ : Addr).add 2) (.slice t46.a t46.l t46.c)) ∧
 Calls prog 42 #[.pointer t11, .int .i64 64] w1_12.drew fun en w1_13 =>
 ∃ t48 : ByteArray, en = .returned (.string t48) ∧
 S_1 w1_13 ∧
 RunT prog .slice (Instr.buildSlice 22 1 #[(0, .string t48)]) w1_13 fun (t49 : Sl) w1_14 =>
 S_1 w1_14 ∧
 RunT prog .slice (Builtin.append_ #[22, 22] 22 #[.slice t46.a t46.l t46.c, .slice t49.a t49.l t49.c]) w1_14 fun (t50 : Sl) w1_15 =>
 Wr w1_15 ((⟨b5, 0, none⟩ : Addr).add 2) ∧ ∀ w1_16, w1_16 = w1_15.setCell ((⟨b5, 0, none⟩ : Addr).add 2) (.slice t50.a t50.l t50.c) →
 ∃ n', n' < n ∧ I n' (IntKind.wrap .i64 (x7 + (1 : Int))) w1_16)
 (∃ S_1 : World → Prop, S_1 w1_12.drew ∧
 ∃ t53 : Sl, (∀ w', S_1 w' → Ld w' ((⟨b5, 0, none⟩ : Addr).add 3) (.slice t53.a t53.l t53.c)) ∧
 Calls prog 40 #[.pointer t11, .int .i64 32768] w1_12.drew fun en w1_13 =>
 ∃ t55 : Int, en = .returned (.int .i64 t55) ∧
 S_1 w1_13 ∧
 RunT prog .slice (Instr.buildSlice 23 1 #[(0, .int .i64 t55)]) w1_13 fun (t56 : Sl) w1_14 =>
 S_1 w1_14 ∧
 RunT prog .slice (Builtin.append_ #[23, 23] 23 #[.slice t53.a t53.l t53.c, .slice t56.a t56.l t56.c]) w1_14 fun (t57 : Sl) w1_15 =>
 Wr w1_15 ((⟨b5, 0, none⟩ : Addr).add 3) ∧ ∀ w1_16, w1_16 = w1_15.setCell ((⟨b5, 0, none⟩ : Addr).add 3) (.slice t57.a t57.l t57.c) →
 ∃ n', n' < n ∧ I n' (IntKind.wrap .i64 (x7 + (1 : Int))) w1_16))) ∧
 (∀ (u_1 : Env) (w1_7 : World), J_1  w1_7 →
 ∃ J_2 : Bool → World → Prop, (Calls prog 41 #[.pointer t11] w1_7 fun en w1_8 =>
 ∃ t60 : Bool, en = .returned (.bool t60) ∧
 IfB (!t60)
 (J_2 true w1_8)
 (∃ t63 : Array Value, LdA w1_8 (⟨b5, 0, none⟩ : Addr) 4 t63 ∧
 Calls prog 26 #[.agg t63] w1_8 fun en w1_9 =>
 ∃ t64 : Bool, en = .returned (.bool t64) ∧
 J_2 (!t64) w1_9)) ∧
 (∀ (u_2 : Env) (x66 : Bool) (w1_8 : World), J_2 x66 w1_8 →
 IfB x66
 (∃ t67 : Array Value, BuildIs prog 25 #[] t67 ∧
 t67.size = 4 ∧ (∀ u, u ∈ t67.toList → u.oneCell' = true) ∧ WrA w1_8 (⟨b2, 0, none⟩ : Addr) 4 ∧ ∀ w1_9, w1_9 = setAt w1_8 (⟨b2, 0, none⟩ : Addr) t67.toList 0 →
 ∃ t2r : Array Value, LdA w1_9 (⟨b2, 0, none⟩ : Addr) 4 t2r ∧
 Q (.tuple #[.agg t2r, .int .i64 4]) w1_9)
 (∃ t69 : Array Value, LdA w1_8 (⟨b5, 0, none⟩ : Addr) 4 t69 ∧
 Calls prog 13 #[.agg t69] w1_8 fun en w1_9 =>
 ∃ t70a : Sl, ∃ t70b : Int, en = .returned (.tuple #[.slice t70a.a t70a.l t70a.c, .int .i64 t70b]) ∧
 IfB (t70b != (0 : Int))
 (∃ t82 : Array Value, BuildIs prog 25 #[] t82 ∧
 t82.size = 4 ∧ (∀ u, u ∈ t82.toList → u.oneCell' = true) ∧ WrA w1_9 (⟨b2, 0, none⟩ : Addr) 4 ∧ ∀ w1_10, w1_10 = setAt w1_9 (⟨b2, 0, none⟩ : Addr) t82.toList 0 →
 ∃ t2r : Array Value, LdA w1_10 (⟨b2, 0, none⟩ : Addr) 4 t2r ∧
 Q (.tuple #[.agg t2r, .int .i64 4]) w1_10)
 (RunT prog .str (convert 30 9 (.slice t70a.a t70a.l t70a.c)) w1_9 fun (t77 : ByteArray) w1_10 =>
 RunT prog .str (convert 30 9 (.slice x0.a x0.l x0.c)) w1_10 fun (t79 : ByteArray) w1_11 =>
 IfB (!(t77.toList == t79.toList))
 (∃ t82 : Array Value, BuildIs prog 25 #[] t82 ∧
 t82.size = 4 ∧ (∀ u, u ∈ t82.toList → u.oneCell' = true) ∧ WrA w1_11 (⟨b2, 0, none⟩ : Addr) 4 ∧ ∀ w1_12, w1_12 = setAt w1_11 (⟨b2, 0, none⟩ : Addr) t82.toList 0 →
 ∃ t2r : Array Value, LdA w1_12 (⟨b2, 0, none⟩ : Addr) 4 t2r ∧
 Q (.tuple #[.agg t2r, .int .i64 4]) w1_12)
 (∃ t83 : Array Value, LdA w1_11 (⟨b5, 0, none⟩ : Addr) 4 t83 ∧
 t83.size = 4 ∧ (∀ u, u ∈ t83.toList → u.oneCell' = true) ∧ WrA w1_11 (⟨b2, 0, none⟩ : Addr) 4 ∧ ∀ w1_12, w1_12 = setAt w1_11 (⟨b2, 0, none⟩ : Addr) t83.toList 0 →
 ∃ t2r : Array Value, LdA w1_12 (⟨b2, 0, none⟩ : Addr) 4 t2r ∧
 Q (.tuple #[.agg t2r, .int .i64 0]) w1_12))))))
def an22 : Ann := { cut := fun i => bif Nat.beq i 6 then some [] else bif Nat.beq i 9 then some [] else bif Nat.beq i 13 then some [] else bif Nat.beq i 14 then some [(66, .bool)] else none, loop := fun i => bif Nat.beq i 7 then [(7, .int .i64)] else [] }
theorem eq22 (x0 : Sl) (w : World) (Q : Value → World → Prop) : F22 x0 w Q = vc prog an22 (Try.f22.body.getD .skip) (envOf [.slice x0.a x0.l x0.c]) w (retK prog Try.f22 Q) := by kernel_rfl
theorem ok22 : codeOk Try.f22.ntmps (Try.f22.body.getD .skip) = true := by kernel_rfl
theorem W22 {x0 : Sl} {w : World} {Q : Value → World → Prop} (h : F22 x0 w Q) : Calls prog 22 #[.slice x0.a x0.l x0.c] w fun en w' => ∃ v, en = .returned v ∧ Q v w' :=
  calls_of_vc good follows an22 (args := [.slice x0.a x0.l x0.c]) Try.func22 (by kernel_rfl) ok22 (of_decide_eq_true (by kernel_rfl)) (Eq.mp (eq22 x0 w Q) h)

/-- bastion/bastionref06.Without -/
def F23 (x0 : Array Value) (x1 : Int) (w : World) (Q : Value → World → Prop) : Prop :=
 ∀ b2 w1, NewB w (.cells x0 25) b2 w1 →
 ∀ b4 w1_1, NewB w1 (.cells #[.bool false, .slice none 0 0, .slice none 0 0, .slice none 0 0] 25) b4 w1_1 →
 ∃ t10 : Bool, Ld w1_1 ((⟨b2, 0, none⟩ : Addr).add 0) (.bool t10) ∧
 ∃ t11 : Array Value, BuildIs prog 25 #[(0, .bool t10)] t11 ∧
 ∀ b5 w1_2, NewB w1_1 (.cells #[.bool false, .slice none 0 0, .slice none 0 0, .slice none 0 0] 25) b5 w1_2 →
 t11.size = 4 ∧ (∀ u, u ∈ t11.toList → u.oneCell' = true) ∧ WrA w1_2 (⟨b5, 0, none⟩ : Addr) 4 ∧ ∀ w1_3, w1_3 = setAt w1_2 (⟨b5, 0, none⟩ : Addr) t11.toList 0 →
 ∃ (I : Nat → Int → World → Prop) (n0 : Nat), I n0 (0 : Int) w1_3 ∧
 ∀ (n : Nat) (u : Env) (x6 : Int) (w1_4 : World), I n x6 w1_4 →
 ∃ t14 : Sl, Ld w1_4 ((⟨b2, 0, none⟩ : Addr).add 1) (.slice t14.a t14.l t14.c) ∧
 IfB (decide (x6 < ((t14.l : Nat) : Int)))
 (IfB (x6 != x1)
 (∃ S : World → Prop, S w1_4.drew ∧
 ∃ t23 : Sl, (∀ w', S w' → Ld w' ((⟨b5, 0, none⟩ : Addr).add 1) (.slice t23.a t23.l t23.c)) ∧
 ∃ t25 : Sl, (∀ w', S w' → Ld w' ((⟨b2, 0, none⟩ : Addr).add 1) (.slice t25.a t25.l t25.c)) ∧
 ∃ p27, t25.a = some p27 ∧ 0 ≤ x6 ∧ x6 < ((t25.l : Nat) : Int) ∧
 ∃ t28 : ByteArray, (∀ w', S w' → Ld w' (p27.add ((x6).toNat * 1)) (.string t28)) ∧
 RunT prog .slice (Instr.buildSlice 22 1 #[(0, .string t28)]) w1_4.drew fun (t29 : Sl) w1_5 =>
 S w1_5 ∧
 RunT prog .slice (Builtin.append_ #[22, 22] 22 #[.slice t23.a t23.l t23.c, .slice t29.a t29.l t29.c]) w1_5 fun (t30 : Sl) w1_6 =>
 Wr w1_6 ((⟨b5, 0, none⟩ : Addr).add 1) ∧ ∀ w1_7, w1_7 = w1_6.setCell ((⟨b5, 0, none⟩ : Addr).add 1) (.slice t30.a t30.l t30.c) →
 ∃ n', n' < n ∧ I n' (IntKind.wrap .i64 (x6 + (1 : Int))) w1_7)
 (∃ n', n' < n ∧ I n' (IntKind.wrap .i64 (x6 + (1 : Int))) w1_4))
 (∃ (I_1 : Nat → Int → World → Prop) (n0_1 : Nat), I_1 n0_1 (0 : Int) w1_4 ∧
 ∀ (n_1 : Nat) (u_1 : Env) (x7 : Int) (w1_5 : World), I_1 n_1 x7 w1_5 →
 ∃ t34 : Sl, Ld w1_5 ((⟨b2, 0, none⟩ : Addr).add 2) (.slice t34.a t34.l t34.c) ∧
 IfB (decide (x7 < ((t34.l : Nat) : Int)))
 (IfB (x7 != x1)
 (∃ S : World → Prop, S w1_5.drew ∧
 ∃ t43 : Sl, (∀ w', S w' → Ld w' ((⟨b5, 0, none⟩ : Addr).add 2) (.slice t43.a t43.l t43.c)) ∧
 ∃ t45 : Sl, (∀ w', S w' → Ld w' ((⟨b2, 0, none⟩ : Addr).add 2) (.slice t45.a t45.l t45.c)) ∧
 ∃ p47, t45.a = some p47 ∧ 0 ≤ x7 ∧ x7 < ((t45.l : Nat) : Int) ∧
 ∃ t48 : ByteArray, (∀ w', S w' → Ld w' (p47.add ((x7).toNat * 1)) (.string t48)) ∧
 RunT prog .slice (Instr.buildSlice 22 1 #[(0, .string t48)]) w1_5.drew fun (t49 : Sl) w1_6 =>
 S w1_6 ∧
 RunT prog .slice (Builtin.append_ #[22, 22] 22 #[.slice t43.a t43.l t43.c, .slice t49.a t49.l t49.c]) w1_6 fun (t50 : Sl) w1_7 =>
 Wr w1_7 ((⟨b5, 0, none⟩ : Addr).add 2) ∧ ∀ w1_8, w1_8 = w1_7.setCell ((⟨b5, 0, none⟩ : Addr).add 2) (.slice t50.a t50.l t50.c) →
 ∃ n', n' < n_1 ∧ I_1 n' (IntKind.wrap .i64 (x7 + (1 : Int))) w1_8)
 (∃ n', n' < n_1 ∧ I_1 n' (IntKind.wrap .i64 (x7 + (1 : Int))) w1_5))
 (∃ (I_2 : Nat → Int → World → Prop) (n0_2 : Nat), I_2 n0_2 (0 : Int) w1_5 ∧
 ∀ (n_2 : Nat) (u_2 : Env) (x8 : Int) (w1_6 : World), I_2 n_2 x8 w1_6 →
 ∃ t54 : Sl, Ld w1_6 ((⟨b2, 0, none⟩ : Addr).add 3) (.slice t54.a t54.l t54.c) ∧
 IfB (decide (x8 < ((t54.l : Nat) : Int)))
 (IfB (x8 != IntKind.wrap .i64 (x1 + (1 : Int)))
 (∃ S : World → Prop, S w1_6.drew ∧
 ∃ t64 : Sl, (∀ w', S w' → Ld w' ((⟨b5, 0, none⟩ : Addr).add 3) (.slice t64.a t64.l t64.c)) ∧
 ∃ t66 : Sl, (∀ w', S w' → Ld w' ((⟨b2, 0, none⟩ : Addr).add 3) (.slice t66.a t66.l t66.c)) ∧
 ∃ p68, t66.a = some p68 ∧ 0 ≤ x8 ∧ x8 < ((t66.l : Nat) : Int) ∧
 ∃ t69 : Int, (∀ w', S w' → Ld w' (p68.add ((x8).toNat * 1)) (.int .i64 t69)) ∧
 RunT prog .slice (Instr.buildSlice 23 1 #[(0, .int .i64 t69)]) w1_6.drew fun (t70 : Sl) w1_7 =>
 S w1_7 ∧
 RunT prog .slice (Builtin.append_ #[23, 23] 23 #[.slice t64.a t64.l t64.c, .slice t70.a t70.l t70.c]) w1_7 fun (t71 : Sl) w1_8 =>
 Wr w1_8 ((⟨b5, 0, none⟩ : Addr).add 3) ∧ ∀ w1_9, w1_9 = w1_8.setCell ((⟨b5, 0, none⟩ : Addr).add 3) (.slice t71.a t71.l t71.c) →
 ∃ n', n' < n_2 ∧ I_2 n' (IntKind.wrap .i64 (x8 + (1 : Int))) w1_9)
 (∃ n', n' < n_2 ∧ I_2 n' (IntKind.wrap .i64 (x8 + (1 : Int))) w1_6))
 (∃ t73 : Array Value, LdA w1_6 (⟨b5, 0, none⟩ : Addr) 4 t73 ∧
 t73.size = 4 ∧ (∀ u, u ∈ t73.toList → u.oneCell' = true) ∧ WrA w1_6 (⟨b4, 0, none⟩ : Addr) 4 ∧ ∀ w1_7, w1_7 = setAt w1_6 (⟨b4, 0, none⟩ : Addr) t73.toList 0 →
 ∃ t4r : Array Value, LdA w1_7 (⟨b4, 0, none⟩ : Addr) 4 t4r ∧
 Q (.agg t4r) w1_7)))
def an23 : Ann := { cut := fun i => none, loop := fun i => bif Nat.beq i 3 then [(6, .int .i64)] else bif Nat.beq i 8 then [(7, .int .i64)] else bif Nat.beq i 13 then [(8, .int .i64)] else [] }
theorem eq23 (x0 : Array Value) (x1 : Int) (w : World) (Q : Value → World → Prop) : F23 x0 x1 w Q = vc prog an23 (Try.f23.body.getD .skip) (envOf [.agg x0, .int .i64 x1]) w (retK prog Try.f23 Q) := by kernel_rfl
theorem ok23 : codeOk Try.f23.ntmps (Try.f23.body.getD .skip) = true := by kernel_rfl
theorem W23 {x0 : Array Value} {x1 : Int} {w : World} {Q : Value → World → Prop} (h : F23 x0 x1 w Q) : Calls prog 23 #[.agg x0, .int .i64 x1] w fun en w' => ∃ v, en = .returned v ∧ Q v w' :=
  calls_of_vc good follows an23 (args := [.agg x0, .int .i64 x1]) Try.func23 (by kernel_rfl) ok23 (of_decide_eq_true (by kernel_rfl)) (Eq.mp (eq23 x0 x1 w Q) h)

/-- (bastion/node.Node).may -/
def F24 (x0 : Array Value) (w : World) (Q : Value → World → Prop) : Prop :=
 ∀ b1 w1, NewB w (.cells x0 28) b1 w1 →
 ∃ t10 : Sl, Ld w1 ((⟨b1, 0, none⟩ : Addr).add 1) (.slice t10.a t10.l t10.c) ∧
 ∃ (I : Nat → Int → World → Prop) (n0 : Nat), I n0 (0 : Int) w1 ∧
 ∀ (n : Nat) (u : Env) (x12 : Int) (w1_1 : World), I n x12 w1_1 →
 IfB (decide (x12 < ((t10.l : Nat) : Int)))
 (∃ p15, t10.a = some p15 ∧ 0 ≤ x12 ∧ x12 < ((t10.l : Nat) : Int) ∧
 ∃ t16 : ByteArray, Ld w1_1 (p15.add ((x12).toNat * 1)) (.string t16) ∧
 IfB (t16.toList == (⟨#[]⟩ : ByteArray).toList)
 (Q (.bool false) w1_1)
 (IfB (decide (((t16.size : Nat) : Int) > (32 : Int)))
 (Q (.bool false) w1_1)
 (IfB (decide (x12 > (0 : Int)))
 (∃ t29 : Sl, Ld w1_1 ((⟨b1, 0, none⟩ : Addr).add 1) (.slice t29.a t29.l t29.c) ∧
 ∃ p32, t29.a = some p32 ∧ 0 ≤ IntKind.wrap .i64 (x12 - (1 : Int)) ∧ IntKind.wrap .i64 (x12 - (1 : Int)) < ((t29.l : Nat) : Int) ∧
 ∃ t33 : ByteArray, Ld w1_1 (p32.add ((IntKind.wrap .i64 (x12 - (1 : Int))).toNat * 1)) (.string t33) ∧
 IfB (!(Op.bytesLess t33.toList t16.toList))
 (Q (.bool false) w1_1)
 (∃ n', n' < n ∧ I n' (IntKind.wrap .i64 (x12 + (1 : Int))) w1_1))
 (∃ n', n' < n ∧ I n' (IntKind.wrap .i64 (x12 + (1 : Int))) w1_1))))
 (∃ t40 : Sl, Ld w1_1 ((⟨b1, 0, none⟩ : Addr).add 2) (.slice t40.a t40.l t40.c) ∧
 ∃ (I_1 : Nat → Int → World → Prop) (n0_1 : Nat), I_1 n0_1 (0 : Int) w1_1 ∧
 ∀ (n_1 : Nat) (u_1 : Env) (x42 : Int) (w1_2 : World), I_1 n_1 x42 w1_2 →
 IfB (decide (x42 < ((t40.l : Nat) : Int)))
 (∃ p44, t40.a = some p44 ∧ 0 ≤ x42 ∧ x42 < ((t40.l : Nat) : Int) ∧
 ∃ t45 : ByteArray, Ld w1_2 (p44.add ((x42).toNat * 1)) (.string t45) ∧
 IfB (decide (((t45.size : Nat) : Int) > (64 : Int)))
 (Q (.bool false) w1_2)
 (∃ n', n' < n_1 ∧ I_1 n' (IntKind.wrap .i64 (x42 + (1 : Int))) w1_2))
 (∃ t51 : Sl, Ld w1_2 ((⟨b1, 0, none⟩ : Addr).add 3) (.slice t51.a t51.l t51.c) ∧
 ∃ (I_2 : Nat → Int → World → Prop) (n0_2 : Nat), I_2 n0_2 (0 : Int) w1_2 ∧
 ∀ (n_2 : Nat) (u_2 : Env) (x53 : Int) (w1_3 : World), I_2 n_2 x53 w1_3 →
 IfB (decide (x53 < ((t51.l : Nat) : Int)))
 (∃ p55, t51.a = some p55 ∧ 0 ≤ x53 ∧ x53 < ((t51.l : Nat) : Int) ∧
 ∃ t56 : Int, Ld w1_3 (p55.add ((x53).toNat * 1)) (.int .i64 t56) ∧
 IfB (decide (t56 < (0 : Int)))
 (Q (.bool false) w1_3)
 (IfB (decide (t56 > (32768 : Int)))
 (Q (.bool false) w1_3)
 (∃ n', n' < n_2 ∧ I_2 n' (IntKind.wrap .i64 (x53 + (1 : Int))) w1_3)))
 (∃ t65 : Bool, Ld w1_3 ((⟨b1, 0, none⟩ : Addr).add 0) (.bool t65) ∧
 IfB t65
 (∃ t67 : Sl, Ld w1_3 ((⟨b1, 0, none⟩ : Addr).add 2) (.slice t67.a t67.l t67.c) ∧
 ∃ t70 : Sl, Ld w1_3 ((⟨b1, 0, none⟩ : Addr).add 1) (.slice t70.a t70.l t70.c) ∧
 IfB (((t67.l : Nat) : Int) == ((t70.l : Nat) : Int))
 (∃ t75 : Sl, Ld w1_3 ((⟨b1, 0, none⟩ : Addr).add 3) (.slice t75.a t75.l t75.c) ∧
 Q (.bool (((t75.l : Nat) : Int) == (0 : Int))) w1_3)
 (Q (.bool false) w1_3))
 (∃ t80 : Sl, Ld w1_3 ((⟨b1, 0, none⟩ : Addr).add 2) (.slice t80.a t80.l t80.c) ∧
 IfB (((t80.l : Nat) : Int) == (0 : Int))
 (∃ t85 : Sl, Ld w1_3 ((⟨b1, 0, none⟩ : Addr).add 3) (.slice t85.a t85.l t85.c) ∧
 ∃ t88 : Sl, Ld w1_3 ((⟨b1, 0, none⟩ : Addr).add 1) (.slice t88.a t88.l t88.c) ∧
 Q (.bool (((t85.l : Nat) : Int) == IntKind.wrap .i64 (((t88.l : Nat) : Int) + (1 : Int)))) w1_3)
 (Q (.bool false) w1_3)))))
def an24 : Ann := { cut := fun i => none, loop := fun i => bif Nat.beq i 2 then [(12, .int .i64)] else bif Nat.beq i 8 then [(42, .int .i64)] else bif Nat.beq i 14 then [(53, .int .i64)] else [] }
theorem eq24 (x0 : Array Value) (w : World) (Q : Value → World → Prop) : F24 x0 w Q = vc prog an24 (Try.f24.body.getD .skip) (envOf [.agg x0]) w (retK prog Try.f24 Q) := by kernel_rfl
theorem ok24 : codeOk Try.f24.ntmps (Try.f24.body.getD .skip) = true := by kernel_rfl
theorem W24 {x0 : Array Value} {w : World} {Q : Value → World → Prop} (h : F24 x0 w Q) : Calls prog 24 #[.agg x0] w fun en w' => ∃ v, en = .returned v ∧ Q v w' :=
  calls_of_vc good follows an24 (args := [.agg x0]) Try.func24 (by kernel_rfl) ok24 (of_decide_eq_true (by kernel_rfl)) (Eq.mp (eq24 x0 w Q) h)

/-- (bastion/node.Node).bytes -/
def F25 (x0 : Array Value) (w : World) (Q : Value → World → Prop) : Prop :=
 ∀ b1 w1, NewB w (.cells x0 28) b1 w1 →
 ∃ S : World → Prop, S w1.drew ∧
 ∃ t7 : Bool, (∀ w', S w' → Ld w' ((⟨b1, 0, none⟩ : Addr).add 0) (.bool t7)) ∧
 ∃ t10 : Sl, (∀ w', S w' → Ld w' ((⟨b1, 0, none⟩ : Addr).add 1) (.slice t10.a t10.l t10.c)) ∧
 Calls prog 44 #[.slice none 0 0, .bool t7] w1.drew fun en w1_1 =>
 ∃ t8 : Sl, en = .returned (.slice t8.a t8.l t8.c) ∧
 S w1_1 ∧
 Calls prog 43 #[.slice t8.a t8.l t8.c, .int .i64 ((t10.l : Nat) : Int)] w1_1 fun en w1_2 =>
 ∃ t12 : Sl, en = .returned (.slice t12.a t12.l t12.c) ∧
 ∃ J : Sl → World → Prop, (∃ t14 : Bool, Ld w1_2 ((⟨b1, 0, none⟩ : Addr).add 0) (.bool t14) ∧
 IfB (!t14)
 (∃ t18 : Sl, Ld w1_2 ((⟨b1, 0, none⟩ : Addr).add 3) (.slice t18.a t18.l t18.c) ∧
 ∃ p19, t18.a = some p19 ∧ 0 ≤ (0 : Int) ∧ (0 : Int) < ((t18.l : Nat) : Int) ∧
 ∃ t20 : Int, Ld w1_2 (p19.add (0 * 1)) (.int .i64 t20) ∧
 Calls prog 43 #[.slice t12.a t12.l t12.c, .int .i64 t20] w1_2 fun en w1_3 =>
 ∃ t21 : Sl, en = .returned (.slice t21.a t21.l t21.c) ∧
 J t21 w1_3)
 (J t12 w1_2)) ∧
 (∀ (u : Env) (x3 : Sl) (w1_3 : World), J x3 w1_3 →
 ∃ t23 : Sl, Ld w1_3 ((⟨b1, 0, none⟩ : Addr).add 1) (.slice t23.a t23.l t23.c) ∧
 ∃ (I : Nat → Sl → Int → World → Prop) (n0 : Nat), I n0 x3 (0 : Int) w1_3 ∧
 ∀ (n : Nat) (u_1 : Env) (x3_1 : Sl) (x25 : Int) (w1_4 : World), I n x3_1 x25 w1_4 →
 IfB (decide (x25 < ((t23.l : Nat) : Int)))
 (∃ p28, t23.a = some p28 ∧ 0 ≤ x25 ∧ x25 < ((t23.l : Nat) : Int) ∧
 ∃ t29 : ByteArray, Ld w1_4 (p28.add ((x25).toNat * 1)) (.string t29) ∧
 Calls prog 45 #[.slice x3_1.a x3_1.l x3_1.c, .string t29] w1_4 fun en w1_5 =>
 ∃ t32 : Sl, en = .returned (.slice t32.a t32.l t32.c) ∧
 ∃ t34 : Bool, Ld w1_5 ((⟨b1, 0, none⟩ : Addr).add 0) (.bool t34) ∧
 IfB t34
 (∃ t37 : Sl, Ld w1_5 ((⟨b1, 0, none⟩ : Addr).add 2) (.slice t37.a t37.l t37.c) ∧
 ∃ p39, t37.a = some p39 ∧ 0 ≤ x25 ∧ x25 < ((t37.l : Nat) : Int) ∧
 ∃ t40 : ByteArray, Ld w1_5 (p39.add ((x25).toNat * 1)) (.string t40) ∧
 Calls prog 45 #[.slice t32.a t32.l t32.c, .string t40] w1_5 fun en w1_6 =>
 ∃ t41 : Sl, en = .returned (.slice t41.a t41.l t41.c) ∧
 ∃ n', n' < n ∧ I n' t41 (IntKind.wrap .i64 (x25 + (1 : Int))) w1_6)
 (∃ t44 : Sl, Ld w1_5 ((⟨b1, 0, none⟩ : Addr).add 3) (.slice t44.a t44.l t44.c) ∧
 ∃ p47, t44.a = some p47 ∧ 0 ≤ IntKind.wrap .i64 (x25 + (1 : Int)) ∧ IntKind.wrap .i64 (x25 + (1 : Int)) < ((t44.l : Nat) : Int) ∧
 ∃ t48 : Int, Ld w1_5 (p47.add ((IntKind.wrap .i64 (x25 + (1 : Int))).toNat * 1)) (.int .i64 t48) ∧
 Calls prog 43 #[.slice t32.a t32.l t32.c, .int .i64 t48] w1_5 fun en w1_6 =>
 ∃ t49 : Sl, en = .returned (.slice t49.a t49.l t49.c) ∧
 ∃ n', n' < n ∧ I n' t49 (IntKind.wrap .i64 (x25 + (1 : Int))) w1_6))
 (Q (.slice x3_1.a x3_1.l x3_1.c) w1_4))
def an25 : Ann := { cut := fun i => bif Nat.beq i 4 then some [(3, .slice)] else none, loop := fun i => bif Nat.beq i 5 then [(3, .slice), (25, .int .i64)] else [] }
theorem eq25 (x0 : Array Value) (w : World) (Q : Value → World → Prop) : F25 x0 w Q = vc prog an25 (Try.f25.body.getD .skip) (envOf [.agg x0]) w (retK prog Try.f25 Q) := by kernel_rfl
theorem ok25 : codeOk Try.f25.ntmps (Try.f25.body.getD .skip) = true := by kernel_rfl
theorem W25 {x0 : Array Value} {w : World} {Q : Value → World → Prop} (h : F25 x0 w Q) : Calls prog 25 #[.agg x0] w fun en w' => ∃ v, en = .returned v ∧ Q v w' :=
  calls_of_vc good follows an25 (args := [.agg x0]) Try.func25 (by kernel_rfl) ok25 (of_decide_eq_true (by kernel_rfl)) (Eq.mp (eq25 x0 w Q) h)

/-- bastion/bastionref06.May -/
def F26 (x0 : Array Value) (w : World) (Q : Value → World → Prop) : Prop :=
 ∀ b1 w1, NewB w (.cells x0 25) b1 w1 →
 ∃ (I : Nat → Int → World → Prop) (n0 : Nat), I n0 (0 : Int) w1 ∧
 ∀ (n : Nat) (u : Env) (x3 : Int) (w1_1 : World), I n x3 w1_1 →
 ∃ t8 : Sl, Ld w1_1 ((⟨b1, 0, none⟩ : Addr).add 1) (.slice t8.a t8.l t8.c) ∧
 IfB (decide (x3 < ((t8.l : Nat) : Int)))
 (∃ t14 : Sl, Ld w1_1.drew ((⟨b1, 0, none⟩ : Addr).add 1) (.slice t14.a t14.l t14.c) ∧
 ∃ p16, t14.a = some p16 ∧ 0 ≤ x3 ∧ x3 < ((t14.l : Nat) : Int) ∧
 ∃ t17 : ByteArray, Ld w1_1.drew (p16.add ((x3).toNat * 1)) (.string t17) ∧
 IfB (decide (((t17.size : Nat) : Int) < (1 : Int)))
 (Q (.bool false) w1_1.drew)
 (∃ t22 : Sl, Ld w1_1.drew ((⟨b1, 0, none⟩ : Addr).add 1) (.slice t22.a t22.l t22.c) ∧
 ∃ p24, t22.a = some p24 ∧ 0 ≤ x3 ∧ x3 < ((t22.l : Nat) : Int) ∧
 ∃ t25 : ByteArray, Ld w1_1.drew (p24.add ((x3).toNat * 1)) (.string t25) ∧
 IfB (decide (((t25.size : Nat) : Int) > (32 : Int)))
 (Q (.bool false) w1_1.drew)
 (IfB (decide (x3 > (0 : Int)))
 (∃ t34 : Sl, Ld w1_1.drew ((⟨b1, 0, none⟩ : Addr).add 1) (.slice t34.a t34.l t34.c) ∧
 ∃ p37, t34.a = some p37 ∧ 0 ≤ IntKind.wrap .i64 (x3 - (1 : Int)) ∧ IntKind.wrap .i64 (x3 - (1 : Int)) < ((t34.l : Nat) : Int) ∧
 ∃ t38 : ByteArray, Ld w1_1.drew (p37.add ((IntKind.wrap .i64 (x3 - (1 : Int))).toNat * 1)) (.string t38) ∧
 ∃ t40 : Sl, Ld w1_1.drew ((⟨b1, 0, none⟩ : Addr).add 1) (.slice t40.a t40.l t40.c) ∧
 ∃ p42, t40.a = some p42 ∧ 0 ≤ x3 ∧ x3 < ((t40.l : Nat) : Int) ∧
 ∃ t43 : ByteArray, Ld w1_1.drew (p42.add ((x3).toNat * 1)) (.string t43) ∧
 IfB (!(Op.bytesLess t38.toList t43.toList))
 (Q (.bool false) w1_1.drew)
 (∃ n', n' < n ∧ I n' (IntKind.wrap .i64 (x3 + (1 : Int))) w1_1.drew))
 (∃ n', n' < n ∧ I n' (IntKind.wrap .i64 (x3 + (1 : Int))) w1_1.drew))))
 (∃ t48 : Bool, Ld w1_1 ((⟨b1, 0, none⟩ : Addr).add 0) (.bool t48) ∧
 IfB t48
 (∃ (I_1 : Nat → Int → World → Prop) (n0_1 : Nat), I_1 n0_1 (0 : Int) w1_1 ∧
 ∀ (n_1 : Nat) (u_1 : Env) (x4 : Int) (w1_2 : World), I_1 n_1 x4 w1_2 →
 ∃ t51 : Sl, Ld w1_2 ((⟨b1, 0, none⟩ : Addr).add 2) (.slice t51.a t51.l t51.c) ∧
 IfB (decide (x4 < ((t51.l : Nat) : Int)))
 (∃ t57 : Sl, Ld w1_2 ((⟨b1, 0, none⟩ : Addr).add 2) (.slice t57.a t57.l t57.c) ∧
 ∃ p59, t57.a = some p59 ∧ 0 ≤ x4 ∧ x4 < ((t57.l : Nat) : Int) ∧
 ∃ t60 : ByteArray, Ld w1_2 (p59.add ((x4).toNat * 1)) (.string t60) ∧
 IfB (decide (((t60.size : Nat) : Int) > (64 : Int)))
 (Q (.bool false) w1_2)
 (∃ n', n' < n_1 ∧ I_1 n' (IntKind.wrap .i64 (x4 + (1 : Int))) w1_2))
 (∃ t64 : Sl, Ld w1_2 ((⟨b1, 0, none⟩ : Addr).add 2) (.slice t64.a t64.l t64.c) ∧
 ∃ t67 : Sl, Ld w1_2 ((⟨b1, 0, none⟩ : Addr).add 1) (.slice t67.a t67.l t67.c) ∧
 IfB (((t64.l : Nat) : Int) == ((t67.l : Nat) : Int))
 (∃ t72 : Sl, Ld w1_2 ((⟨b1, 0, none⟩ : Addr).add 3) (.slice t72.a t72.l t72.c) ∧
 Q (.bool (((t72.l : Nat) : Int) == (0 : Int))) w1_2)
 (Q (.bool false) w1_2)))
 (∃ (I_1 : Nat → Int → World → Prop) (n0_1 : Nat), I_1 n0_1 (0 : Int) w1_1 ∧
 ∀ (n_1 : Nat) (u_1 : Env) (x5 : Int) (w1_2 : World), I_1 n_1 x5 w1_2 →
 ∃ t78 : Sl, Ld w1_2 ((⟨b1, 0, none⟩ : Addr).add 3) (.slice t78.a t78.l t78.c) ∧
 IfB (decide (x5 < ((t78.l : Nat) : Int)))
 (∃ t84 : Sl, Ld w1_2 ((⟨b1, 0, none⟩ : Addr).add 3) (.slice t84.a t84.l t84.c) ∧
 ∃ p86, t84.a = some p86 ∧ 0 ≤ x5 ∧ x5 < ((t84.l : Nat) : Int) ∧
 ∃ t87 : Int, Ld w1_2 (p86.add ((x5).toNat * 1)) (.int .i64 t87) ∧
 IfB (decide (t87 < (0 : Int)))
 (Q (.bool false) w1_2)
 (∃ t91 : Sl, Ld w1_2 ((⟨b1, 0, none⟩ : Addr).add 3) (.slice t91.a t91.l t91.c) ∧
 ∃ p93, t91.a = some p93 ∧ 0 ≤ x5 ∧ x5 < ((t91.l : Nat) : Int) ∧
 ∃ t94 : Int, Ld w1_2 (p93.add ((x5).toNat * 1)) (.int .i64 t94) ∧
 IfB (decide (t94 > (32768 : Int)))
 (Q (.bool false) w1_2)
 (∃ n', n' < n_1 ∧ I_1 n' (IntKind.wrap .i64 (x5 + (1 : Int))) w1_2)))
 (∃ t98 : Sl, Ld w1_2 ((⟨b1, 0, none⟩ : Addr).add 3) (.slice t98.a t98.l t98.c) ∧
 ∃ t101 : Sl, Ld w1_2 ((⟨b1, 0, none⟩ : Addr).add 1) (.slice t101.a t101.l t101.c) ∧
 IfB (((t98.l : Nat) : Int) == IntKind.wrap .i64 (((t101.l : Nat) : Int) + (1 : Int)))
 (∃ t107 : Sl, Ld w1_2 ((⟨b1, 0, none⟩ : Addr).add 2) (.slice t107.a t107.l t107.c) ∧
 Q (.bool (((t107.l : Nat) : Int) == (0 : Int))) w1_2)
 (Q (.bool false) w1_2))))
def an26 : Ann := { cut := fun i => none, loop := fun i => bif Nat.beq i 2 then [(3, .int .i64)] else bif Nat.beq i 8 then [(4, .int .i64)] else bif Nat.beq i 14 then [(5, .int .i64)] else [] }
theorem eq26 (x0 : Array Value) (w : World) (Q : Value → World → Prop) : F26 x0 w Q = vc prog an26 (Try.f26.body.getD .skip) (envOf [.agg x0]) w (retK prog Try.f26 Q) := by kernel_rfl
theorem ok26 : codeOk Try.f26.ntmps (Try.f26.body.getD .skip) = true := by kernel_rfl
theorem W26 {x0 : Array Value} {w : World} {Q : Value → World → Prop} (h : F26 x0 w Q) : Calls prog 26 #[.agg x0] w fun en w' => ∃ v, en = .returned v ∧ Q v w' :=
  calls_of_vc good follows an26 (args := [.agg x0]) Try.func26 (by kernel_rfl) ok26 (of_decide_eq_true (by kernel_rfl)) (Eq.mp (eq26 x0 w Q) h)

/-- bastion/bastionref06.bytes -/
def F27 (x0 : Array Value) (w : World) (Q : Value → World → Prop) : Prop :=
 ∀ b1 w1, NewB w (.cells x0 25) b1 w1 →
 ∃ S : World → Prop, S w1.drew ∧
 ∃ t6 : Bool, (∀ w', S w' → Ld w' ((⟨b1, 0, none⟩ : Addr).add 0) (.bool t6)) ∧
 ∃ t9 : Sl, (∀ w', S w' → Ld w' ((⟨b1, 0, none⟩ : Addr).add 1) (.slice t9.a t9.l t9.c)) ∧
 Calls prog 47 #[.slice none 0 0, .bool t6] w1.drew fun en w1_1 =>
 ∃ t7 : Sl, en = .returned (.slice t7.a t7.l t7.c) ∧
 S w1_1 ∧
 Calls prog 46 #[.slice t7.a t7.l t7.c, .int .i64 ((t9.l : Nat) : Int)] w1_1 fun en w1_2 =>
 ∃ t11 : Sl, en = .returned (.slice t11.a t11.l t11.c) ∧
 ∃ J : Sl → World → Prop, (∃ t13 : Bool, Ld w1_2 ((⟨b1, 0, none⟩ : Addr).add 0) (.bool t13) ∧
 IfB (!t13)
 (∃ t17 : Sl, Ld w1_2 ((⟨b1, 0, none⟩ : Addr).add 3) (.slice t17.a t17.l t17.c) ∧
 ∃ p18, t17.a = some p18 ∧ 0 ≤ (0 : Int) ∧ (0 : Int) < ((t17.l : Nat) : Int) ∧
 ∃ t19 : Int, Ld w1_2 (p18.add (0 * 1)) (.int .i64 t19) ∧
 Calls prog 46 #[.slice t11.a t11.l t11.c, .int .i64 t19] w1_2 fun en w1_3 =>
 ∃ t20 : Sl, en = .returned (.slice t20.a t20.l t20.c) ∧
 J t20 w1_3)
 (J t11 w1_2)) ∧
 (∀ (u : Env) (x3 : Sl) (w1_3 : World), J x3 w1_3 →
 ∃ (I : Nat → Sl → Int → World → Prop) (n0 : Nat), I n0 x3 (0 : Int) w1_3 ∧
 ∀ (n : Nat) (u_1 : Env) (x3_1 : Sl) (x4 : Int) (w1_4 : World), I n x3_1 x4 w1_4 →
 ∃ t23 : Sl, Ld w1_4 ((⟨b1, 0, none⟩ : Addr).add 1) (.slice t23.a t23.l t23.c) ∧
 IfB (decide (x4 < ((t23.l : Nat) : Int)))
 (∃ t30 : Sl, Ld w1_4 ((⟨b1, 0, none⟩ : Addr).add 1) (.slice t30.a t30.l t30.c) ∧
 ∃ p32, t30.a = some p32 ∧ 0 ≤ x4 ∧ x4 < ((t30.l : Nat) : Int) ∧
 ∃ t33 : ByteArray, Ld w1_4 (p32.add ((x4).toNat * 1)) (.string t33) ∧
 Calls prog 48 #[.slice x3_1.a x3_1.l x3_1.c, .string t33] w1_4 fun en w1_5 =>
 ∃ t34 : Sl, en = .returned (.slice t34.a t34.l t34.c) ∧
 ∃ t36 : Bool, Ld w1_5 ((⟨b1, 0, none⟩ : Addr).add 0) (.bool t36) ∧
 IfB t36
 (∃ t39 : Sl, Ld w1_5 ((⟨b1, 0, none⟩ : Addr).add 2) (.slice t39.a t39.l t39.c) ∧
 ∃ p41, t39.a = some p41 ∧ 0 ≤ x4 ∧ x4 < ((t39.l : Nat) : Int) ∧
 ∃ t42 : ByteArray, Ld w1_5 (p41.add ((x4).toNat * 1)) (.string t42) ∧
 Calls prog 48 #[.slice t34.a t34.l t34.c, .string t42] w1_5 fun en w1_6 =>
 ∃ t43 : Sl, en = .returned (.slice t43.a t43.l t43.c) ∧
 ∃ n', n' < n ∧ I n' t43 (IntKind.wrap .i64 (x4 + (1 : Int))) w1_6)
 (∃ t46 : Sl, Ld w1_5 ((⟨b1, 0, none⟩ : Addr).add 3) (.slice t46.a t46.l t46.c) ∧
 ∃ p49, t46.a = some p49 ∧ 0 ≤ IntKind.wrap .i64 (x4 + (1 : Int)) ∧ IntKind.wrap .i64 (x4 + (1 : Int)) < ((t46.l : Nat) : Int) ∧
 ∃ t50 : Int, Ld w1_5 (p49.add ((IntKind.wrap .i64 (x4 + (1 : Int))).toNat * 1)) (.int .i64 t50) ∧
 Calls prog 46 #[.slice t34.a t34.l t34.c, .int .i64 t50] w1_5 fun en w1_6 =>
 ∃ t51 : Sl, en = .returned (.slice t51.a t51.l t51.c) ∧
 ∃ n', n' < n ∧ I n' t51 (IntKind.wrap .i64 (x4 + (1 : Int))) w1_6))
 (Q (.slice x3_1.a x3_1.l x3_1.c) w1_4))
def an27 : Ann := { cut := fun i => bif Nat.beq i 4 then some [(3, .slice)] else none, loop := fun i => bif Nat.beq i 5 then [(3, .slice), (4, .int .i64)] else [] }
theorem eq27 (x0 : Array Value) (w : World) (Q : Value → World → Prop) : F27 x0 w Q = vc prog an27 (Try.f27.body.getD .skip) (envOf [.agg x0]) w (retK prog Try.f27 Q) := by kernel_rfl
theorem ok27 : codeOk Try.f27.ntmps (Try.f27.body.getD .skip) = true := by kernel_rfl
theorem W27 {x0 : Array Value} {w : World} {Q : Value → World → Prop} (h : F27 x0 w Q) : Calls prog 27 #[.agg x0] w fun en w' => ∃ v, en = .returned v ∧ Q v w' :=
  calls_of_vc good follows an27 (args := [.agg x0]) Try.func27 (by kernel_rfl) ok27 (of_decide_eq_true (by kernel_rfl)) (Eq.mp (eq27 x0 w Q) h)

/-- sort.Search -/
def F28 (x0 : Int) (x1 : Value) (w : World) (Q : Value → World → Prop) : Prop :=
 ∃ (I : Nat → Int → Int → World → Prop) (n0 : Nat), I n0 (0 : Int) x0 w ∧
 ∀ (n : Nat) (u : Env) (x5 : Int) (x6 : Int) (w1 : World), I n x5 x6 w1 →
 IfB (decide (x5 < x6))
 (0 ≤ (1 : Int) ∧
 CallV prog x1 #[.int .i64 (IntKind.wrap .i64 (Int.fdiv (IntKind.wrap .u64 (IntKind.wrap .i64 (x5 + x6))) (2 ^ (min 1 64))))] w1 fun v20 w1_1 =>
 ∃ t20 : Bool, v20 = (.bool t20) ∧
 IfB (!t20)
 (∃ n', n' < n ∧ I n' (IntKind.wrap .i64 ((IntKind.wrap .i64 (Int.fdiv (IntKind.wrap .u64 (IntKind.wrap .i64 (x5 + x6))) (2 ^ (min 1 64)))) + (1 : Int))) x6 w1_1)
 (∃ n', n' < n ∧ I n' x5 (IntKind.wrap .i64 (Int.fdiv (IntKind.wrap .u64 (IntKind.wrap .i64 (x5 + x6))) (2 ^ (min 1 64)))) w1_1))
 (Q (.int .i64 x5) w1)
def an28 : Ann := { cut := fun i => none, loop := fun i => bif Nat.beq i 2 then [(5, .int .i64), (6, .int .i64)] else [] }
theorem eq28 (x0 : Int) (x1 : Value) (w : World) (Q : Value → World → Prop) : F28 x0 x1 w Q = vc prog an28 (Try.f28.body.getD .skip) (envOf [.int .i64 x0, x1]) w (retK prog Try.f28 Q) := by kernel_rfl
theorem ok28 : codeOk Try.f28.ntmps (Try.f28.body.getD .skip) = true := by kernel_rfl
theorem W28 {x0 : Int} {x1 : Value} {w : World} {Q : Value → World → Prop} (h : F28 x0 x1 w Q) : Calls prog 28 #[.int .i64 x0, x1] w fun en w' => ∃ v, en = .returned v ∧ Q v w' :=
  calls_of_vc good follows an28 (args := [.int .i64 x0, x1]) Try.func28 (by kernel_rfl) ok28 (of_decide_eq_true (by kernel_rfl)) (Eq.mp (eq28 x0 x1 w Q) h)

/-- bastion/node.Find$1 -/
def F29 (x0 : Int) (x1 : Addr) (x2 : Addr) (w : World) (Q : Value → World → Prop) : Prop :=
 ∃ t6 : Sl, Ld w.drew (x1.add 1) (.slice t6.a t6.l t6.c) ∧
 ∃ p8, t6.a = some p8 ∧ 0 ≤ x0 ∧ x0 < ((t6.l : Nat) : Int) ∧
 ∃ t9 : ByteArray, Ld w.drew (p8.add ((x0).toNat * 1)) (.string t9) ∧
 ∃ t10 : ByteArray, Ld w.drew x2 (.string t10) ∧
 Q (.bool (!(Op.bytesLess t9.toList t10.toList))) w.drew
def an29 : Ann := { cut := fun i => none, loop := fun i => [] }
theorem eq29 (x0 : Int) (x1 : Addr) (x2 : Addr) (w : World) (Q : Value → World → Prop) : F29 x0 x1 x2 w Q = vc prog an29 (Try.f29.body.getD .skip) (envOf [.int .i64 x0, .pointer (some x1), .pointer (some x2)]) w (retK prog Try.f29 Q) := by kernel_rfl
theorem ok29 : codeOk Try.f29.ntmps (Try.f29.body.getD .skip) = true := by kernel_rfl
theorem W29 {x0 : Int} {x1 : Addr} {x2 : Addr} {w : World} {Q : Value → World → Prop} (h : F29 x0 x1 x2 w Q) : Calls prog 29 #[.int .i64 x0, .pointer (some x1), .pointer (some x2)] w fun en w' => ∃ v, en = .returned v ∧ Q v w' :=
  calls_of_vc good follows an29 (args := [.int .i64 x0, .pointer (some x1), .pointer (some x2)]) Try.func29 (by kernel_rfl) ok29 (of_decide_eq_true (by kernel_rfl)) (Eq.mp (eq29 x0 x1 x2 w Q) h)

/-- bastion/code.NewReader -/
def F30 (x0 : Sl) (w : World) (Q : Value → World → Prop) : Prop :=
 RunT prog .str (convert 30 9 (.slice x0.a x0.l x0.c)) w fun (t4 : ByteArray) w1 =>
 ∃ t5 : Array Value, BuildIs prog 68 #[(0, .string t4)] t5 ∧
 ∃ t6 : Array Value, BuildIs prog 70 #[(0, .agg t5)] t6 ∧
 ∀ b7 w1_1, NewB w1 (.cells t6 70) b7 w1_1 →
 Q (.pointer (some (⟨b7, 0, none⟩ : Addr))) w1_1
def an30 : Ann := { cut := fun i => none, loop := fun i => [] }
theorem eq30 (x0 : Sl) (w : World) (Q : Value → World → Prop) : F30 x0 w Q = vc prog an30 (Try.f30.body.getD .skip) (envOf [.slice x0.a x0.l x0.c]) w (retK prog Try.f30 Q) := by kernel_rfl
theorem ok30 : codeOk Try.f30.ntmps (Try.f30.body.getD .skip) = true := by kernel_rfl
theorem W30 {x0 : Sl} {w : World} {Q : Value → World → Prop} (h : F30 x0 w Q) : Calls prog 30 #[.slice x0.a x0.l x0.c] w fun en w' => ∃ v, en = .returned v ∧ Q v w' :=
  calls_of_vc good follows an30 (args := [.slice x0.a x0.l x0.c]) Try.func30 (by kernel_rfl) ok30 (of_decide_eq_true (by kernel_rfl)) (Eq.mp (eq30 x0 w Q) h)

/-- (*bastion/code.Reader).Flag -/
def F31 (x0 : Option Addr) (w : World) (Q : Value → World → Prop) : Prop :=
 Calls prog 32 #[.pointer x0, .int .i64 1] w fun en w1 =>
 ∃ t4 : Int, en = .returned (.int .i64 t4) ∧
 Q (.bool (t4 == (1 : Int))) w1
def an31 : Ann := { cut := fun i => none, loop := fun i => [] }
theorem eq31 (x0 : Option Addr) (w : World) (Q : Value → World → Prop) : F31 x0 w Q = vc prog an31 (Try.f31.body.getD .skip) (envOf [.pointer x0]) w (retK prog Try.f31 Q) := by kernel_rfl
theorem ok31 : codeOk Try.f31.ntmps (Try.f31.body.getD .skip) = true := by kernel_rfl
theorem W31 {x0 : Option Addr} {w : World} {Q : Value → World → Prop} (h : F31 x0 w Q) : Calls prog 31 #[.pointer x0] w fun en w' => ∃ v, en = .returned v ∧ Q v w' :=
  calls_of_vc good follows an31 (args := [.pointer x0]) Try.func31 (by kernel_rfl) ok31 (of_decide_eq_true (by kernel_rfl)) (Eq.mp (eq31 x0 w Q) h)

/-- (*bastion/code.Reader).Count -/
def F32 (x0 : Option Addr) (x1 : Int) (w : World) (Q : Value → World → Prop) : Prop :=
 ∀ b3 w1, NewB w (.cells #[.int .i64 x1] 3) b3 w1 →
 Calls prog 49 #[.pointer x0, .func (.func 50) #[] #[.pointer (some (⟨b3, 0, none⟩ : Addr))]] w1 fun en w1_1 =>
 ∃ t7 : Int, en = .returned (.int .i64 t7) ∧
 Q (.int .i64 t7) w1_1
def an32 : Ann := { cut := fun i => none, loop := fun i => [] }
theorem eq32 (x0 : Option Addr) (x1 : Int) (w : World) (Q : Value → World → Prop) : F32 x0 x1 w Q = vc prog an32 (Try.f32.body.getD .skip) (envOf [.pointer x0, .int .i64 x1]) w (retK prog Try.f32 Q) := by kernel_rfl
theorem ok32 : codeOk Try.f32.ntmps (Try.f32.body.getD .skip) = true := by kernel_rfl
theorem W32 {x0 : Option Addr} {x1 : Int} {w : World} {Q : Value → World → Prop} (h : F32 x0 x1 w Q) : Calls prog 32 #[.pointer x0, .int .i64 x1] w fun en w' => ∃ v, en = .returned v ∧ Q v w' :=
  calls_of_vc good follows an32 (args := [.pointer x0, .int .i64 x1]) Try.func32 (by kernel_rfl) ok32 (of_decide_eq_true (by kernel_rfl)) (Eq.mp (eq32 x0 x1 w Q) h)

/-- bastion/node.Decode$1 -/
def F33 (x0 : Addr) (x1 : Addr) (w : World) (Q : Value → World → Prop) : Prop :=
 ∃ S : World → Prop, S w.drew ∧
 ∃ t3 : Sl, (∀ w', S w' → Ld w' (x0.add 3) (.slice t3.a t3.l t3.c)) ∧
 ∃ t4 : Option Addr, (∀ w', S w' → Ld w' x1 (.pointer t4)) ∧
 Calls prog 32 #[.pointer t4, .int .i64 32768] w.drew fun en w1 =>
 ∃ t5 : Int, en = .returned (.int .i64 t5) ∧
 S w1 ∧
 RunT prog .slice (Instr.buildSlice 23 1 #[(0, .int .i64 t5)]) w1 fun (t6 : Sl) w1_1 =>
 S w1_1 ∧
 RunT prog .slice (Builtin.append_ #[23, 23] 23 #[.slice t3.a t3.l t3.c, .slice t6.a t6.l t6.c]) w1_1 fun (t7 : Sl) w1_2 =>
 Wr w1_2 (x0.add 3) ∧ ∀ w1_3, w1_3 = w1_2.setCell (x0.add 3) (.slice t7.a t7.l t7.c) →
 Q (.tuple #[]) w1_3
def an33 : Ann := { cut := fun i => none, loop := fun i => [] }
theorem eq33 (x0 : Addr) (x1 : Addr) (w : World) (Q : Value → World → Prop) : F33 x0 x1 w Q = vc prog an33 (Try.f33.body.getD .skip) (envOf [.pointer (some x0), .pointer (some x1)]) w (retK prog Try.f33 Q) := by kernel_rfl
theorem ok33 : codeOk Try.f33.ntmps (Try.f33.body.getD .skip) = true := by kernel_rfl
theorem W33 {x0 : Addr} {x1 : Addr} {w : World} {Q : Value → World → Prop} (h : F33 x0 x1 w Q) : Calls prog 33 #[.pointer (some x0), .pointer (some x1)] w fun en w' => ∃ v, en = .returned v ∧ Q v w' :=
  calls_of_vc good follows an33 (args := [.pointer (some x0), .pointer (some x1)]) Try.func33 (by kernel_rfl) ok33 (of_decide_eq_true (by kernel_rfl)) (Eq.mp (eq33 x0 x1 w Q) h)

/-- bastion/node.Decode$2 -/
def F34 (x0 : Addr) (x1 : Addr) (w : World) (Q : Value → World → Prop) : Prop :=
 ∃ S : World → Prop, S w.drew ∧
 ∃ t3 : Sl, (∀ w', S w' → Ld w' (x0.add 2) (.slice t3.a t3.l t3.c)) ∧
 ∃ t4 : Option Addr, (∀ w', S w' → Ld w' x1 (.pointer t4)) ∧
 Calls prog 35 #[.pointer t4, .int .i64 64] w.drew fun en w1 =>
 ∃ t5 : ByteArray, en = .returned (.string t5) ∧
 S w1 ∧
 RunT prog .slice (Instr.buildSlice 22 1 #[(0, .string t5)]) w1 fun (t6 : Sl) w1_1 =>
 S w1_1 ∧
 RunT prog .slice (Builtin.append_ #[22, 22] 22 #[.slice t3.a t3.l t3.c, .slice t6.a t6.l t6.c]) w1_1 fun (t7 : Sl) w1_2 =>
 Wr w1_2 (x0.add 2) ∧ ∀ w1_3, w1_3 = w1_2.setCell (x0.add 2) (.slice t7.a t7.l t7.c) →
 Q (.tuple #[]) w1_3
def an34 : Ann := { cut := fun i => none, loop := fun i => [] }
theorem eq34 (x0 : Addr) (x1 : Addr) (w : World) (Q : Value → World → Prop) : F34 x0 x1 w Q = vc prog an34 (Try.f34.body.getD .skip) (envOf [.pointer (some x0), .pointer (some x1)]) w (retK prog Try.f34 Q) := by kernel_rfl
theorem ok34 : codeOk Try.f34.ntmps (Try.f34.body.getD .skip) = true := by kernel_rfl
theorem W34 {x0 : Addr} {x1 : Addr} {w : World} {Q : Value → World → Prop} (h : F34 x0 x1 w Q) : Calls prog 34 #[.pointer (some x0), .pointer (some x1)] w fun en w' => ∃ v, en = .returned v ∧ Q v w' :=
  calls_of_vc good follows an34 (args := [.pointer (some x0), .pointer (some x1)]) Try.func34 (by kernel_rfl) ok34 (of_decide_eq_true (by kernel_rfl)) (Eq.mp (eq34 x0 x1 w Q) h)

/-- (*bastion/code.Reader).Str -/
def F35 (x0 : Option Addr) (x1 : Int) (w : World) (Q : Value → World → Prop) : Prop :=
 ∀ b3 w1, NewB w (.cells #[.int .i64 x1] 3) b3 w1 →
 Calls prog 52 #[.pointer x0, .func (.func 53) #[] #[.pointer (some (⟨b3, 0, none⟩ : Addr))]] w1 fun en w1_1 =>
 ∃ t7 : ByteArray, en = .returned (.string t7) ∧
 Q (.string t7) w1_1
def an35 : Ann := { cut := fun i => none, loop := fun i => [] }
theorem eq35 (x0 : Option Addr) (x1 : Int) (w : World) (Q : Value → World → Prop) : F35 x0 x1 w Q = vc prog an35 (Try.f35.body.getD .skip) (envOf [.pointer x0, .int .i64 x1]) w (retK prog Try.f35 Q) := by kernel_rfl
theorem ok35 : codeOk Try.f35.ntmps (Try.f35.body.getD .skip) = true := by kernel_rfl
theorem W35 {x0 : Option Addr} {x1 : Int} {w : World} {Q : Value → World → Prop} (h : F35 x0 x1 w Q) : Calls prog 35 #[.pointer x0, .int .i64 x1] w fun en w' => ∃ v, en = .returned v ∧ Q v w' :=
  calls_of_vc good follows an35 (args := [.pointer x0, .int .i64 x1]) Try.func35 (by kernel_rfl) ok35 (of_decide_eq_true (by kernel_rfl)) (Eq.mp (eq35 x0 x1 w Q) h)

/-- (*bastion/code.Reader).OK -/
def F36 (x0 : Option Addr) (w : World) (Q : Value → World → Prop) : Prop :=
 ∃ b4 : Bool, BinIs prog .neq 57 (.tmp 3) (.const (.pointer none)) (.pointer x0) (.pointer none) b4 ∧
 IfB b4
 (∃ p7, x0 = some p7 ∧
 Calls prog 54 #[.pointer (some (p7.add 0))] w fun en w1 =>
 ∃ t9 : Bool, en = .returned (.bool t9) ∧
 Q (.bool t9) w1)
 (Q (.bool false) w)
def an36 : Ann := { cut := fun i => none, loop := fun i => [] }
theorem eq36 (x0 : Option Addr) (w : World) (Q : Value → World → Prop) : F36 x0 w Q = vc prog an36 (Try.f36.body.getD .skip) (envOf [.pointer x0]) w (retK prog Try.f36 Q) := by kernel_rfl
theorem ok36 : codeOk Try.f36.ntmps (Try.f36.body.getD .skip) = true := by kernel_rfl
theorem W36 {x0 : Option Addr} {w : World} {Q : Value → World → Prop} (h : F36 x0 w Q) : Calls prog 36 #[.pointer x0] w fun en w' => ∃ v, en = .returned v ∧ Q v w' :=
  calls_of_vc good follows an36 (args := [.pointer x0]) Try.func36 (by kernel_rfl) ok36 (of_decide_eq_true (by kernel_rfl)) (Eq.mp (eq36 x0 w Q) h)

/-- bytes.Equal -/
def F37 (x0 : Sl) (x1 : Sl) (w : World) (Q : Value → World → Prop) : Prop :=
 RunT prog .str (convert 30 9 (.slice x0.a x0.l x0.c)) w fun (t6 : ByteArray) w1 =>
 RunT prog .str (convert 30 9 (.slice x1.a x1.l x1.c)) w1 fun (t8 : ByteArray) w1_1 =>
 Q (.bool (t6.toList == t8.toList)) w1_1
def an37 : Ann := { cut := fun i => none, loop := fun i => [] }
theorem eq37 (x0 : Sl) (x1 : Sl) (w : World) (Q : Value → World → Prop) : F37 x0 x1 w Q = vc prog an37 (Try.f37.body.getD .skip) (envOf [.slice x0.a x0.l x0.c, .slice x1.a x1.l x1.c]) w (retK prog Try.f37 Q) := by kernel_rfl
theorem ok37 : codeOk Try.f37.ntmps (Try.f37.body.getD .skip) = true := by kernel_rfl
theorem W37 {x0 : Sl} {x1 : Sl} {w : World} {Q : Value → World → Prop} (h : F37 x0 x1 w Q) : Calls prog 37 #[.slice x0.a x0.l x0.c, .slice x1.a x1.l x1.c] w fun en w' => ∃ v, en = .returned v ∧ Q v w' :=
  calls_of_vc good follows an37 (args := [.slice x0.a x0.l x0.c, .slice x1.a x1.l x1.c]) Try.func37 (by kernel_rfl) ok37 (of_decide_eq_true (by kernel_rfl)) (Eq.mp (eq37 x0 x1 w Q) h)

/-- bastion/bastionref01.NewReader -/
def F38 (x0 : Sl) (w : World) (Q : Value → World → Prop) : Prop :=
 Calls prog 55 #[.slice x0.a x0.l x0.c, .string (⟨#[]⟩ : ByteArray)] w fun en w1 =>
 ∃ t4 : Sl, en = .returned (.slice t4.a t4.l t4.c) ∧
 ∃ t5 : Array Value, BuildIs prog 78 #[(0, .slice t4.a t4.l t4.c)] t5 ∧
 ∀ b6 w1_1, NewB w1 (.cells t5 78) b6 w1_1 →
 Q (.pointer (some (⟨b6, 0, none⟩ : Addr))) w1_1
def an38 : Ann := { cut := fun i => none, loop := fun i => [] }
theorem eq38 (x0 : Sl) (w : World) (Q : Value → World → Prop) : F38 x0 w Q = vc prog an38 (Try.f38.body.getD .skip) (envOf [.slice x0.a x0.l x0.c]) w (retK prog Try.f38 Q) := by kernel_rfl
theorem ok38 : codeOk Try.f38.ntmps (Try.f38.body.getD .skip) = true := by kernel_rfl
theorem W38 {x0 : Sl} {w : World} {Q : Value → World → Prop} (h : F38 x0 w Q) : Calls prog 38 #[.slice x0.a x0.l x0.c] w fun en w' => ∃ v, en = .returned v ∧ Q v w' :=
  calls_of_vc good follows an38 (args := [.slice x0.a x0.l x0.c]) Try.func38 (by kernel_rfl) ok38 (of_decide_eq_true (by kernel_rfl)) (Eq.mp (eq38 x0 w Q) h)

/-- (*bastion/bastionref01.Reader).Flag -/
def F39 (x0 : Option Addr) (w : World) (Q : Value → World → Prop) : Prop :=
 ∃ J : Bool → World → Prop, (∃ p5, x0 = some p5 ∧
 ∃ t7 : Sl, Ld w (p5.add 0) (.slice t7.a t7.l t7.c) ∧
 IfB (((t7.l : Nat) : Int) == (0 : Int))
 (J true w)
 (∃ p12, x0 = some p12 ∧
 ∃ t14 : Sl, Ld w (p12.add 0) (.slice t14.a t14.l t14.c) ∧
 ∃ p15, t14.a = some p15 ∧ 0 ≤ (0 : Int) ∧ (0 : Int) < ((t14.l : Nat) : Int) ∧
 ∃ t16 : Int, Ld w (p15.add (0 * 1)) (.int .u8 t16) ∧
 J (decide (t16 > (1 : Int))) w)) ∧
 (∀ (u : Env) (x18 : Bool) (w1 : World), J x18 w1 →
 IfB x18
 (Calls prog 56 #[.pointer x0] w1 fun en w1_1 =>
 en = .returned (.tuple #[]) ∧
 Q (.bool false) w1_1)
 (∃ p22, x0 = some p22 ∧
 ∃ t24 : Sl, Ld w1 (p22.add 0) (.slice t24.a t24.l t24.c) ∧
 ∃ p25, t24.a = some p25 ∧ 0 ≤ (0 : Int) ∧ (0 : Int) < ((t24.l : Nat) : Int) ∧
 ∃ t26 : Int, Ld w1 (p25.add (0 * 1)) (.int .u8 t26) ∧
 ∃ p30, x0 = some p30 ∧
 ∃ t32 : Sl, Ld w1 (p30.add 0) (.slice t32.a t32.l t32.c) ∧
 (0 ≤ (1 : Int) ∧ (1 : Int) ≤ ((t32.l : Nat) : Int)) ∧
 ∃ p34, x0 = some p34 ∧
 Wr w1 (p34.add 0) ∧ ∀ w1_1, w1_1 = w1.setCell (p34.add 0) (.slice (slA t32.a 1 t32.c 1) (t32.l - 1) (t32.c - 1)) →
 Q (.bool (t26 == (1 : Int))) w1_1))
def an39 : Ann := { cut := fun i => bif Nat.beq i 2 then some [(18, .bool)] else none, loop := fun i => [] }
theorem eq39 (x0 : Option Addr) (w : World) (Q : Value → World → Prop) : F39 x0 w Q = vc prog an39 (Try.f39.body.getD .skip) (envOf [.pointer x0]) w (retK prog Try.f39 Q) := by kernel_rfl
theorem ok39 : codeOk Try.f39.ntmps (Try.f39.body.getD .skip) = true := by kernel_rfl
theorem W39 {x0 : Option Addr} {w : World} {Q : Value → World → Prop} (h : F39 x0 w Q) : Calls prog 39 #[.pointer x0] w fun en w' => ∃ v, en = .returned v ∧ Q v w' :=
  calls_of_vc good follows an39 (args := [.pointer x0]) Try.func39 (by kernel_rfl) ok39 (of_decide_eq_true (by kernel_rfl)) (Eq.mp (eq39 x0 w Q) h)

/-- (*bastion/bastionref01.Reader).Count -/
def F40 (x0 : Option Addr) (x1 : Int) (w : World) (Q : Value → World → Prop) : Prop :=
 Calls prog 57 #[.pointer x0, .int .i64 x1] w fun en w1 =>
 ∃ t10a : Int, ∃ t10b : Int, en = .returned (.tuple #[.int .i64 t10a, .int .i64 t10b]) ∧
 IfB (t10b == (0 : Int))
 (Calls prog 56 #[.pointer x0] w1 fun en w1_1 =>
 en = .returned (.tuple #[]) ∧
 Q (.int .i64 0) w1_1)
 (∃ p19, x0 = some p19 ∧
 ∃ t21 : Sl, Ld w1 (p19.add 0) (.slice t21.a t21.l t21.c) ∧
 (0 ≤ t10b ∧ t10b ≤ ((t21.l : Nat) : Int)) ∧
 ∃ p24, x0 = some p24 ∧
 Wr w1 (p24.add 0) ∧ ∀ w1_1, w1_1 = w1.setCell (p24.add 0) (.slice (slA t21.a ((t10b).toNat) t21.c 1) (t21.l - ((t10b).toNat)) (t21.c - ((t10b).toNat))) →
 Q (.int .i64 t10a) w1_1)
def an40 : Ann := { cut := fun i => none, loop := fun i => [] }
theorem eq40 (x0 : Option Addr) (x1 : Int) (w : World) (Q : Value → World → Prop) : F40 x0 x1 w Q = vc prog an40 (Try.f40.body.getD .skip) (envOf [.pointer x0, .int .i64 x1]) w (retK prog Try.f40 Q) := by kernel_rfl
theorem ok40 : codeOk Try.f40.ntmps (Try.f40.body.getD .skip) = true := by kernel_rfl
theorem W40 {x0 : Option Addr} {x1 : Int} {w : World} {Q : Value → World → Prop} (h : F40 x0 x1 w Q) : Calls prog 40 #[.pointer x0, .int .i64 x1] w fun en w' => ∃ v, en = .returned v ∧ Q v w' :=
  calls_of_vc good follows an40 (args := [.pointer x0, .int .i64 x1]) Try.func40 (by kernel_rfl) ok40 (of_decide_eq_true (by kernel_rfl)) (Eq.mp (eq40 x0 x1 w Q) h)

/-- (*bastion/bastionref01.Reader).OK -/
def F41 (x0 : Option Addr) (w : World) (Q : Value → World → Prop) : Prop :=
 ∃ p4, x0 = some p4 ∧
 ∃ t6 : Bool, Ld w (p4.add 1) (.bool t6) ∧
 Q (.bool (!t6)) w
def an41 : Ann := { cut := fun i => none, loop := fun i => [] }
theorem eq41 (x0 : Option Addr) (w : World) (Q : Value → World → Prop) : F41 x0 w Q = vc prog an41 (Try.f41.body.getD .skip) (envOf [.pointer x0]) w (retK prog Try.f41 Q) := by kernel_rfl
theorem ok41 : codeOk Try.f41.ntmps (Try.f41.body.getD .skip) = true := by kernel_rfl
theorem W41 {x0 : Option Addr} {w : World} {Q : Value → World → Prop} (h : F41 x0 w Q) : Calls prog 41 #[.pointer x0] w fun en w' => ∃ v, en = .returned v ∧ Q v w' :=
  calls_of_vc good follows an41 (args := [.pointer x0]) Try.func41 (by kernel_rfl) ok41 (of_decide_eq_true (by kernel_rfl)) (Eq.mp (eq41 x0 w Q) h)

/-- (*bastion/bastionref01.Reader).Str -/
def F42 (x0 : Option Addr) (x1 : Int) (w : World) (Q : Value → World → Prop) : Prop :=
 Calls prog 57 #[.pointer x0, .int .i64 x1] w fun en w1 =>
 ∃ t11a : Int, ∃ t11b : Int, en = .returned (.tuple #[.int .i64 t11a, .int .i64 t11b]) ∧
 ∃ J : Bool → World → Prop, (IfB (t11b == (0 : Int))
 (J true w1)
 (∃ p21, x0 = some p21 ∧
 ∃ t23 : Sl, Ld w1 (p21.add 0) (.slice t23.a t23.l t23.c) ∧
 J (decide (IntKind.wrap .i64 (t11b + t11a) > ((t23.l : Nat) : Int))) w1)) ∧
 (∀ (u : Env) (x26 : Bool) (w1_1 : World), J x26 w1_1 →
 IfB x26
 (Calls prog 56 #[.pointer x0] w1_1 fun en w1_2 =>
 en = .returned (.tuple #[]) ∧
 Q (.string (⟨#[]⟩ : ByteArray)) w1_2)
 (∃ p30, x0 = some p30 ∧
 ∃ t32 : Sl, Ld w1_1 (p30.add 0) (.slice t32.a t32.l t32.c) ∧
 (0 ≤ IntKind.wrap .i64 (t11b + t11a) ∧ IntKind.wrap .i64 (t11b + t11a) ≤ ((t32.c : Nat) : Int)) ∧
 (0 ≤ t11b ∧ t11b ≤ (((IntKind.wrap .i64 (t11b + t11a)).toNat : Nat) : Int)) ∧
 RunT prog .str (convert 30 9 (.slice (slA t32.a ((t11b).toNat) t32.c 1) ((IntKind.wrap .i64 (t11b + t11a)).toNat - ((t11b).toNat)) (t32.c - ((t11b).toNat)))) w1_1 fun (t38 : ByteArray) w1_2 =>
 ∃ p41, x0 = some p41 ∧
 ∃ t43 : Sl, Ld w1_2 (p41.add 0) (.slice t43.a t43.l t43.c) ∧
 (0 ≤ IntKind.wrap .i64 (t11b + t11a) ∧ IntKind.wrap .i64 (t11b + t11a) ≤ ((t43.l : Nat) : Int)) ∧
 ∃ p48, x0 = some p48 ∧
 Wr w1_2 (p48.add 0) ∧ ∀ w1_3, w1_3 = w1_2.setCell (p48.add 0) (.slice (slA t43.a ((IntKind.wrap .i64 (t11b + t11a)).toNat) t43.c 1) (t43.l - ((IntKind.wrap .i64 (t11b + t11a)).toNat)) (t43.c - ((IntKind.wrap .i64 (t11b + t11a)).toNat))) →
 Q (.string t38) w1_3))
def an42 : Ann := { cut := fun i => bif Nat.beq i 3 then some [(26, .bool)] else none, loop := fun i => [] }
theorem eq42 (x0 : Option Addr) (x1 : Int) (w : World) (Q : Value → World → Prop) : F42 x0 x1 w Q = vc prog an42 (Try.f42.body.getD .skip) (envOf [.pointer x0, .int .i64 x1]) w (retK prog Try.f42 Q) := by kernel_rfl
theorem ok42 : codeOk Try.f42.ntmps (Try.f42.body.getD .skip) = true := by kernel_rfl
theorem W42 {x0 : Option Addr} {x1 : Int} {w : World} {Q : Value → World → Prop} (h : F42 x0 x1 w Q) : Calls prog 42 #[.pointer x0, .int .i64 x1] w fun en w' => ∃ v, en = .returned v ∧ Q v w' :=
  calls_of_vc good follows an42 (args := [.pointer x0, .int .i64 x1]) Try.func42 (by kernel_rfl) ok42 (of_decide_eq_true (by kernel_rfl)) (Eq.mp (eq42 x0 x1 w Q) h)

/-- bastion/code.Count -/
def F43 (x0 : Sl) (x1 : Int) (w : World) (Q : Value → World → Prop) : Prop :=
 IfB (decide (x1 < (0 : Int)))
 (Calls prog 58 #[.slice x0.a x0.l x0.c] w fun en w1 =>
 ∃ t12 : Sl, en = .returned (.slice t12.a t12.l t12.c) ∧
 Q (.slice t12.a t12.l t12.c) w1)
 (IfB (decide (x1 > (2147483647 : Int)))
 (Calls prog 58 #[.slice x0.a x0.l x0.c] w fun en w1 =>
 ∃ t12 : Sl, en = .returned (.slice t12.a t12.l t12.c) ∧
 Q (.slice t12.a t12.l t12.c) w1)
 (Calls prog 59 #[.slice x0.a x0.l x0.c, .int .u64 (IntKind.wrap .u64 x1), .string (⟨#[]⟩ : ByteArray)] w fun en w1 =>
 ∃ t16 : Sl, en = .returned (.slice t16.a t16.l t16.c) ∧
 Q (.slice t16.a t16.l t16.c) w1))
def an43 : Ann := { cut := fun i => none, loop := fun i => [] }
theorem eq43 (x0 : Sl) (x1 : Int) (w : World) (Q : Value → World → Prop) : F43 x0 x1 w Q = vc prog an43 (Try.f43.body.getD .skip) (envOf [.slice x0.a x0.l x0.c, .int .i64 x1]) w (retK prog Try.f43 Q) := by kernel_rfl
theorem ok43 : codeOk Try.f43.ntmps (Try.f43.body.getD .skip) = true := by kernel_rfl
theorem W43 {x0 : Sl} {x1 : Int} {w : World} {Q : Value → World → Prop} (h : F43 x0 x1 w Q) : Calls prog 43 #[.slice x0.a x0.l x0.c, .int .i64 x1] w fun en w' => ∃ v, en = .returned v ∧ Q v w' :=
  calls_of_vc good follows an43 (args := [.slice x0.a x0.l x0.c, .int .i64 x1]) Try.func43 (by kernel_rfl) ok43 (of_decide_eq_true (by kernel_rfl)) (Eq.mp (eq43 x0 x1 w Q) h)

/-- bastion/code.Flag -/
def F44 (x0 : Sl) (x1 : Bool) (w : World) (Q : Value → World → Prop) : Prop :=
 IfB x1
 (Calls prog 59 #[.slice x0.a x0.l x0.c, .int .u64 1, .string (⟨#[]⟩ : ByteArray)] w fun en w1 =>
 ∃ t7 : Sl, en = .returned (.slice t7.a t7.l t7.c) ∧
 Q (.slice t7.a t7.l t7.c) w1)
 (Calls prog 59 #[.slice x0.a x0.l x0.c, .int .u64 0, .string (⟨#[]⟩ : ByteArray)] w fun en w1 =>
 ∃ t9 : Sl, en = .returned (.slice t9.a t9.l t9.c) ∧
 Q (.slice t9.a t9.l t9.c) w1)
def an44 : Ann := { cut := fun i => none, loop := fun i => [] }
theorem eq44 (x0 : Sl) (x1 : Bool) (w : World) (Q : Value → World → Prop) : F44 x0 x1 w Q = vc prog an44 (Try.f44.body.getD .skip) (envOf [.slice x0.a x0.l x0.c, .bool x1]) w (retK prog Try.f44 Q) := by kernel_rfl
theorem ok44 : codeOk Try.f44.ntmps (Try.f44.body.getD .skip) = true := by kernel_rfl
theorem W44 {x0 : Sl} {x1 : Bool} {w : World} {Q : Value → World → Prop} (h : F44 x0 x1 w Q) : Calls prog 44 #[.slice x0.a x0.l x0.c, .bool x1] w fun en w' => ∃ v, en = .returned v ∧ Q v w' :=
  calls_of_vc good follows an44 (args := [.slice x0.a x0.l x0.c, .bool x1]) Try.func44 (by kernel_rfl) ok44 (of_decide_eq_true (by kernel_rfl)) (Eq.mp (eq44 x0 x1 w Q) h)

/-- bastion/code.Str -/
def F45 (x0 : Sl) (x1 : ByteArray) (w : World) (Q : Value → World → Prop) : Prop :=
 IfB (decide (((x1.size : Nat) : Int) > (2147483647 : Int)))
 (Calls prog 58 #[.slice x0.a x0.l x0.c] w fun en w1 =>
 ∃ t9 : Sl, en = .returned (.slice t9.a t9.l t9.c) ∧
 Q (.slice t9.a t9.l t9.c) w1)
 (Calls prog 59 #[.slice x0.a x0.l x0.c, .int .u64 (IntKind.wrap .u64 ((x1.size : Nat) : Int)), .string x1] w fun en w1 =>
 ∃ t15 : Sl, en = .returned (.slice t15.a t15.l t15.c) ∧
 Q (.slice t15.a t15.l t15.c) w1)
def an45 : Ann := { cut := fun i => none, loop := fun i => [] }
theorem eq45 (x0 : Sl) (x1 : ByteArray) (w : World) (Q : Value → World → Prop) : F45 x0 x1 w Q = vc prog an45 (Try.f45.body.getD .skip) (envOf [.slice x0.a x0.l x0.c, .string x1]) w (retK prog Try.f45 Q) := by kernel_rfl
theorem ok45 : codeOk Try.f45.ntmps (Try.f45.body.getD .skip) = true := by kernel_rfl
theorem W45 {x0 : Sl} {x1 : ByteArray} {w : World} {Q : Value → World → Prop} (h : F45 x0 x1 w Q) : Calls prog 45 #[.slice x0.a x0.l x0.c, .string x1] w fun en w' => ∃ v, en = .returned v ∧ Q v w' :=
  calls_of_vc good follows an45 (args := [.slice x0.a x0.l x0.c, .string x1]) Try.func45 (by kernel_rfl) ok45 (of_decide_eq_true (by kernel_rfl)) (Eq.mp (eq45 x0 x1 w Q) h)

/-- bastion/bastionref01.Count -/
def F46 (x0 : Sl) (x1 : Int) (w : World) (Q : Value → World → Prop) : Prop :=
 IfB (decide (x1 < (0 : Int)))
 (Calls prog 55 #[.slice x0.a x0.l x0.c, .string (⟨#[]⟩ : ByteArray)] w fun en w1 =>
 ∃ t12 : Sl, en = .returned (.slice t12.a t12.l t12.c) ∧
 Q (.slice t12.a t12.l t12.c) w1)
 (IfB (decide (x1 > (2147483647 : Int)))
 (Calls prog 55 #[.slice x0.a x0.l x0.c, .string (⟨#[]⟩ : ByteArray)] w fun en w1 =>
 ∃ t12 : Sl, en = .returned (.slice t12.a t12.l t12.c) ∧
 Q (.slice t12.a t12.l t12.c) w1)
 (Calls prog 60 #[.int .u64 (IntKind.wrap .u64 x1)] w fun en w1 =>
 ∃ t16 : ByteArray, en = .returned (.string t16) ∧
 Calls prog 55 #[.slice x0.a x0.l x0.c, .string t16] w1 fun en w1_1 =>
 ∃ t17 : Sl, en = .returned (.slice t17.a t17.l t17.c) ∧
 Q (.slice t17.a t17.l t17.c) w1_1))
def an46 : Ann := { cut := fun i => none, loop := fun i => [] }
theorem eq46 (x0 : Sl) (x1 : Int) (w : World) (Q : Value → World → Prop) : F46 x0 x1 w Q = vc prog an46 (Try.f46.body.getD .skip) (envOf [.slice x0.a x0.l x0.c, .int .i64 x1]) w (retK prog Try.f46 Q) := by kernel_rfl
theorem ok46 : codeOk Try.f46.ntmps (Try.f46.body.getD .skip) = true := by kernel_rfl
theorem W46 {x0 : Sl} {x1 : Int} {w : World} {Q : Value → World → Prop} (h : F46 x0 x1 w Q) : Calls prog 46 #[.slice x0.a x0.l x0.c, .int .i64 x1] w fun en w' => ∃ v, en = .returned v ∧ Q v w' :=
  calls_of_vc good follows an46 (args := [.slice x0.a x0.l x0.c, .int .i64 x1]) Try.func46 (by kernel_rfl) ok46 (of_decide_eq_true (by kernel_rfl)) (Eq.mp (eq46 x0 x1 w Q) h)

/-- bastion/bastionref01.Flag -/
def F47 (x0 : Sl) (x1 : Bool) (w : World) (Q : Value → World → Prop) : Prop :=
 IfB x1
 (Calls prog 55 #[.slice x0.a x0.l x0.c, .string (⟨#[1]⟩ : ByteArray)] w fun en w1 =>
 ∃ t7 : Sl, en = .returned (.slice t7.a t7.l t7.c) ∧
 Q (.slice t7.a t7.l t7.c) w1)
 (Calls prog 55 #[.slice x0.a x0.l x0.c, .string (⟨#[0]⟩ : ByteArray)] w fun en w1 =>
 ∃ t9 : Sl, en = .returned (.slice t9.a t9.l t9.c) ∧
 Q (.slice t9.a t9.l t9.c) w1)
def an47 : Ann := { cut := fun i => none, loop := fun i => [] }
theorem eq47 (x0 : Sl) (x1 : Bool) (w : World) (Q : Value → World → Prop) : F47 x0 x1 w Q = vc prog an47 (Try.f47.body.getD .skip) (envOf [.slice x0.a x0.l x0.c, .bool x1]) w (retK prog Try.f47 Q) := by kernel_rfl
theorem ok47 : codeOk Try.f47.ntmps (Try.f47.body.getD .skip) = true := by kernel_rfl
theorem W47 {x0 : Sl} {x1 : Bool} {w : World} {Q : Value → World → Prop} (h : F47 x0 x1 w Q) : Calls prog 47 #[.slice x0.a x0.l x0.c, .bool x1] w fun en w' => ∃ v, en = .returned v ∧ Q v w' :=
  calls_of_vc good follows an47 (args := [.slice x0.a x0.l x0.c, .bool x1]) Try.func47 (by kernel_rfl) ok47 (of_decide_eq_true (by kernel_rfl)) (Eq.mp (eq47 x0 x1 w Q) h)

/-- bastion/bastionref01.Str -/
def F48 (x0 : Sl) (x1 : ByteArray) (w : World) (Q : Value → World → Prop) : Prop :=
 Calls prog 46 #[.slice x0.a x0.l x0.c, .int .i64 ((x1.size : Nat) : Int)] w fun en w1 =>
 ∃ t8 : Sl, en = .returned (.slice t8.a t8.l t8.c) ∧
 Calls prog 55 #[.slice t8.a t8.l t8.c, .string x1] w1 fun en w1_1 =>
 ∃ t10 : Sl, en = .returned (.slice t10.a t10.l t10.c) ∧
 Q (.slice t10.a t10.l t10.c) w1_1
def an48 : Ann := { cut := fun i => none, loop := fun i => [] }
theorem eq48 (x0 : Sl) (x1 : ByteArray) (w : World) (Q : Value → World → Prop) : F48 x0 x1 w Q = vc prog an48 (Try.f48.body.getD .skip) (envOf [.slice x0.a x0.l x0.c, .string x1]) w (retK prog Try.f48 Q) := by kernel_rfl
theorem ok48 : codeOk Try.f48.ntmps (Try.f48.body.getD .skip) = true := by kernel_rfl
theorem W48 {x0 : Sl} {x1 : ByteArray} {w : World} {Q : Value → World → Prop} (h : F48 x0 x1 w Q) : Calls prog 48 #[.slice x0.a x0.l x0.c, .string x1] w fun en w' => ∃ v, en = .returned v ∧ Q v w' :=
  calls_of_vc good follows an48 (args := [.slice x0.a x0.l x0.c, .string x1]) Try.func48 (by kernel_rfl) ok48 (of_decide_eq_true (by kernel_rfl)) (Eq.mp (eq48 x0 x1 w Q) h)

/-- bastion/code.off[int] -/
def F49 (x0 : Option Addr) (x1 : Value) (w : World) (Q : Value → World → Prop) : Prop :=
 Calls prog 36 #[.pointer x0] w fun en w1 =>
 ∃ t9 : Bool, en = .returned (.bool t9) ∧
 IfB (!t9)
 (Q (.int .i64 0) w1)
 (∃ p15, x0 = some p15 ∧
 Calls prog 61 #[.pointer (some (p15.add 0))] w1 fun en w1_1 =>
 ∃ t17 : ByteArray, en = .returned (.string t17) ∧
 CallV prog x1 #[.string t17] w1_1 fun v18 w1_2 =>
 ∃ t18a : Int, ∃ t18b : Int, v18 = (.tuple #[.int .i64 t18a, .int .i64 t18b]) ∧
 IfB (t18b == (0 : Int))
 (∃ p25, x0 = some p25 ∧
 ∃ t28 : ByteArray, Ld w1_2 ((p25.add 0).add 0) (.string t28) ∧
 ∃ p31, x0 = some p31 ∧
 Wr w1_2 ((p31.add 0).add 1) ∧ ∀ w1_3, w1_3 = w1_2.setCell ((p31.add 0).add 1) (.int .i64 (IntKind.wrap .i64 (((t28.size : Nat) : Int) + (1 : Int)))) →
 Q (.int .i64 0) w1_3)
 (∃ p36, x0 = some p36 ∧
 ∃ t39 : Int, Ld w1_2 ((p36.add 0).add 1) (.int .i64 t39) ∧
 ∃ p42, x0 = some p42 ∧
 Wr w1_2 ((p42.add 0).add 1) ∧ ∀ w1_3, w1_3 = w1_2.setCell ((p42.add 0).add 1) (.int .i64 (IntKind.wrap .i64 (t39 + t18b))) →
 Q (.int .i64 t18a) w1_3))
def an49 : Ann := { cut := fun i => none, loop := fun i => [] }
theorem eq49 (x0 : Option Addr) (x1 : Value) (w : World) (Q : Value → World → Prop) : F49 x0 x1 w Q = vc prog an49 (Try.f49.body.getD .skip) (envOf [.pointer x0, x1]) w (retK prog Try.f49 Q) := by kernel_rfl
theorem ok49 : codeOk Try.f49.ntmps (Try.f49.body.getD .skip) = true := by kernel_rfl
theorem W49 {x0 : Option Addr} {x1 : Value} {w : World} {Q : Value → World → Prop} (h : F49 x0 x1 w Q) : Calls prog 49 #[.pointer x0, x1] w fun en w' => ∃ v, en = .returned v ∧ Q v w' :=
  calls_of_vc good follows an49 (args := [.pointer x0, x1]) Try.func49 (by kernel_rfl) ok49 (of_decide_eq_true (by kernel_rfl)) (Eq.mp (eq49 x0 x1 w Q) h)

/-- (*bastion/code.Reader).Count$1 -/
def F50 (x0 : ByteArray) (x1 : Addr) (w : World) (Q : Value → World → Prop) : Prop :=
 ∃ t6 : Int, Ld w x1 (.int .i64 t6) ∧
 Calls prog 51 #[.string x0, .int .i64 t6] w fun en w1 =>
 ∃ t7a : Int, ∃ t7b : Int, en = .returned (.tuple #[.int .i64 t7a, .int .i64 t7b]) ∧
 Q (.tuple #[.int .i64 t7a, .int .i64 t7b]) w1
def an50 : Ann := { cut := fun i => none, loop := fun i => [] }
theorem eq50 (x0 : ByteArray) (x1 : Addr) (w : World) (Q : Value → World → Prop) : F50 x0 x1 w Q = vc prog an50 (Try.f50.body.getD .skip) (envOf [.string x0, .pointer (some x1)]) w (retK prog Try.f50 Q) := by kernel_rfl
theorem ok50 : codeOk Try.f50.ntmps (Try.f50.body.getD .skip) = true := by kernel_rfl
theorem W50 {x0 : ByteArray} {x1 : Addr} {w : World} {Q : Value → World → Prop} (h : F50 x0 x1 w Q) : Calls prog 50 #[.string x0, .pointer (some x1)] w fun en w' => ∃ v, en = .returned v ∧ Q v w' :=
  calls_of_vc good follows an50 (args := [.string x0, .pointer (some x1)]) Try.func50 (by kernel_rfl) ok50 (of_decide_eq_true (by kernel_rfl)) (Eq.mp (eq50 x0 x1 w Q) h)

/-- bastion/code.within -/
def F51 (x0 : ByteArray) (x1 : Int) (w : World) (Q : Value → World → Prop) : Prop :=
 Calls prog 62 #[.string x0] w fun en w1 =>
 ∃ t10a : Int, ∃ t10b : Int, en = .returned (.tuple #[.int .u64 t10a, .int .i64 t10b]) ∧
 IfB (decide (t10a > (2147483647 : Int)))
 (Q (.tuple #[.int .i64 0, .int .i64 0]) w1)
 (IfB (decide (IntKind.wrap .i64 t10a > x1))
 (Q (.tuple #[.int .i64 0, .int .i64 0]) w1)
 (Q (.tuple #[.int .i64 (IntKind.wrap .i64 t10a), .int .i64 t10b]) w1))
def an51 : Ann := { cut := fun i => none, loop := fun i => [] }
theorem eq51 (x0 : ByteArray) (x1 : Int) (w : World) (Q : Value → World → Prop) : F51 x0 x1 w Q = vc prog an51 (Try.f51.body.getD .skip) (envOf [.string x0, .int .i64 x1]) w (retK prog Try.f51 Q) := by kernel_rfl
theorem ok51 : codeOk Try.f51.ntmps (Try.f51.body.getD .skip) = true := by kernel_rfl
theorem W51 {x0 : ByteArray} {x1 : Int} {w : World} {Q : Value → World → Prop} (h : F51 x0 x1 w Q) : Calls prog 51 #[.string x0, .int .i64 x1] w fun en w' => ∃ v, en = .returned v ∧ Q v w' :=
  calls_of_vc good follows an51 (args := [.string x0, .int .i64 x1]) Try.func51 (by kernel_rfl) ok51 (of_decide_eq_true (by kernel_rfl)) (Eq.mp (eq51 x0 x1 w Q) h)

/-- bastion/code.off[string] -/
def F52 (x0 : Option Addr) (x1 : Value) (w : World) (Q : Value → World → Prop) : Prop :=
 Calls prog 36 #[.pointer x0] w fun en w1 =>
 ∃ t9 : Bool, en = .returned (.bool t9) ∧
 IfB (!t9)
 (Q (.string (⟨#[]⟩ : ByteArray)) w1)
 (∃ p15, x0 = some p15 ∧
 Calls prog 61 #[.pointer (some (p15.add 0))] w1 fun en w1_1 =>
 ∃ t17 : ByteArray, en = .returned (.string t17) ∧
 CallV prog x1 #[.string t17] w1_1 fun v18 w1_2 =>
 ∃ t18a : ByteArray, ∃ t18b : Int, v18 = (.tuple #[.string t18a, .int .i64 t18b]) ∧
 IfB (t18b == (0 : Int))
 (∃ p25, x0 = some p25 ∧
 ∃ t28 : ByteArray, Ld w1_2 ((p25.add 0).add 0) (.string t28) ∧
 ∃ p31, x0 = some p31 ∧
 Wr w1_2 ((p31.add 0).add 1) ∧ ∀ w1_3, w1_3 = w1_2.setCell ((p31.add 0).add 1) (.int .i64 (IntKind.wrap .i64 (((t28.size : Nat) : Int) + (1 : Int)))) →
 Q (.string (⟨#[]⟩ : ByteArray)) w1_3)
 (∃ p36, x0 = some p36 ∧
 ∃ t39 : Int, Ld w1_2 ((p36.add 0).add 1) (.int .i64 t39) ∧
 ∃ p42, x0 = some p42 ∧
 Wr w1_2 ((p42.add 0).add 1) ∧ ∀ w1_3, w1_3 = w1_2.setCell ((p42.add 0).add 1) (.int .i64 (IntKind.wrap .i64 (t39 + t18b))) →
 Q (.string t18a) w1_3))
def an52 : Ann := { cut := fun i => none, loop := fun i => [] }
theorem eq52 (x0 : Option Addr) (x1 : Value) (w : World) (Q : Value → World → Prop) : F52 x0 x1 w Q = vc prog an52 (Try.f52.body.getD .skip) (envOf [.pointer x0, x1]) w (retK prog Try.f52 Q) := by kernel_rfl
theorem ok52 : codeOk Try.f52.ntmps (Try.f52.body.getD .skip) = true := by kernel_rfl
theorem W52 {x0 : Option Addr} {x1 : Value} {w : World} {Q : Value → World → Prop} (h : F52 x0 x1 w Q) : Calls prog 52 #[.pointer x0, x1] w fun en w' => ∃ v, en = .returned v ∧ Q v w' :=
  calls_of_vc good follows an52 (args := [.pointer x0, x1]) Try.func52 (by kernel_rfl) ok52 (of_decide_eq_true (by kernel_rfl)) (Eq.mp (eq52 x0 x1 w Q) h)

/-- (*bastion/code.Reader).Str$1 -/
def F53 (x0 : ByteArray) (x1 : Addr) (w : World) (Q : Value → World → Prop) : Prop :=
 ∃ t9 : Int, Ld w x1 (.int .i64 t9) ∧
 Calls prog 51 #[.string x0, .int .i64 t9] w fun en w1 =>
 ∃ t10a : Int, ∃ t10b : Int, en = .returned (.tuple #[.int .i64 t10a, .int .i64 t10b]) ∧
 IfB (t10b == (0 : Int))
 (Q (.tuple #[.string (⟨#[]⟩ : ByteArray), .int .i64 0]) w1)
 (IfB (decide (t10a > IntKind.wrap .i64 (((x0.size : Nat) : Int) - t10b)))
 (Q (.tuple #[.string (⟨#[]⟩ : ByteArray), .int .i64 0]) w1)
 ((0 ≤ IntKind.wrap .i64 (t10b + t10a) ∧ IntKind.wrap .i64 (t10b + t10a) ≤ ((x0.size : Nat) : Int)) ∧
 (0 ≤ t10b ∧ t10b ≤ (((IntKind.wrap .i64 (t10b + t10a)).toNat : Nat) : Int)) ∧
 Q (.tuple #[.string (x0.extract ((t10b).toNat) ((IntKind.wrap .i64 (t10b + t10a)).toNat)), .int .i64 (IntKind.wrap .i64 (t10b + t10a))]) w1))
def an53 : Ann := { cut := fun i => none, loop := fun i => [] }
theorem eq53 (x0 : ByteArray) (x1 : Addr) (w : World) (Q : Value → World → Prop) : F53 x0 x1 w Q = vc prog an53 (Try.f53.body.getD .skip) (envOf [.string x0, .pointer (some x1)]) w (retK prog Try.f53 Q) := by kernel_rfl
theorem ok53 : codeOk Try.f53.ntmps (Try.f53.body.getD .skip) = true := by kernel_rfl
theorem W53 {x0 : ByteArray} {x1 : Addr} {w : World} {Q : Value → World → Prop} (h : F53 x0 x1 w Q) : Calls prog 53 #[.string x0, .pointer (some x1)] w fun en w' => ∃ v, en = .returned v ∧ Q v w' :=
  calls_of_vc good follows an53 (args := [.string x0, .pointer (some x1)]) Try.func53 (by kernel_rfl) ok53 (of_decide_eq_true (by kernel_rfl)) (Eq.mp (eq53 x0 x1 w Q) h)

/-- (*bastion/code.spot).OK -/
def F54 (x0 : Option Addr) (w : World) (Q : Value → World → Prop) : Prop :=
 ∃ p4, x0 = some p4 ∧
 ∃ t6 : Int, Ld w.drew (p4.add 1) (.int .i64 t6) ∧
 ∃ p8, x0 = some p8 ∧
 ∃ t10 : ByteArray, Ld w.drew (p8.add 0) (.string t10) ∧
 Q (.bool (decide (t6 ≤ ((t10.size : Nat) : Int)))) w.drew
def an54 : Ann := { cut := fun i => none, loop := fun i => [] }
theorem eq54 (x0 : Option Addr) (w : World) (Q : Value → World → Prop) : F54 x0 w Q = vc prog an54 (Try.f54.body.getD .skip) (envOf [.pointer x0]) w (retK prog Try.f54 Q) := by kernel_rfl
theorem ok54 : codeOk Try.f54.ntmps (Try.f54.body.getD .skip) = true := by kernel_rfl
theorem W54 {x0 : Option Addr} {w : World} {Q : Value → World → Prop} (h : F54 x0 w Q) : Calls prog 54 #[.pointer x0] w fun en w' => ∃ v, en = .returned v ∧ Q v w' :=
  calls_of_vc good follows an54 (args := [.pointer x0]) Try.func54 (by kernel_rfl) ok54 (of_decide_eq_true (by kernel_rfl)) (Eq.mp (eq54 x0 w Q) h)

/-- bastion/bastionref01.behind -/
def F55 (x0 : Sl) (x1 : ByteArray) (w : World) (Q : Value → World → Prop) : Prop :=
 ∃ (I : Nat → Sl → Int → World → Prop) (n0 : Nat), I n0 (⟨none, 0, 0⟩ : Sl) (0 : Int) w ∧
 ∀ (n : Nat) (u : Env) (x5 : Sl) (x6 : Int) (w1 : World), I n x5 x6 w1 →
 IfB (decide (x6 < ((x0.l : Nat) : Int)))
 (∃ p17, x0.a = some p17 ∧ 0 ≤ x6 ∧ x6 < ((x0.l : Nat) : Int) ∧
 ∃ t18 : Int, Ld w1 (p17.add ((x6).toNat * 1)) (.int .u8 t18) ∧
 RunT prog .slice (Instr.buildSlice 30 1 #[(0, .int .u8 t18)]) w1 fun (t19 : Sl) w1_1 =>
 RunT prog .slice (Builtin.append_ #[30, 30] 30 #[.slice x5.a x5.l x5.c, .slice t19.a t19.l t19.c]) w1_1 fun (t20 : Sl) w1_2 =>
 ∃ n', n' < n ∧ I n' t20 (IntKind.wrap .i64 (x6 + (1 : Int))) w1_2)
 (∃ (I_1 : Nat → Sl → Int → World → Prop) (n0_1 : Nat), I_1 n0_1 x5 (0 : Int) w1 ∧
 ∀ (n_1 : Nat) (u_1 : Env) (x5_1 : Sl) (x7 : Int) (w1_1 : World), I_1 n_1 x5_1 x7 w1_1 →
 IfB (decide (x7 < ((x1.size : Nat) : Int)))
 (0 ≤ x7 ∧ x7 < ((x1.size : Nat) : Int) ∧
 RunT prog .slice (Instr.buildSlice 30 1 #[(0, .int .u8 (bt x1 x7))]) w1_1 fun (t31 : Sl) w1_2 =>
 RunT prog .slice (Builtin.append_ #[30, 30] 30 #[.slice x5_1.a x5_1.l x5_1.c, .slice t31.a t31.l t31.c]) w1_2 fun (t32 : Sl) w1_3 =>
 ∃ n', n' < n_1 ∧ I_1 n' t32 (IntKind.wrap .i64 (x7 + (1 : Int))) w1_3)
 (Q (.slice x5_1.a x5_1.l x5_1.c) w1_1))
def an55 : Ann := { cut := fun i => none, loop := fun i => bif Nat.beq i 3 then [(5, .slice), (6, .int .i64)] else bif Nat.beq i 7 then [(5, .slice), (7, .int .i64)] else [] }
theorem eq55 (x0 : Sl) (x1 : ByteArray) (w : World) (Q : Value → World → Prop) : F55 x0 x1 w Q = vc prog an55 (Try.f55.body.getD .skip) (envOf [.slice x0.a x0.l x0.c, .string x1]) w (retK prog Try.f55 Q) := by kernel_rfl
theorem ok55 : codeOk Try.f55.ntmps (Try.f55.body.getD .skip) = true := by kernel_rfl
theorem W55 {x0 : Sl} {x1 : ByteArray} {w : World} {Q : Value → World → Prop} (h : F55 x0 x1 w Q) : Calls prog 55 #[.slice x0.a x0.l x0.c, .string x1] w fun en w' => ∃ v, en = .returned v ∧ Q v w' :=
  calls_of_vc good follows an55 (args := [.slice x0.a x0.l x0.c, .string x1]) Try.func55 (by kernel_rfl) ok55 (of_decide_eq_true (by kernel_rfl)) (Eq.mp (eq55 x0 x1 w Q) h)

/-- (*bastion/bastionref01.Reader).fails -/
def F56 (x0 : Option Addr) (w : World) (Q : Value → World → Prop) : Prop :=
 ∃ p3, x0 = some p3 ∧
 Wr w (p3.add 1) ∧ ∀ w1, w1 = w.setCell (p3.add 1) (.bool true) →
 ∃ p6, x0 = some p6 ∧
 Wr w1 (p6.add 0) ∧ ∀ w1_1, w1_1 = w1.setCell (p6.add 0) (.slice none 0 0) →
 Q (.tuple #[]) w1_1
def an56 : Ann := { cut := fun i => none, loop := fun i => [] }
theorem eq56 (x0 : Option Addr) (w : World) (Q : Value → World → Prop) : F56 x0 w Q = vc prog an56 (Try.f56.body.getD .skip) (envOf [.pointer x0]) w (retK prog Try.f56 Q) := by kernel_rfl
theorem ok56 : codeOk Try.f56.ntmps (Try.f56.body.getD .skip) = true := by kernel_rfl
theorem W56 {x0 : Option Addr} {w : World} {Q : Value → World → Prop} (h : F56 x0 w Q) : Calls prog 56 #[.pointer x0] w fun en w' => ∃ v, en = .returned v ∧ Q v w' :=
  calls_of_vc good follows an56 (args := [.pointer x0]) Try.func56 (by kernel_rfl) ok56 (of_decide_eq_true (by kernel_rfl)) (Eq.mp (eq56 x0 w Q) h)

/-- (*bastion/bastionref01.Reader).count -/
def F57 (x0 : Option Addr) (x1 : Int) (w : World) (Q : Value → World → Prop) : Prop :=
 Calls prog 63 #[.pointer x0] w fun en w1 =>
 ∃ t10a : Int, ∃ t10b : Int, en = .returned (.tuple #[.int .u64 t10a, .int .i64 t10b]) ∧
 IfB (t10b == (0 : Int))
 (Q (.tuple #[.int .i64 0, .int .i64 0]) w1)
 (IfB (decide (t10a > (2147483647 : Int)))
 (Q (.tuple #[.int .i64 0, .int .i64 0]) w1)
 (IfB (decide (x1 < IntKind.wrap .i64 t10a))
 (Q (.tuple #[.int .i64 0, .int .i64 0]) w1)
 (Q (.tuple #[.int .i64 (IntKind.wrap .i64 t10a), .int .i64 t10b]) w1)))
def an57 : Ann := { cut := fun i => none, loop := fun i => [] }
theorem eq57 (x0 : Option Addr) (x1 : Int) (w : World) (Q : Value → World → Prop) : F57 x0 x1 w Q = vc prog an57 (Try.f57.body.getD .skip) (envOf [.pointer x0, .int .i64 x1]) w (retK prog Try.f57 Q) := by kernel_rfl
theorem ok57 : codeOk Try.f57.ntmps (Try.f57.body.getD .skip) = true := by kernel_rfl
theorem W57 {x0 : Option Addr} {x1 : Int} {w : World} {Q : Value → World → Prop} (h : F57 x0 x1 w Q) : Calls prog 57 #[.pointer x0, .int .i64 x1] w fun en w' => ∃ v, en = .returned v ∧ Q v w' :=
  calls_of_vc good follows an57 (args := [.pointer x0, .int .i64 x1]) Try.func57 (by kernel_rfl) ok57 (of_decide_eq_true (by kernel_rfl)) (Eq.mp (eq57 x0 x1 w Q) h)

/-- bastion/code.none -/
def F58 (x0 : Sl) (w : World) (Q : Value → World → Prop) : Prop :=
 RunT prog .slice (Instr.buildSlice 30 0 #[]) w fun (t3 : Sl) w1 =>
 RunT prog .slice (Builtin.append_ #[30, 30] 30 #[.slice t3.a t3.l t3.c, .slice x0.a x0.l x0.c]) w1 fun (t5 : Sl) w1_1 =>
 Q (.slice t5.a t5.l t5.c) w1_1
def an58 : Ann := { cut := fun i => none, loop := fun i => [] }
theorem eq58 (x0 : Sl) (w : World) (Q : Value → World → Prop) : F58 x0 w Q = vc prog an58 (Try.f58.body.getD .skip) (envOf [.slice x0.a x0.l x0.c]) w (retK prog Try.f58 Q) := by kernel_rfl
theorem ok58 : codeOk Try.f58.ntmps (Try.f58.body.getD .skip) = true := by kernel_rfl
theorem W58 {x0 : Sl} {w : World} {Q : Value → World → Prop} (h : F58 x0 w Q) : Calls prog 58 #[.slice x0.a x0.l x0.c] w fun en w' => ∃ v, en = .returned v ∧ Q v w' :=
  calls_of_vc good follows an58 (args := [.slice x0.a x0.l x0.c]) Try.func58 (by kernel_rfl) ok58 (of_decide_eq_true (by kernel_rfl)) (Eq.mp (eq58 x0 w Q) h)

/-- bastion/code.lay -/
def F59 (x0 : Sl) (x1 : Int) (x2 : ByteArray) (w : World) (Q : Value → World → Prop) : Prop :=
 Calls prog 64 #[.int .u64 x1] w fun en w1 =>
 ∃ t12 : Int, en = .returned (.int .i64 t12) ∧
 RunT prog .slice (Instr.makeSlice 30 (.int .i64 0) (.int .i64 (IntKind.wrap .i64 ((IntKind.wrap .i64 (((x0.l : Nat) : Int) + t12)) + ((x2.size : Nat) : Int))))) w1 fun (t20 : Sl) w1_1 =>
 RunT prog .slice (Builtin.append_ #[30, 30] 30 #[.slice t20.a t20.l t20.c, .slice x0.a x0.l x0.c]) w1_1 fun (t23 : Sl) w1_2 =>
 ∃ (I : Nat → Sl → Int → World → Prop) (n0 : Nat), I n0 t23 (0 : Int) w1_2 ∧
 ∀ (n : Nat) (u : Env) (x8 : Sl) (x25 : Int) (w1_3 : World), I n x8 x25 w1_3 →
 IfB (decide (x25 < t12))
 (0 ≤ IntKind.wrap .i64 ((7 : Int) * x25) ∧
 IfB (x25 == IntKind.wrap .i64 (t12 - (1 : Int)))
 (RunT prog .slice (Instr.buildSlice 30 1 #[(0, .int .u8 (bitsI .andNot .u8 (bitsI .or .u8 (IntKind.wrap .u8 (Int.fdiv x1 (2 ^ (min ((IntKind.wrap .i64 ((7 : Int) * x25)).toNat) 64)))) (128 : Int)) (128 : Int)))]) w1_3 fun (t42 : Sl) w1_4 =>
 RunT prog .slice (Builtin.append_ #[30, 30] 30 #[.slice x8.a x8.l x8.c, .slice t42.a t42.l t42.c]) w1_4 fun (t43 : Sl) w1_5 =>
 ∃ n', n' < n ∧ I n' t43 (IntKind.wrap .i64 (x25 + (1 : Int))) w1_5)
 (RunT prog .slice (Instr.buildSlice 30 1 #[(0, .int .u8 (bitsI .or .u8 (IntKind.wrap .u8 (Int.fdiv x1 (2 ^ (min ((IntKind.wrap .i64 ((7 : Int) * x25)).toNat) 64)))) (128 : Int)))]) w1_3 fun (t42 : Sl) w1_4 =>
 RunT prog .slice (Builtin.append_ #[30, 30] 30 #[.slice x8.a x8.l x8.c, .slice t42.a t42.l t42.c]) w1_4 fun (t43 : Sl) w1_5 =>
 ∃ n', n' < n ∧ I n' t43 (IntKind.wrap .i64 (x25 + (1 : Int))) w1_5))
 (RunT prog .slice (Builtin.append_ #[30, 9] 30 #[.slice x8.a x8.l x8.c, .string x2]) w1_3 fun (t47 : Sl) w1_4 =>
 Q (.slice t47.a t47.l t47.c) w1_4)
def an59 : Ann := { cut := fun i => none, loop := fun i => bif Nat.beq i 5 then [(8, .slice), (25, .int .i64)] else [] }
theorem eq59 (x0 : Sl) (x1 : Int) (x2 : ByteArray) (w : World) (Q : Value → World → Prop) : F59 x0 x1 x2 w Q = vc prog an59 (Try.f59.body.getD .skip) (envOf [.slice x0.a x0.l x0.c, .int .u64 x1, .string x2]) w (retK prog Try.f59 Q) := by kernel_rfl
theorem ok59 : codeOk Try.f59.ntmps (Try.f59.body.getD .skip) = true := by kernel_rfl
theorem W59 {x0 : Sl} {x1 : Int} {x2 : ByteArray} {w : World} {Q : Value → World → Prop} (h : F59 x0 x1 x2 w Q) : Calls prog 59 #[.slice x0.a x0.l x0.c, .int .u64 x1, .string x2] w fun en w' => ∃ v, en = .returned v ∧ Q v w' :=
  calls_of_vc good follows an59 (args := [.slice x0.a x0.l x0.c, .int .u64 x1, .string x2]) Try.func59 (by kernel_rfl) ok59 (of_decide_eq_true (by kernel_rfl)) (Eq.mp (eq59 x0 x1 x2 w Q) h)

/-- bastion/bastionref01.groups -/
def F60 (x0 : Int) (w : World) (Q : Value → World → Prop) : Prop :=
 IfB (decide (x0 < (128 : Int)))
 (RunT prog .slice (Instr.buildSlice 30 1 #[(0, .int .u8 (IntKind.wrap .u8 x0))]) w fun (t7 : Sl) w1 =>
 RunT prog .str (convert 30 9 (.slice t7.a t7.l t7.c)) w1 fun (t8 : ByteArray) w1_1 =>
 Q (.string t8) w1_1)
 ((128 : Int) ≠ 0 ∧
 (128 : Int) ≠ 0 ∧
 (RunT prog .slice (Instr.buildSlice 30 1 #[(0, .int .u8 (IntKind.wrap .u8 (IntKind.wrap .u64 ((128 : Int) + (Int.tmod x0 (128 : Int))))))]) w.drew fun (t13 : Sl) w1 =>
 (RunT prog .str (convert 30 9 (.slice t13.a t13.l t13.c)) w1 fun (t14 : ByteArray) w1_1 =>
 Calls prog 60 #[.int .u64 (IntKind.wrap .u64 (Int.tdiv x0 (128 : Int)))] w1_1 fun en w1_2 =>
 ∃ t17 : ByteArray, en = .returned (.string t17) ∧
 t14.size + t17.size ≤ 9223372036854775807 ∧
 Q (.string (t14 ++ t17)) w1_2) ∧
 (Calls prog 60 #[.int .u64 (IntKind.wrap .u64 (Int.tdiv x0 (128 : Int)))] w1 fun en w1_1 =>
 ∃ t17 : ByteArray, en = .returned (.string t17) ∧
 RunT prog .str (convert 30 9 (.slice t13.a t13.l t13.c)) w1_1 fun (t14 : ByteArray) w1_2 =>
 t14.size + t17.size ≤ 9223372036854775807 ∧
 Q (.string (t14 ++ t17)) w1_2)) ∧
 (Calls prog 60 #[.int .u64 (IntKind.wrap .u64 (Int.tdiv x0 (128 : Int)))] w.drew fun en w1 =>
 ∃ t17 : ByteArray, en = .returned (.string t17) ∧
 RunT prog .slice (Instr.buildSlice 30 1 #[(0, .int .u8 (IntKind.wrap .u8 (IntKind.wrap .u64 ((128 : Int) + (Int.tmod x0 (128 : Int))))))]) w1 fun (t13 : Sl) w1_1 =>
 RunT prog .str (convert 30 9 (.slice t13.a t13.l t13.c)) w1_1 fun (t14 : ByteArray) w1_2 =>
 t14.size + t17.size ≤ 9223372036854775807 ∧
 Q (.string (t14 ++ t17)) w1_2))
def an60 : Ann := { cut := fun i => none, loop := fun i => [] }
theorem eq60 (x0 : Int) (w : World) (Q : Value → World → Prop) : F60 x0 w Q = vc prog an60 (Try.f60.body.getD .skip) (envOf [.int .u64 x0]) w (retK prog Try.f60 Q) := by kernel_rfl
theorem ok60 : codeOk Try.f60.ntmps (Try.f60.body.getD .skip) = true := by kernel_rfl
theorem W60 {x0 : Int} {w : World} {Q : Value → World → Prop} (h : F60 x0 w Q) : Calls prog 60 #[.int .u64 x0] w fun en w' => ∃ v, en = .returned v ∧ Q v w' :=
  calls_of_vc good follows an60 (args := [.int .u64 x0]) Try.func60 (by kernel_rfl) ok60 (of_decide_eq_true (by kernel_rfl)) (Eq.mp (eq60 x0 w Q) h)

/-- (*bastion/code.spot).rest -/
def F61 (x0 : Option Addr) (w : World) (Q : Value → World → Prop) : Prop :=
 ∃ p4, x0 = some p4 ∧
 ∃ t6 : ByteArray, Ld w.drew (p4.add 0) (.string t6) ∧
 ∃ p8, x0 = some p8 ∧
 ∃ t10 : Int, Ld w.drew (p8.add 1) (.int .i64 t10) ∧
 ∃ p12, x0 = some p12 ∧
 ∃ t14 : ByteArray, Ld w.drew (p12.add 0) (.string t14) ∧
 (0 ≤ (if ((t14.size : Nat) : Int) < t10 then ((t14.size : Nat) : Int) else t10) ∧ (if ((t14.size : Nat) : Int) < t10 then ((t14.size : Nat) : Int) else t10) ≤ ((t6.size : Nat) : Int)) ∧
 Q (.string (t6.extract (((if ((t14.size : Nat) : Int) < t10 then ((t14.size : Nat) : Int) else t10)).toNat) t6.size)) w.drew
def an61 : Ann := { cut := fun i => none, loop := fun i => [] }
theorem eq61 (x0 : Option Addr) (w : World) (Q : Value → World → Prop) : F61 x0 w Q = vc prog an61 (Try.f61.body.getD .skip) (envOf [.pointer x0]) w (retK prog Try.f61 Q) := by kernel_rfl
theorem ok61 : codeOk Try.f61.ntmps (Try.f61.body.getD .skip) = true := by kernel_rfl
theorem W61 {x0 : Option Addr} {w : World} {Q : Value → World → Prop} (h : F61 x0 w Q) : Calls prog 61 #[.pointer x0] w fun en w' => ∃ v, en = .returned v ∧ Q v w' :=
  calls_of_vc good follows an61 (args := [.pointer x0]) Try.func61 (by kernel_rfl) ok61 (of_decide_eq_true (by kernel_rfl)) (Eq.mp (eq61 x0 w Q) h)

/-- bastion/code.number -/
def F62 (x0 : ByteArray) (w : World) (Q : Value → World → Prop) : Prop :=
 ∃ J : Int → World → Prop, (∃ (I : Nat → Int → World → Prop) (n0 : Nat), I n0 (0 : Int) w ∧
 ∀ (n : Nat) (u : Env) (x4 : Int) (w1 : World), I n x4 w1 →
 IfB (decide (x4 < (if (10 : Int) < ((x0.size : Nat) : Int) then (10 : Int) else ((x0.size : Nat) : Int))))
 (0 ≤ x4 ∧ x4 < ((x0.size : Nat) : Int) ∧
 IfB (decide (bt x0 x4 ≥ (128 : Int)))
 (∃ n', n' < n ∧ I n' (IntKind.wrap .i64 (x4 + (1 : Int))) w1)
 (J x4 w1))
 (J x4 w1)) ∧
 (∀ (u : Env) (x4 : Int) (w1 : World), J x4 w1 →
 ∃ J_1 : Bool → World → Prop, (IfB (decide (x4 ≥ ((x0.size : Nat) : Int)))
 (J_1 true w1)
 (IfB (x4 == (10 : Int))
 (J_1 true w1)
 (IfB (x4 == (9 : Int))
 (0 ≤ x4 ∧ x4 < ((x0.size : Nat) : Int) ∧
 J_1 (decide (bt x0 x4 > (1 : Int))) w1)
 (J_1 false w1)))) ∧
 (∀ (u_1 : Env) (x37 : Bool) (w1_1 : World), J_1 x37 w1_1 →
 IfB x37
 (Q (.tuple #[.int .u64 0, .int .i64 0]) w1_1)
 (∃ (I : Nat → Int → Int → World → Prop) (n0 : Nat), I n0 (0 : Int) x4 w1_1 ∧
 ∀ (n : Nat) (u_2 : Env) (x5 : Int) (x6 : Int) (w1_2 : World), I n x5 x6 w1_2 →
 IfB (decide (x6 ≥ (0 : Int)))
 (0 ≤ (7 : Int) ∧
 0 ≤ x6 ∧ x6 < ((x0.size : Nat) : Int) ∧
 ∃ n', n' < n ∧ I n' (bitsI .or .u64 (IntKind.wrap .u64 (x5 * 2 ^ (min 7 64))) (IntKind.wrap .u64 (bitsI .andNot .u8 (bt x0 x6) (128 : Int)))) (IntKind.wrap .i64 (x6 - (1 : Int))) w1_2)
 (Calls prog 64 #[.int .u64 x5] w1_2 fun en w1_3 =>
 ∃ t52 : Int, en = .returned (.int .i64 t52) ∧
 IfB (t52 != IntKind.wrap .i64 (x4 + (1 : Int)))
 (Q (.tuple #[.int .u64 0, .int .i64 0]) w1_3)
 (Q (.tuple #[.int .u64 x5, .int .i64 (IntKind.wrap .i64 (x4 + (1 : Int)))]) w1_3)))))
def an62 : Ann := { cut := fun i => bif Nat.beq i 4 then some [(4, .int .i64)] else bif Nat.beq i 5 then some [(37, .bool)] else none, loop := fun i => bif Nat.beq i 2 then [(4, .int .i64)] else bif Nat.beq i 8 then [(5, .int .u64), (6, .int .i64)] else [] }
theorem eq62 (x0 : ByteArray) (w : World) (Q : Value → World → Prop) : F62 x0 w Q = vc prog an62 (Try.f62.body.getD .skip) (envOf [.string x0]) w (retK prog Try.f62 Q) := by kernel_rfl
theorem ok62 : codeOk Try.f62.ntmps (Try.f62.body.getD .skip) = true := by kernel_rfl
theorem W62 {x0 : ByteArray} {w : World} {Q : Value → World → Prop} (h : F62 x0 w Q) : Calls prog 62 #[.string x0] w fun en w' => ∃ v, en = .returned v ∧ Q v w' :=
  calls_of_vc good follows an62 (args := [.string x0]) Try.func62 (by kernel_rfl) ok62 (of_decide_eq_true (by kernel_rfl)) (Eq.mp (eq62 x0 w Q) h)

/-- (*bastion/bastionref01.Reader).off -/
def F63 (x0 : Option Addr) (w : World) (Q : Value → World → Prop) : Prop :=
 ∃ (I : Nat → Int → World → Prop) (n0 : Nat), I n0 (1 : Int) w ∧
 ∀ (n : Nat) (u : Env) (x5 : Int) (w1 : World), I n x5 w1 →
 ∃ J : World → Prop, (IfB (decide (x5 ≤ (10 : Int)))
 (∃ p12, x0 = some p12 ∧
 ∃ t14 : Sl, Ld w1 (p12.add 0) (.slice t14.a t14.l t14.c) ∧
 IfB (decide (x5 ≤ ((t14.l : Nat) : Int)))
 (J  w1)
 (Q (.tuple #[.int .u64 0, .int .i64 0]) w1))
 (Q (.tuple #[.int .u64 0, .int .i64 0]) w1)) ∧
 (∀ (u_1 : Env) (w1_1 : World), J  w1_1 →
 ∃ (I_1 : Nat → Int → Int → World → Prop) (n0_1 : Nat), I_1 n0_1 (0 : Int) x5 w1_1 ∧
 ∀ (n_1 : Nat) (u_2 : Env) (x4 : Int) (x6 : Int) (w1_2 : World), I_1 n_1 x4 x6 w1_2 →
 IfB (decide (x6 > (0 : Int)))
 (∃ p28, x0 = some p28 ∧
 ∃ t30 : Sl, Ld w1_2 (p28.add 0) (.slice t30.a t30.l t30.c) ∧
 ∃ p33, t30.a = some p33 ∧ 0 ≤ IntKind.wrap .i64 (x6 - (1 : Int)) ∧ IntKind.wrap .i64 (x6 - (1 : Int)) < ((t30.l : Nat) : Int) ∧
 ∃ t34 : Int, Ld w1_2 (p33.add ((IntKind.wrap .i64 (x6 - (1 : Int))).toNat * 1)) (.int .u8 t34) ∧
 (128 : Int) ≠ 0 ∧
 ∃ n', n' < n_1 ∧ I_1 n' (IntKind.wrap .u64 ((IntKind.wrap .u64 ((128 : Int) * x4)) + (IntKind.wrap .u64 (Int.tmod t34 (128 : Int))))) (IntKind.wrap .i64 (x6 - (1 : Int))) w1_2)
 (∃ S : World → Prop, S w1_2.drew ∧
 ∃ p41, x0 = some p41 ∧
 ∃ t43 : Sl, (∀ w', S w' → Ld w' (p41.add 0) (.slice t43.a t43.l t43.c)) ∧
 (0 ≤ x5 ∧ x5 ≤ ((t43.c : Nat) : Int)) ∧
 (Calls prog 60 #[.int .u64 x4] w1_2.drew fun en w1_3 =>
 ∃ t39 : ByteArray, en = .returned (.string t39) ∧
 S w1_3 ∧
 RunT prog .str (convert 30 9 (.slice (slA t43.a 0 t43.c 1) ((x5).toNat - 0) (t43.c - 0))) w1_3 fun (t46 : ByteArray) w1_4 =>
 IfB (t39.toList == t46.toList)
 (Q (.tuple #[.int .u64 x4, .int .i64 x5]) w1_4)
 (∃ n', n' < n ∧ I n' (IntKind.wrap .i64 (x5 + (1 : Int))) w1_4)) ∧
 (RunT prog .str (convert 30 9 (.slice (slA t43.a 0 t43.c 1) ((x5).toNat - 0) (t43.c - 0))) w1_2.drew fun (t46 : ByteArray) w1_3 =>
 Calls prog 60 #[.int .u64 x4] w1_3 fun en w1_4 =>
 ∃ t39 : ByteArray, en = .returned (.string t39) ∧
 TrueW w1_4 ∧
 IfB (t39.toList == t46.toList)
 (Q (.tuple #[.int .u64 x4, .int .i64 x5]) w1_4)
 (∃ n', n' < n ∧ I n' (IntKind.wrap .i64 (x5 + (1 : Int))) w1_4))))
def an63 : Ann := { cut := fun i => bif Nat.beq i 5 then some [] else none, loop := fun i => bif Nat.beq i 3 then [(5, .int .i64)] else bif Nat.beq i 7 then [(4, .int .u64), (6, .int .i64)] else [] }
theorem eq63 (x0 : Option Addr) (w : World) (Q : Value → World → Prop) : F63 x0 w Q = vc prog an63 (Try.f63.body.getD .skip) (envOf [.pointer x0]) w (retK prog Try.f63 Q) := by kernel_rfl
theorem ok63 : codeOk Try.f63.ntmps (Try.f63.body.getD .skip) = true := by kernel_rfl
theorem W63 {x0 : Option Addr} {w : World} {Q : Value → World → Prop} (h : F63 x0 w Q) : Calls prog 63 #[.pointer x0] w fun en w' => ∃ v, en = .returned v ∧ Q v w' :=
  calls_of_vc good follows an63 (args := [.pointer x0]) Try.func63 (by kernel_rfl) ok63 (of_decide_eq_true (by kernel_rfl)) (Eq.mp (eq63 x0 w Q) h)

/-- bastion/code.groups -/
def F64 (x0 : Int) (w : World) (Q : Value → World → Prop) : Prop :=
 Calls prog 65 #[.int .u64 x0] w fun en w1 =>
 ∃ t4 : Int, en = .returned (.int .i64 t4) ∧
 (7 : Int) ≠ 0 ∧
 Q (.int .i64 (if IntKind.wrap .i64 (Int.tdiv (IntKind.wrap .i64 ((IntKind.wrap .i64 (t4 + (7 : Int))) - (1 : Int))) (7 : Int)) > (1 : Int) then IntKind.wrap .i64 (Int.tdiv (IntKind.wrap .i64 ((IntKind.wrap .i64 (t4 + (7 : Int))) - (1 : Int))) (7 : Int)) else (1 : Int))) w1
def an64 : Ann := { cut := fun i => none, loop := fun i => [] }
theorem eq64 (x0 : Int) (w : World) (Q : Value → World → Prop) : F64 x0 w Q = vc prog an64 (Try.f64.body.getD .skip) (envOf [.int .u64 x0]) w (retK prog Try.f64 Q) := by kernel_rfl
theorem ok64 : codeOk Try.f64.ntmps (Try.f64.body.getD .skip) = true := by kernel_rfl
theorem W64 {x0 : Int} {w : World} {Q : Value → World → Prop} (h : F64 x0 w Q) : Calls prog 64 #[.int .u64 x0] w fun en w' => ∃ v, en = .returned v ∧ Q v w' :=
  calls_of_vc good follows an64 (args := [.int .u64 x0]) Try.func64 (by kernel_rfl) ok64 (of_decide_eq_true (by kernel_rfl)) (Eq.mp (eq64 x0 w Q) h)
end Go.Proofs.Ytedkaegdfdcdaaa

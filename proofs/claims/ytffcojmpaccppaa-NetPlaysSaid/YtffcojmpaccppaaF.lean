/-  YtffcojmpaccppaaF: weakest preconditions of functions, by wip/gen/gen.py; each is held against the machine's code by the kernel. -/
import Derived.Test.YtffcojmpaccppaaV
import Derived.Test.YtffcojmpaccppaaProg
import Derived.Test.YtffcojmpaccppaaGood
import Derived.KernelRfl
set_option linter.unusedVariables false
set_option maxRecDepth 1000000
namespace Go.Proofs.Ytffcojmpaccppaa
open Go Go.Proofs.YtffcojmpaccppaaV

/-- bastion/bastionlaw27.NetOrder -/
def F3 (x0 : Sl) (w : World) (Q : Value → World → Prop) : Prop :=
 ∃ J : Bool → World → Prop, (Calls prog 6 #[] w fun en w1 =>
 ∃ t13 : Bool, en = .returned (.bool t13) ∧
 IfB (!t13)
 (J true w1)
 (J (decide (((x0.l : Nat) : Int) > (500 : Int))) w1)) ∧
 (∀ (u : Env) (x19 : Bool) (w1 : World), J x19 w1 →
 IfB x19
 (Calls prog 6 #[] w1 fun en w1_1 =>
 ∃ t20 : Bool, en = .returned (.bool t20) ∧
 Q (.bool t20) w1_1)
 (Calls prog 7 #[.int .i64 400] w1 fun en w1_1 =>
 ∃ t22a : Option Addr, ∃ t22b : Int, en = .returned (.tuple #[.pointer t22a, .int .i64 t22b]) ∧
 IfB (t22b != (0 : Int))
 (Q (.bool false) w1_1)
 (∃ (I : Nat → Int → Int → Int → World → Prop) (n0 : Nat), I n0 (0 : Int) (0 : Int) (0 : Int) w1_1 ∧
 ∀ (n : Nat) (u_1 : Env) (x5 : Int) (x6 : Int) (x7 : Int) (w1_2 : World), I n x5 x6 x7 w1_2 →
 IfB (decide (x7 < ((x0.l : Nat) : Int)))
 (∃ J_1 : Int → Int → World → Prop, (∃ p35, x0.a = some p35 ∧ 0 ≤ x7 ∧ x7 < ((x0.l : Nat) : Int) ∧
 ∃ t36 : Int, Ld w1_2 (p35.add ((x7).toNat * 1)) (.int .u8 t36) ∧
 (3 : Int) ≠ 0 ∧
 IfB (Int.tmod t36 (3 : Int) == (0 : Int))
 (Calls prog 9 #[.int .i64 x5] w1_2 fun en w1_3 =>
 ∃ t56 : Array Value, en = .returned (.agg t56) ∧
 Calls prog 8 #[.pointer t22a, .agg t56] w1_3 fun en w1_4 =>
 ∃ t57 : Int, en = .returned (.int .i64 t57) ∧
 ∃ b64 : Bool, BinIs prog .neq 4 (.tmp 59) (.tmp 63) (.bool (t57 == (0 : Int))) (.bool (decide (IntKind.wrap .i64 (x5 - x6) < (400 : Int)))) b64 ∧
 IfB b64
 (Q (.bool false) w1_4)
 (IfB (t57 == (0 : Int))
 (J_1 (IntKind.wrap .i64 (x5 + (1 : Int))) x6 w1_4)
 (J_1 x5 x6 w1_4)))
 (IfB (Int.tmod t36 (3 : Int) == (1 : Int))
 (Calls prog 10 #[.pointer t22a, .int .i64 0] w1_2 fun en w1_3 =>
 ∃ t73a : Array Value, ∃ t73b : Int, en = .returned (.tuple #[.agg t73a, .int .i64 t73b]) ∧
 ∀ b9 w1_4, NewB w1_3 (.cells #[.int .i64 0, .int .i64 0, .int .u8 0, .int .i64 0, .int .i64 0, .int .i64 0, .int .i64 0, .int .i64 0, .int .i64 0, .int .i64 0, .slice none 0 0, .string (⟨#[]⟩ : ByteArray)] 33) b9 w1_4 →
 t73a.size = 12 ∧ (∀ u, u ∈ t73a.toList → u.oneCell' = true) ∧ WrA w1_4 (⟨b9, 0, none⟩ : Addr) 12 ∧ ∀ w1_5, w1_5 = setAt w1_4 (⟨b9, 0, none⟩ : Addr) t73a.toList 0 →
 ∃ b81 : Bool, BinIs prog .neq 4 (.tmp 77) (.tmp 80) (.bool (t73b == (0 : Int))) (.bool (decide (x5 > x6))) b81 ∧
 IfB b81
 (Q (.bool false) w1_5)
 (IfB (t73b == (0 : Int))
 (∃ S : World → Prop, S w1_5.drew ∧
 ∃ t84 : Array Value, (∀ w', S w' → LdA w' (⟨b9, 0, none⟩ : Addr) 12 t84) ∧
 Calls prog 9 #[.int .i64 x6] w1_5.drew fun en w1_6 =>
 ∃ t86 : Array Value, en = .returned (.agg t86) ∧
 S w1_6 ∧
 Calls prog 11 #[.agg t84, .agg t86] w1_6 fun en w1_7 =>
 ∃ t87 : Bool, en = .returned (.bool t87) ∧
 IfB (!t87)
 (Q (.bool false) w1_7)
 (J_1 x5 (IntKind.wrap .i64 (x6 + (1 : Int))) w1_7))
 (J_1 x5 x6 w1_5)))
 (Calls prog 12 #[.pointer t22a] w1_2 fun en w1_3 =>
 ∃ t39 : Int, en = .returned (.int .i64 t39) ∧
 Calls prog 13 #[.pointer t22a, .int .i64 (IntKind.wrap .i64 (t39 - (1 : Int)))] w1_3 fun en w1_4 =>
 ∃ t43 : Int, en = .returned (.int .i64 t43) ∧
 IfB (t43 == (0 : Int))
 (Calls prog 14 #[.pointer t22a, .int .i64 t39] w1_4 fun en w1_5 =>
 ∃ t49 : Int, en = .returned (.int .i64 t49) ∧
 IfB (t49 != (0 : Int))
 (Q (.bool false) w1_5)
 (J_1 x5 x6 w1_5))
 (J_1 x5 x6 w1_4)))) ∧
 (∀ (u_2 : Env) (x5_1 : Int) (x6_1 : Int) (w1_3 : World), J_1 x5_1 x6_1 w1_3 →
 Calls prog 12 #[.pointer t22a] w1_3 fun en w1_4 =>
 ∃ t92 : Int, en = .returned (.int .i64 t92) ∧
 IfB (t92 != IntKind.wrap .i64 (x5_1 - x6_1))
 (Q (.bool false) w1_4)
 (Calls prog 15 #[.pointer t22a] w1_4 fun en w1_5 =>
 ∃ t99 : Sl, en = .returned (.slice t99.a t99.l t99.c) ∧
 IfB (((t99.l : Nat) : Int) != IntKind.wrap .i64 (x5_1 - x6_1))
 (Q (.bool false) w1_5)
 (∃ n', n' < n ∧ I n' x5_1 x6_1 (IntKind.wrap .i64 (x7 + (1 : Int))) w1_5))))
 (Q (.bool true) w1_2))))
def an3 : Ann := { cut := fun i => bif Nat.beq i 2 then some [(19, .bool)] else bif Nat.beq i 30 then some [(5, .int .i64), (6, .int .i64)] else none, loop := fun i => bif Nat.beq i 9 then [(5, .int .i64), (6, .int .i64), (7, .int .i64)] else [] }
theorem eq3 (x0 : Sl) (w : World) (Q : Value → World → Prop) : F3 x0 w Q = vc prog an3 (Try.f3.body.getD .skip) (envOf [.slice x0.a x0.l x0.c]) w (retK prog Try.f3 Q) := by kernel_rfl
theorem ok3 : codeOk Try.f3.ntmps (Try.f3.body.getD .skip) = true := by kernel_rfl
theorem W3 {x0 : Sl} {w : World} {Q : Value → World → Prop} (h : F3 x0 w Q) : Calls prog 3 #[.slice x0.a x0.l x0.c] w fun en w' => ∃ v, en = .returned v ∧ Q v w' :=
  calls_of_vc good follows an3 (args := [.slice x0.a x0.l x0.c]) Try.func3 (by kernel_rfl) ok3 (of_decide_eq_true (by kernel_rfl)) (Eq.mp (eq3 x0 w Q) h)

/-- bastion/bastionlaw27.NetNames -/
def F4 (w : World) (Q : Value → World → Prop) : Prop :=
 Calls prog 6 #[] w fun en w1 =>
 ∃ t13 : Bool, en = .returned (.bool t13) ∧
 IfB (!t13)
 (Q (.bool false) w1)
 (Calls prog 7 #[.int .i64 (-1)] w1 fun en w1_1 =>
 ∃ t24a : Option Addr, ∃ t24b : Int, en = .returned (.tuple #[.pointer t24a, .int .i64 t24b]) ∧
 Calls prog 7 #[.int .i64 401] w1_1 fun en w1_2 =>
 ∃ t28a : Option Addr, ∃ t28b : Int, en = .returned (.tuple #[.pointer t28a, .int .i64 t28b]) ∧
 Calls prog 7 #[.int .i64 400] w1_2 fun en w1_3 =>
 ∃ t32a : Option Addr, ∃ t32b : Int, en = .returned (.tuple #[.pointer t32a, .int .i64 t32b]) ∧
 Calls prog 7 #[.int .i64 0] w1_3 fun en w1_4 =>
 ∃ t36a : Option Addr, ∃ t36b : Int, en = .returned (.tuple #[.pointer t36a, .int .i64 t36b]) ∧
 ∃ J : Bool → World → Prop, (IfB (t24b != (1 : Int))
 (J true w1_4)
 (IfB (t28b != (1 : Int))
 (J true w1_4)
 (IfB (t32b != (0 : Int))
 (J true w1_4)
 (IfB (t36b != (0 : Int))
 (J true w1_4)
 (Calls prog 9 #[.int .i64 1] w1_4 fun en w1_5 =>
 ∃ t55 : Array Value, en = .returned (.agg t55) ∧
 Calls prog 8 #[.pointer t36a, .agg t55] w1_5 fun en w1_6 =>
 ∃ t56 : Int, en = .returned (.int .i64 t56) ∧
 IfB (t56 != (3 : Int))
 (J true w1_6)
 (Calls prog 13 #[.pointer t32a, .int .i64 0] w1_6 fun en w1_7 =>
 ∃ t61 : Int, en = .returned (.int .i64 t61) ∧
 IfB (t61 != (5 : Int))
 (J true w1_7)
 (Calls prog 14 #[.pointer t32a, .int .i64 (-1)] w1_7 fun en w1_8 =>
 ∃ t66 : Int, en = .returned (.int .i64 t66) ∧
 J (t66 != (5 : Int)) w1_8))))))) ∧
 (∀ (u : Env) (x68 : Bool) (w1_5 : World), J x68 w1_5 →
 IfB x68
 (Q (.bool false) w1_5)
 (∃ (I : Nat → Int → World → Prop) (n0 : Nat), I n0 (0 : Int) w1_5 ∧
 ∀ (n : Nat) (u_1 : Env) (x9 : Int) (w1_6 : World), I n x9 w1_6 →
 IfB (decide (x9 < (400 : Int)))
 (Calls prog 9 #[.int .i64 x9] w1_6 fun en w1_7 =>
 ∃ t75 : Array Value, en = .returned (.agg t75) ∧
 Calls prog 8 #[.pointer t32a, .agg t75] w1_7 fun en w1_8 =>
 ∃ t76 : Int, en = .returned (.int .i64 t76) ∧
 IfB (t76 != (0 : Int))
 (Q (.bool false) w1_8)
 (∃ n', n' < n ∧ I n' (IntKind.wrap .i64 (x9 + (1 : Int))) w1_8))
 (Calls prog 10 #[.pointer none, .int .i64 0] w1_6 fun en w1_7 =>
 ∃ t80a : Array Value, ∃ t80b : Int, en = .returned (.tuple #[.agg t80a, .int .i64 t80b]) ∧
 ∀ b11 w1_8, NewB w1_7 (.cells #[.int .i64 0, .int .i64 0, .int .u8 0, .int .i64 0, .int .i64 0, .int .i64 0, .int .i64 0, .int .i64 0, .int .i64 0, .int .i64 0, .slice none 0 0, .string (⟨#[]⟩ : ByteArray)] 33) b11 w1_8 →
 t80a.size = 12 ∧ (∀ u, u ∈ t80a.toList → u.oneCell' = true) ∧ WrA w1_8 (⟨b11, 0, none⟩ : Addr) 12 ∧ ∀ w1_9, w1_9 = setAt w1_8 (⟨b11, 0, none⟩ : Addr) t80a.toList 0 →
 Calls prog 9 #[.int .i64 0] w1_9 fun en w1_10 =>
 ∃ t84 : Array Value, en = .returned (.agg t84) ∧
 Calls prog 8 #[.pointer t32a, .agg t84] w1_10 fun en w1_11 =>
 ∃ t85 : Int, en = .returned (.int .i64 t85) ∧
 IfB (t85 == (3 : Int))
 (Calls prog 12 #[.pointer t32a] w1_11 fun en w1_12 =>
 ∃ t89 : Int, en = .returned (.int .i64 t89) ∧
 IfB (t89 == (400 : Int))
 (IfB (t80b == (2 : Int))
 (Calls prog 9 #[.int .i64 1] w1_12 fun en w1_13 =>
 ∃ t98 : Array Value, en = .returned (.agg t98) ∧
 Calls prog 8 #[.pointer none, .agg t98] w1_13 fun en w1_14 =>
 ∃ t99 : Int, en = .returned (.int .i64 t99) ∧
 IfB (t99 == (2 : Int))
 (Calls prog 14 #[.pointer none, .int .i64 0] w1_14 fun en w1_15 =>
 ∃ t104 : Int, en = .returned (.int .i64 t104) ∧
 IfB (t104 == (2 : Int))
 (Calls prog 13 #[.pointer none, .int .i64 0] w1_15 fun en w1_16 =>
 ∃ t109 : Int, en = .returned (.int .i64 t109) ∧
 IfB (t109 == (2 : Int))
 (Calls prog 12 #[.pointer none] w1_16 fun en w1_17 =>
 ∃ t114 : Int, en = .returned (.int .i64 t114) ∧
 Calls prog 15 #[.pointer none] w1_17 fun en w1_18 =>
 ∃ t116 : Sl, en = .returned (.slice t116.a t116.l t116.c) ∧
 IfB (IntKind.wrap .i64 (t114 + ((t116.l : Nat) : Int)) == (0 : Int))
 (Calls prog 16 #[.pointer none] w1_18 fun en w1_19 =>
 ∃ t123 : Option Addr, en = .returned (.pointer t123) ∧
 ∃ b124 : Bool, BinIs prog .eql 24 (.tmp 123) (.const (.pointer none)) (.pointer t123) (.pointer none) b124 ∧
 Q (.bool b124) w1_19)
 (Q (.bool false) w1_18))
 (Q (.bool false) w1_16))
 (Q (.bool false) w1_15))
 (Q (.bool false) w1_14))
 (Q (.bool false) w1_12))
 (Q (.bool false) w1_12))
 (Q (.bool false) w1_11)))))
def an4 : Ann := { cut := fun i => bif Nat.beq i 8 then some [(68, .bool)] else none, loop := fun i => bif Nat.beq i 10 then [(9, .int .i64)] else [] }
theorem eq4 (w : World) (Q : Value → World → Prop) : F4  w Q = vc prog an4 (Try.f4.body.getD .skip) (envOf []) w (retK prog Try.f4 Q) := by kernel_rfl
theorem ok4 : codeOk Try.f4.ntmps (Try.f4.body.getD .skip) = true := by kernel_rfl
theorem W4 {w : World} {Q : Value → World → Prop} (h : F4  w Q) : Calls prog 4 #[] w fun en w' => ∃ v, en = .returned v ∧ Q v w' :=
  calls_of_vc good follows an4 (args := []) Try.func4 (by kernel_rfl) ok4 (of_decide_eq_true (by kernel_rfl)) (Eq.mp (eq4  w Q) h)

/-- bastion/bastionlaw27.NetPlays -/
def F5 (x0 : Int) (x1 : Sl) (w : World) (Q : Value → World → Prop) : Prop :=
 IfB (decide (((x1.l : Nat) : Int) > (100 : Int)))
 (Q (.bool true) w)
 (Calls prog 7 #[.int .i64 x0] w fun en w1 =>
 ∃ t23a : Option Addr, ∃ t23b : Int, en = .returned (.tuple #[.pointer t23a, .int .i64 t23b]) ∧
 ∃ J : Bool → World → Prop, (IfB (decide (x0 < (0 : Int)))
 (J true w1)
 (J (decide (x0 > (400 : Int))) w1)) ∧
 (∀ (u : Env) (x31 : Bool) (w1_1 : World), J x31 w1_1 →
 IfB x31
 (∃ b33 : Bool, BinIs prog .eql 24 (.tmp 32) (.const (.pointer none)) (.pointer t23a) (.pointer none) b33 ∧
 IfB b33
 (Q (.bool (t23b == (1 : Int))) w1_1)
 (Q (.bool false) w1_1))
 (∃ t39 : Array Value, BuildIs prog 47 #[(0, .int .i64 x0)] t39 ∧
 ∀ b40 w1_2, NewB w1_1 (.cells t39 47) b40 w1_2 →
 IfB (t23b != (0 : Int))
 (Q (.bool false) w1_2)
 (∃ (I : Nat → Option Addr → Int → World → Prop) (n0 : Nat), I n0 t23a (0 : Int) w1_2 ∧
 ∀ (n : Nat) (u_1 : Env) (x5 : Option Addr) (x8 : Int) (w1_3 : World), I n x5 x8 w1_3 →
 IfB (decide (x8 < ((x1.l : Nat) : Int)))
 (∃ p51, x1.a = some p51 ∧ 0 ≤ x8 ∧ x8 < ((x1.l : Nat) : Int) ∧
 ∃ t52 : Array Value, LdA w1_3 (p51.add ((x8).toNat * 14)) 14 t52 ∧
 ∀ b9 w1_4, NewB w1_3 (.cells #[.int .i64 0, .int .i64 0, .int .i64 0, .int .i64 0, .int .u8 0, .int .i64 0, .int .i64 0, .int .i64 0, .int .i64 0, .int .i64 0, .int .i64 0, .int .i64 0, .slice none 0 0, .string (⟨#[]⟩ : ByteArray)] 49) b9 w1_4 →
 t52.size = 14 ∧ (∀ u, u ∈ t52.toList → u.oneCell' = true) ∧ WrA w1_4 (⟨b9, 0, none⟩ : Addr) 14 ∧ ∀ w1_5, w1_5 = setAt w1_4 (⟨b9, 0, none⟩ : Addr) t52.toList 0 →
 ∃ J_1 : Option Addr → Int → Int → World → Prop, (∃ t54 : Int, Ld w1_5 ((⟨b9, 0, none⟩ : Addr).add 0) (.int .i64 t54) ∧
 IfB (t54 == (0 : Int))
 (∃ t58 : Array Value, LdA w1_5 ((⟨b9, 0, none⟩ : Addr).add 2) 12 t58 ∧
 Calls prog 17 #[.agg t58] w1_5 fun en w1_6 =>
 ∃ t59 : Array Value, en = .returned (.agg t59) ∧
 ∀ b12 w1_7, NewB w1_6 (.cells #[.int .i64 0, .int .i64 0, .int .u8 0, .int .i64 0, .int .i64 0, .int .i64 0, .int .i64 0, .int .i64 0, .int .i64 0, .int .i64 0, .slice none 0 0, .string (⟨#[]⟩ : ByteArray)] 33) b12 w1_7 →
 t59.size = 12 ∧ (∀ u, u ∈ t59.toList → u.oneCell' = true) ∧ WrA w1_7 (⟨b12, 0, none⟩ : Addr) 12 ∧ ∀ w1_8, w1_8 = setAt w1_7 (⟨b12, 0, none⟩ : Addr) t59.toList 0 →
 ∃ t61 : Array Value, LdA w1_8 (⟨b12, 0, none⟩ : Addr) 12 t61 ∧
 Calls prog 8 #[.pointer x5, .agg t61] w1_8 fun en w1_9 =>
 ∃ t62 : Int, en = .returned (.int .i64 t62) ∧
 ∃ t65 : Array Value, LdA w1_9 ((⟨b9, 0, none⟩ : Addr).add 2) 12 t65 ∧
 Calls prog 18 #[.pointer (some (⟨b40, 0, none⟩ : Addr)), .agg t65] w1_9 fun en w1_10 =>
 ∃ t66 : Int, en = .returned (.int .i64 t66) ∧
 ∃ t67 : Array Value, LdA w1_10 (⟨b12, 0, none⟩ : Addr) 12 t67 ∧
 Calls prog 19 #[.agg t67] w1_10 fun en w1_11 =>
 en = .returned (.tuple #[]) ∧
 J_1 x5 t62 t66 w1_11)
 (IfB (t54 == (1 : Int))
 (∀ b13 w1_6, NewB w1_5 (.cells #[.int .i64 0, .int .i64 0, .int .u8 0, .int .i64 0, .int .i64 0, .int .i64 0, .int .i64 0, .int .i64 0, .int .i64 0, .int .i64 0, .slice none 0 0, .string (⟨#[]⟩ : ByteArray)] 33) b13 w1_6 →
 ∀ b14 w1_7, NewB w1_6 (.cells #[.int .i64 0, .int .i64 0, .int .u8 0, .int .i64 0, .int .i64 0, .int .i64 0, .int .i64 0, .int .i64 0, .int .i64 0, .int .i64 0, .slice none 0 0, .string (⟨#[]⟩ : ByteArray)] 33) b14 w1_7 →
 ∃ t74 : Int, Ld w1_7 ((⟨b9, 0, none⟩ : Addr).add 1) (.int .i64 t74) ∧
 Calls prog 10 #[.pointer x5, .int .i64 t74] w1_7 fun en w1_8 =>
 ∃ t75a : Array Value, ∃ t75b : Int, en = .returned (.tuple #[.agg t75a, .int .i64 t75b]) ∧
 t75a.size = 12 ∧ (∀ u, u ∈ t75a.toList → u.oneCell' = true) ∧ WrA w1_8 (⟨b13, 0, none⟩ : Addr) 12 ∧ ∀ w1_9, w1_9 = setAt w1_8 (⟨b13, 0, none⟩ : Addr) t75a.toList 0 →
 ∃ t81 : Int, Ld w1_9 ((⟨b9, 0, none⟩ : Addr).add 1) (.int .i64 t81) ∧
 Calls prog 20 #[.pointer (some (⟨b40, 0, none⟩ : Addr)), .int .i64 t81] w1_9 fun en w1_10 =>
 ∃ t82a : Array Value, ∃ t82b : Int, en = .returned (.tuple #[.agg t82a, .int .i64 t82b]) ∧
 t82a.size = 12 ∧ (∀ u, u ∈ t82a.toList → u.oneCell' = true) ∧ WrA w1_10 (⟨b14, 0, none⟩ : Addr) 12 ∧ ∀ w1_11, w1_11 = setAt w1_10 (⟨b14, 0, none⟩ : Addr) t82a.toList 0 →
 ∃ t85 : Array Value, LdA w1_11 (⟨b13, 0, none⟩ : Addr) 12 t85 ∧
 ∃ t86 : Array Value, LdA w1_11 (⟨b14, 0, none⟩ : Addr) 12 t86 ∧
 Calls prog 11 #[.agg t85, .agg t86] w1_11 fun en w1_12 =>
 ∃ t87 : Bool, en = .returned (.bool t87) ∧
 IfB (!t87)
 (Q (.bool false) w1_12)
 (∃ t89 : Array Value, LdA w1_12 (⟨b13, 0, none⟩ : Addr) 12 t89 ∧
 Calls prog 19 #[.agg t89] w1_12 fun en w1_13 =>
 en = .returned (.tuple #[]) ∧
 J_1 x5 t75b t82b w1_13))
 (IfB (t54 == (2 : Int))
 (∃ t95 : Int, Ld w1_5 ((⟨b9, 0, none⟩ : Addr).add 1) (.int .i64 t95) ∧
 Calls prog 14 #[.pointer x5, .int .i64 t95] w1_5 fun en w1_6 =>
 ∃ t96 : Int, en = .returned (.int .i64 t96) ∧
 ∃ t100 : Int, Ld w1_6 ((⟨b9, 0, none⟩ : Addr).add 1) (.int .i64 t100) ∧
 Calls prog 20 #[.pointer (some (⟨b40, 0, none⟩ : Addr)), .int .i64 t100] w1_6 fun en w1_7 =>
 ∃ t101a : Array Value, ∃ t101b : Int, en = .returned (.tuple #[.agg t101a, .int .i64 t101b]) ∧
 J_1 x5 t96 t101b w1_7)
 (IfB (t54 == (3 : Int))
 (∃ t108 : Int, Ld w1_5 ((⟨b9, 0, none⟩ : Addr).add 1) (.int .i64 t108) ∧
 Calls prog 13 #[.pointer x5, .int .i64 t108] w1_5 fun en w1_6 =>
 ∃ t109 : Int, en = .returned (.int .i64 t109) ∧
 ∃ t112 : Int, Ld w1_6 ((⟨b9, 0, none⟩ : Addr).add 1) (.int .i64 t112) ∧
 Calls prog 21 #[.pointer (some (⟨b40, 0, none⟩ : Addr)), .int .i64 t112] w1_6 fun en w1_7 =>
 ∃ t113 : Int, en = .returned (.int .i64 t113) ∧
 J_1 x5 t109 t113 w1_7)
 (IfB (t54 == (4 : Int))
 (Calls prog 16 #[.pointer x5] w1_5 fun en w1_6 =>
 ∃ t117 : Option Addr, en = .returned (.pointer t117) ∧
 ∃ t120 : Array Value, LdA w1_6 ((⟨b9, 0, none⟩ : Addr).add 2) 12 t120 ∧
 Calls prog 8 #[.pointer x5, .agg t120] w1_6 fun en w1_7 =>
 ∃ t121 : Int, en = .returned (.int .i64 t121) ∧
 Calls prog 14 #[.pointer x5, .int .i64 0] w1_7 fun en w1_8 =>
 ∃ t123 : Int, en = .returned (.int .i64 t123) ∧
 J_1 t117 (0 : Int) (0 : Int) w1_8)
 (J_1 x5 (0 : Int) (0 : Int) w1_5)))))) ∧
 (∀ (u_2 : Env) (x5_1 : Option Addr) (x10 : Int) (x11 : Int) (w1_6 : World), J_1 x5_1 x10 x11 w1_6 →
 Calls prog 15 #[.pointer x5_1] w1_6 fun en w1_7 =>
 ∃ t126 : Sl, en = .returned (.slice t126.a t126.l t126.c) ∧
 ∃ J_2 : Bool → World → Prop, (∃ S : World → Prop, S w1_7.drew ∧
 IfB (x10 != x11)
 (J_2 true w1_7.drew)
 (∃ p134, some (⟨b40, 0, none⟩ : Addr) = some p134 ∧
 ∃ t136 : Sl, (∀ w', S w' → Ld w' (p134.add 1) (.slice t136.a t136.l t136.c)) ∧
 Calls prog 12 #[.pointer x5_1] w1_7.drew fun en w1_8 =>
 ∃ t132 : Int, en = .returned (.int .i64 t132) ∧
 ∃ S_1 : World → Prop, (∀ w', S_1 w' → S w') ∧ S_1 w1_8 ∧
 IfB (t132 != ((t136.l : Nat) : Int))
 (J_2 true w1_8)
 (∃ p143, some (⟨b40, 0, none⟩ : Addr) = some p143 ∧
 ∃ t145 : Sl, (∀ w', S_1 w' → Ld w' (p143.add 1) (.slice t145.a t145.l t145.c)) ∧
 Calls prog 22 #[.slice t126.a t126.l t126.c, .slice t145.a t145.l t145.c] w1_8 fun en w1_9 =>
 ∃ t146 : Bool, en = .returned (.bool t146) ∧
 J_2 (!t146) w1_9))) ∧
 (∀ (u_3 : Env) (x148 : Bool) (w1_8 : World), J_2 x148 w1_8 →
 IfB x148
 (Q (.bool false) w1_8)
 (∃ (I_1 : Nat → Int → World → Prop) (n0_1 : Nat), I_1 n0_1 (0 : Int) w1_8 ∧
 ∀ (n_1 : Nat) (u_4 : Env) (x17 : Int) (w1_9 : World), I_1 n_1 x17 w1_9 →
 IfB (decide (x17 < ((t126.l : Nat) : Int)))
 (∃ p157, t126.a = some p157 ∧ 0 ≤ x17 ∧ x17 < ((t126.l : Nat) : Int) ∧
 ∃ t158 : Array Value, LdA w1_9 (p157.add ((x17).toNat * 12)) 12 t158 ∧
 Calls prog 19 #[.agg t158] w1_9 fun en w1_10 =>
 en = .returned (.tuple #[]) ∧
 ∃ n', n' < n_1 ∧ I_1 n' (IntKind.wrap .i64 (x17 + (1 : Int))) w1_10)
 (∃ n', n' < n ∧ I n' x5_1 (IntKind.wrap .i64 (x8 + (1 : Int))) w1_9)))))
 (∃ S : World → Prop, S w1_3.drew ∧
 ∃ p163, some (⟨b40, 0, none⟩ : Addr) = some p163 ∧
 ∃ t165 : Sl, (∀ w', S w' → Ld w' (p163.add 1) (.slice t165.a t165.l t165.c)) ∧
 Calls prog 15 #[.pointer x5] w1_3.drew fun en w1_4 =>
 ∃ t161 : Sl, en = .returned (.slice t161.a t161.l t161.c) ∧
 S w1_4 ∧
 Calls prog 22 #[.slice t161.a t161.l t161.c, .slice t165.a t165.l t165.c] w1_4 fun en w1_5 =>
 ∃ t166 : Bool, en = .returned (.bool t166) ∧
 Q (.bool t166) w1_5)))))
def an5 : Ann := { cut := fun i => bif Nat.beq i 5 then some [(31, .bool)] else bif Nat.beq i 38 then some [(5, .ptr), (10, .int .i64), (11, .int .i64)] else bif Nat.beq i 40 then some [(148, .bool)] else none, loop := fun i => bif Nat.beq i 10 then [(5, .ptr), (8, .int .i64)] else bif Nat.beq i 42 then [(17, .int .i64)] else [] }
theorem eq5 (x0 : Int) (x1 : Sl) (w : World) (Q : Value → World → Prop) : F5 x0 x1 w Q = vc prog an5 (Try.f5.body.getD .skip) (envOf [.int .i64 x0, .slice x1.a x1.l x1.c]) w (retK prog Try.f5 Q) := by kernel_rfl
theorem ok5 : codeOk Try.f5.ntmps (Try.f5.body.getD .skip) = true := by kernel_rfl
theorem W5 {x0 : Int} {x1 : Sl} {w : World} {Q : Value → World → Prop} (h : F5 x0 x1 w Q) : Calls prog 5 #[.int .i64 x0, .slice x1.a x1.l x1.c] w fun en w' => ∃ v, en = .returned v ∧ Q v w' :=
  calls_of_vc good follows an5 (args := [.int .i64 x0, .slice x1.a x1.l x1.c]) Try.func5 (by kernel_rfl) ok5 (of_decide_eq_true (by kernel_rfl)) (Eq.mp (eq5 x0 x1 w Q) h)

/-- bastion/bastionlaw27.works -/
def F6 (w : World) (Q : Value → World → Prop) : Prop :=
 Calls prog 7 #[.int .i64 2] w fun en w1 =>
 ∃ t5a : Option Addr, ∃ t5b : Int, en = .returned (.tuple #[.pointer t5a, .int .i64 t5b]) ∧
 ∃ J : Bool → World → Prop, (IfB (t5b != (0 : Int))
 (J true w1)
 (Calls prog 9 #[.int .i64 1] w1 fun en w1_1 =>
 ∃ t12 : Array Value, en = .returned (.agg t12) ∧
 Calls prog 8 #[.pointer t5a, .agg t12] w1_1 fun en w1_2 =>
 ∃ t13 : Int, en = .returned (.int .i64 t13) ∧
 IfB (t13 != (0 : Int))
 (J true w1_2)
 (Calls prog 9 #[.int .i64 2] w1_2 fun en w1_3 =>
 ∃ t18 : Array Value, en = .returned (.agg t18) ∧
 Calls prog 8 #[.pointer t5a, .agg t18] w1_3 fun en w1_4 =>
 ∃ t19 : Int, en = .returned (.int .i64 t19) ∧
 IfB (t19 != (0 : Int))
 (J true w1_4)
 (Calls prog 9 #[.int .i64 3] w1_4 fun en w1_5 =>
 ∃ t24 : Array Value, en = .returned (.agg t24) ∧
 Calls prog 8 #[.pointer t5a, .agg t24] w1_5 fun en w1_6 =>
 ∃ t25 : Int, en = .returned (.int .i64 t25) ∧
 IfB (t25 != (3 : Int))
 (J true w1_6)
 (Calls prog 13 #[.pointer t5a, .int .i64 0] w1_6 fun en w1_7 =>
 ∃ t30 : Int, en = .returned (.int .i64 t30) ∧
 J (t30 != (3 : Int)) w1_7))))) ∧
 (∀ (u : Env) (x32 : Bool) (w1_1 : World), J x32 w1_1 →
 IfB x32
 (Q (.bool false) w1_1)
 (Calls prog 10 #[.pointer t5a, .int .i64 1] w1_1 fun en w1_2 =>
 ∃ t35a : Array Value, ∃ t35b : Int, en = .returned (.tuple #[.agg t35a, .int .i64 t35b]) ∧
 ∀ b3 w1_3, NewB w1_2 (.cells #[.int .i64 0, .int .i64 0, .int .u8 0, .int .i64 0, .int .i64 0, .int .i64 0, .int .i64 0, .int .i64 0, .int .i64 0, .int .i64 0, .slice none 0 0, .string (⟨#[]⟩ : ByteArray)] 33) b3 w1_3 →
 t35a.size = 12 ∧ (∀ u, u ∈ t35a.toList → u.oneCell' = true) ∧ WrA w1_3 (⟨b3, 0, none⟩ : Addr) 12 ∧ ∀ w1_4, w1_4 = setAt w1_3 (⟨b3, 0, none⟩ : Addr) t35a.toList 0 →
 ∃ S : World → Prop, S w1_4.drew ∧
 IfB (t35b == (0 : Int))
 (∃ t41 : Array Value, (∀ w', S w' → LdA w' (⟨b3, 0, none⟩ : Addr) 12 t41) ∧
 Calls prog 9 #[.int .i64 2] w1_4.drew fun en w1_5 =>
 ∃ t42 : Array Value, en = .returned (.agg t42) ∧
 S w1_5 ∧
 Calls prog 11 #[.agg t41, .agg t42] w1_5 fun en w1_6 =>
 ∃ t43 : Bool, en = .returned (.bool t43) ∧
 IfB t43
 (Calls prog 13 #[.pointer t5a, .int .i64 0] w1_6 fun en w1_7 =>
 ∃ t47 : Int, en = .returned (.int .i64 t47) ∧
 IfB (t47 == (0 : Int))
 (Calls prog 15 #[.pointer t5a] w1_7 fun en w1_8 =>
 ∃ t52 : Sl, en = .returned (.slice t52.a t52.l t52.c) ∧
 Calls prog 9 #[.int .i64 1] w1_8 fun en w1_9 =>
 ∃ t53 : Array Value, en = .returned (.agg t53) ∧
 Calls prog 9 #[.int .i64 1] w1_9 fun en w1_10 =>
 ∃ t54 : Array Value, en = .returned (.agg t54) ∧
 RunT prog .slice (Instr.buildSlice 40 2 #[(0, .agg t53), (1, .agg t54)]) w1_10 fun (t55 : Sl) w1_11 =>
 Calls prog 22 #[.slice t52.a t52.l t52.c, .slice t55.a t55.l t55.c] w1_11 fun en w1_12 =>
 ∃ t56 : Bool, en = .returned (.bool t56) ∧
 IfB t56
 (Calls prog 14 #[.pointer t5a, .int .i64 0] w1_12 fun en w1_13 =>
 ∃ t60 : Int, en = .returned (.int .i64 t60) ∧
 IfB (t60 == (0 : Int))
 (Calls prog 14 #[.pointer t5a, .int .i64 1] w1_13 fun en w1_14 =>
 ∃ t65 : Int, en = .returned (.int .i64 t65) ∧
 IfB (t65 == (5 : Int))
 (Calls prog 12 #[.pointer t5a] w1_14 fun en w1_15 =>
 ∃ t70 : Int, en = .returned (.int .i64 t70) ∧
 Q (.bool (t70 == (1 : Int))) w1_15)
 (Q (.bool false) w1_14))
 (Q (.bool false) w1_13))
 (Q (.bool false) w1_12))
 (Q (.bool false) w1_7))
 (Q (.bool false) w1_6))
 (Q (.bool false) w1_4.drew)))
def an6 : Ann := { cut := fun i => bif Nat.beq i 3 then some [(32, .bool)] else none, loop := fun i => [] }
theorem eq6 (w : World) (Q : Value → World → Prop) : F6  w Q = vc prog an6 (Try.f6.body.getD .skip) (envOf []) w (retK prog Try.f6 Q) := by kernel_rfl
theorem ok6 : codeOk Try.f6.ntmps (Try.f6.body.getD .skip) = true := by kernel_rfl
theorem W6 {w : World} {Q : Value → World → Prop} (h : F6  w Q) : Calls prog 6 #[] w fun en w' => ∃ v, en = .returned v ∧ Q v w' :=
  calls_of_vc good follows an6 (args := []) Try.func6 (by kernel_rfl) ok6 (of_decide_eq_true (by kernel_rfl)) (Eq.mp (eq6  w Q) h)

/-- bastion/net.New -/
def F7 (x0 : Int) (w : World) (Q : Value → World → Prop) : Prop :=
 IfB (decide (x0 < (0 : Int)))
 (Q (.tuple #[.pointer none, .int .i64 1]) w)
 (IfB (decide (x0 > (400 : Int)))
 (Q (.tuple #[.pointer none, .int .i64 1]) w)
 (∃ t11 : Array Value, BuildIs prog 55 #[(0, .int .i64 x0)] t11 ∧
 ∀ b12 w1, NewB w (.cells t11 55) b12 w1 →
 Q (.tuple #[.pointer (some (⟨b12, 0, none⟩ : Addr)), .int .i64 0]) w1))
def an7 : Ann := { cut := fun i => none, loop := fun i => [] }
theorem eq7 (x0 : Int) (w : World) (Q : Value → World → Prop) : F7 x0 w Q = vc prog an7 (Try.f7.body.getD .skip) (envOf [.int .i64 x0]) w (retK prog Try.f7 Q) := by kernel_rfl
theorem ok7 : codeOk Try.f7.ntmps (Try.f7.body.getD .skip) = true := by kernel_rfl
theorem W7 {x0 : Int} {w : World} {Q : Value → World → Prop} (h : F7 x0 w Q) : Calls prog 7 #[.int .i64 x0] w fun en w' => ∃ v, en = .returned v ∧ Q v w' :=
  calls_of_vc good follows an7 (args := [.int .i64 x0]) Try.func7 (by kernel_rfl) ok7 (of_decide_eq_true (by kernel_rfl)) (Eq.mp (eq7 x0 w Q) h)

/-- (*bastion/net.Net).Put -/
def F8 (x0 : Option Addr) (x1 : Array Value) (w : World) (Q : Value → World → Prop) : Prop :=
 ∀ b3 w1, NewB w (.cells x1 33) b3 w1 →
 ∃ b7 : Bool, BinIs prog .eql 24 (.tmp 6) (.const (.pointer none)) (.pointer x0) (.pointer none) b7 ∧
 IfB b7
 (Q (.int .i64 2) w1)
 (∃ p10, x0 = some p10 ∧
 ∃ t12 : Sl, Ld w1.drew (p10.add 1) (.slice t12.a t12.l t12.c) ∧
 ∃ p15, x0 = some p15 ∧
 ∃ t17 : Int, Ld w1.drew (p15.add 0) (.int .i64 t17) ∧
 IfB (decide (((t12.l : Nat) : Int) ≥ t17))
 (Q (.int .i64 3) w1.drew)
 (∃ S : World → Prop, S w1.drew.drew ∧
 ∃ p21, x0 = some p21 ∧
 ∃ t23 : Sl, (∀ w', S w' → Ld w' (p21.add 1) (.slice t23.a t23.l t23.c)) ∧
 ∃ t24 : Array Value, (∀ w', S w' → LdA w' (⟨b3, 0, none⟩ : Addr) 12 t24) ∧
 Calls prog 23 #[.agg t24] w1.drew.drew fun en w1_1 =>
 ∃ t25 : Array Value, en = .returned (.agg t25) ∧
 S w1_1 ∧
 RunT prog .slice (Instr.buildSlice 40 1 #[(0, .agg t25)]) w1_1 fun (t26 : Sl) w1_2 =>
 S w1_2 ∧
 RunT prog .slice (Builtin.append_ #[40, 40] 40 #[.slice t23.a t23.l t23.c, .slice t26.a t26.l t26.c]) w1_2 fun (t27 : Sl) w1_3 =>
 ∃ p28, x0 = some p28 ∧
 Wr w1_3 (p28.add 1) ∧ ∀ w1_4, w1_4 = w1_3.setCell (p28.add 1) (.slice t27.a t27.l t27.c) →
 Q (.int .i64 0) w1_4))
def an8 : Ann := { cut := fun i => none, loop := fun i => [] }
theorem eq8 (x0 : Option Addr) (x1 : Array Value) (w : World) (Q : Value → World → Prop) : F8 x0 x1 w Q = vc prog an8 (Try.f8.body.getD .skip) (envOf [.pointer x0, .agg x1]) w (retK prog Try.f8 Q) := by kernel_rfl
theorem ok8 : codeOk Try.f8.ntmps (Try.f8.body.getD .skip) = true := by kernel_rfl
theorem W8 {x0 : Option Addr} {x1 : Array Value} {w : World} {Q : Value → World → Prop} (h : F8 x0 x1 w Q) : Calls prog 8 #[.pointer x0, .agg x1] w fun en w' => ∃ v, en = .returned v ∧ Q v w' :=
  calls_of_vc good follows an8 (args := [.pointer x0, .agg x1]) Try.func8 (by kernel_rfl) ok8 (of_decide_eq_true (by kernel_rfl)) (Eq.mp (eq8 x0 x1 w Q) h)

/-- bastion/bastionlaw27.mail -/
def F9 (x0 : Int) (w : World) (Q : Value → World → Prop) : Prop :=
 ∀ b2 w1, NewB w (.cells #[.int .i64 0, .int .i64 0, .int .u8 0, .int .i64 0, .int .i64 0, .int .i64 0, .int .i64 0, .int .i64 0, .int .i64 0, .int .i64 0, .slice none 0 0, .string (⟨#[]⟩ : ByteArray)] 33) b2 w1 →
 RunT prog .slice (Instr.buildSlice 29 1 #[(0, .string (⟨#[97]⟩ : ByteArray))]) w1 fun (t5 : Sl) w1_1 =>
 ∃ t6 : Array Value, BuildIs prog 31 #[(0, .int .u8 1), (6, .int .i64 x0), (8, .slice t5.a t5.l t5.c)] t6 ∧
 ∃ t7 : Array Value, BuildIs prog 33 #[(0, .int .i64 x0), (1, .int .i64 1), (2, .agg t6)] t7 ∧
 t7.size = 12 ∧ (∀ u, u ∈ t7.toList → u.oneCell' = true) ∧ WrA w1_1 (⟨b2, 0, none⟩ : Addr) 12 ∧ ∀ w1_2, w1_2 = setAt w1_1 (⟨b2, 0, none⟩ : Addr) t7.toList 0 →
 ∃ t2r : Array Value, LdA w1_2 (⟨b2, 0, none⟩ : Addr) 12 t2r ∧
 Q (.agg t2r) w1_2
def an9 : Ann := { cut := fun i => none, loop := fun i => [] }
theorem eq9 (x0 : Int) (w : World) (Q : Value → World → Prop) : F9 x0 w Q = vc prog an9 (Try.f9.body.getD .skip) (envOf [.int .i64 x0]) w (retK prog Try.f9 Q) := by kernel_rfl
theorem ok9 : codeOk Try.f9.ntmps (Try.f9.body.getD .skip) = true := by kernel_rfl
theorem W9 {x0 : Int} {w : World} {Q : Value → World → Prop} (h : F9 x0 w Q) : Calls prog 9 #[.int .i64 x0] w fun en w' => ∃ v, en = .returned v ∧ Q v w' :=
  calls_of_vc good follows an9 (args := [.int .i64 x0]) Try.func9 (by kernel_rfl) ok9 (of_decide_eq_true (by kernel_rfl)) (Eq.mp (eq9 x0 w Q) h)

/-- (*bastion/net.Net).Take -/
def F10 (x0 : Option Addr) (x1 : Int) (w : World) (Q : Value → World → Prop) : Prop :=
 ∀ b4 w1, NewB w (.cells #[.int .i64 0, .int .i64 0, .int .u8 0, .int .i64 0, .int .i64 0, .int .i64 0, .int .i64 0, .int .i64 0, .int .i64 0, .int .i64 0, .slice none 0 0, .string (⟨#[]⟩ : ByteArray)] 33) b4 w1 →
 Calls prog 24 #[.pointer x0, .int .i64 x1] w1 fun en w1_1 =>
 ∃ t11 : Int, en = .returned (.int .i64 t11) ∧
 IfB (t11 != (0 : Int))
 (∃ t14 : Array Value, BuildIs prog 33 #[] t14 ∧
 t14.size = 12 ∧ (∀ u, u ∈ t14.toList → u.oneCell' = true) ∧ WrA w1_1 (⟨b4, 0, none⟩ : Addr) 12 ∧ ∀ w1_2, w1_2 = setAt w1_1 (⟨b4, 0, none⟩ : Addr) t14.toList 0 →
 ∃ t4r : Array Value, LdA w1_2 (⟨b4, 0, none⟩ : Addr) 12 t4r ∧
 Q (.tuple #[.agg t4r, .int .i64 t11]) w1_2)
 (∃ p17, x0 = some p17 ∧
 ∃ t19 : Sl, Ld w1_1 (p17.add 1) (.slice t19.a t19.l t19.c) ∧
 ∃ p21, t19.a = some p21 ∧ 0 ≤ x1 ∧ x1 < ((t19.l : Nat) : Int) ∧
 ∃ t22 : Array Value, LdA w1_1 (p21.add ((x1).toNat * 12)) 12 t22 ∧
 ∀ b7 w1_2, NewB w1_1 (.cells #[.int .i64 0, .int .i64 0, .int .u8 0, .int .i64 0, .int .i64 0, .int .i64 0, .int .i64 0, .int .i64 0, .int .i64 0, .int .i64 0, .slice none 0 0, .string (⟨#[]⟩ : ByteArray)] 33) b7 w1_2 →
 t22.size = 12 ∧ (∀ u, u ∈ t22.toList → u.oneCell' = true) ∧ WrA w1_2 (⟨b7, 0, none⟩ : Addr) 12 ∧ ∀ w1_3, w1_3 = setAt w1_2 (⟨b7, 0, none⟩ : Addr) t22.toList 0 →
 ∃ S : World → Prop, S w1_3.drew ∧
 ∃ p24, x0 = some p24 ∧
 ∃ t26 : Sl, (∀ w', S w' → Ld w' (p24.add 1) (.slice t26.a t26.l t26.c)) ∧
 (0 ≤ x1 ∧ x1 ≤ ((t26.l : Nat) : Int)) ∧
 ∃ p30, x0 = some p30 ∧
 ∃ t32 : Sl, (∀ w', S w' → Ld w' (p30.add 1) (.slice t32.a t32.l t32.c)) ∧
 (0 ≤ IntKind.wrap .i64 (x1 + (1 : Int)) ∧ IntKind.wrap .i64 (x1 + (1 : Int)) ≤ ((t32.l : Nat) : Int)) ∧
 RunT prog (.int .i64) (Builtin.copy_ #[40, 40] 3 #[.slice (slA t26.a ((x1).toNat) t26.c 12) (t26.l - ((x1).toNat)) (t26.c - ((x1).toNat)), .slice (slA t32.a ((IntKind.wrap .i64 (x1 + (1 : Int))).toNat) t32.c 12) (t32.l - ((IntKind.wrap .i64 (x1 + (1 : Int))).toNat)) (t32.c - ((IntKind.wrap .i64 (x1 + (1 : Int))).toNat))]) w1_3.drew fun (t36 : Int) w1_4 =>
 ∃ p38, x0 = some p38 ∧
 ∃ t40 : Sl, Ld w1_4 (p38.add 1) (.slice t40.a t40.l t40.c) ∧
 ∃ p45, x0 = some p45 ∧
 ∃ t47 : Sl, Ld w1_4 (p45.add 1) (.slice t47.a t47.l t47.c) ∧
 (0 ≤ IntKind.wrap .i64 (((t40.l : Nat) : Int) - (1 : Int)) ∧ IntKind.wrap .i64 (((t40.l : Nat) : Int) - (1 : Int)) ≤ ((t47.c : Nat) : Int)) ∧
 (0 ≤ IntKind.wrap .i64 (((t40.l : Nat) : Int) - (1 : Int)) ∧ IntKind.wrap .i64 (((t40.l : Nat) : Int) - (1 : Int)) ≤ (((IntKind.wrap .i64 (((t40.l : Nat) : Int) - (1 : Int))).toNat : Nat) : Int)) ∧
 ∃ p51, x0 = some p51 ∧
 Wr w1_4 (p51.add 1) ∧ ∀ w1_5, w1_5 = w1_4.setCell (p51.add 1) (.slice (slA t47.a 0 ((IntKind.wrap .i64 (((t40.l : Nat) : Int) - (1 : Int))).toNat) 12) ((IntKind.wrap .i64 (((t40.l : Nat) : Int) - (1 : Int))).toNat - 0) ((IntKind.wrap .i64 (((t40.l : Nat) : Int) - (1 : Int))).toNat - 0)) →
 ∃ t53 : Array Value, LdA w1_5 (⟨b7, 0, none⟩ : Addr) 12 t53 ∧
 t53.size = 12 ∧ (∀ u, u ∈ t53.toList → u.oneCell' = true) ∧ WrA w1_5 (⟨b4, 0, none⟩ : Addr) 12 ∧ ∀ w1_6, w1_6 = setAt w1_5 (⟨b4, 0, none⟩ : Addr) t53.toList 0 →
 ∃ t4r : Array Value, LdA w1_6 (⟨b4, 0, none⟩ : Addr) 12 t4r ∧
 Q (.tuple #[.agg t4r, .int .i64 0]) w1_6)
def an10 : Ann := { cut := fun i => none, loop := fun i => [] }
theorem eq10 (x0 : Option Addr) (x1 : Int) (w : World) (Q : Value → World → Prop) : F10 x0 x1 w Q = vc prog an10 (Try.f10.body.getD .skip) (envOf [.pointer x0, .int .i64 x1]) w (retK prog Try.f10 Q) := by kernel_rfl
theorem ok10 : codeOk Try.f10.ntmps (Try.f10.body.getD .skip) = true := by kernel_rfl
theorem W10 {x0 : Option Addr} {x1 : Int} {w : World} {Q : Value → World → Prop} (h : F10 x0 x1 w Q) : Calls prog 10 #[.pointer x0, .int .i64 x1] w fun en w' => ∃ v, en = .returned v ∧ Q v w' :=
  calls_of_vc good follows an10 (args := [.pointer x0, .int .i64 x1]) Try.func10 (by kernel_rfl) ok10 (of_decide_eq_true (by kernel_rfl)) (Eq.mp (eq10 x0 x1 w Q) h)

/-- bastion/bastionref27.Same -/
def F11 (x0 : Array Value) (x1 : Array Value) (w : World) (Q : Value → World → Prop) : Prop :=
 ∀ b2 w1, NewB w (.cells x0 33) b2 w1 →
 ∀ b3 w1_1, NewB w1 (.cells x1 33) b3 w1_1 →
 ∃ t9 : Array Value, LdA w1_1 ((⟨b2, 0, none⟩ : Addr).add 2) 10 t9 ∧
 ∀ b5 w1_2, NewB w1_1 (.cells #[.int .u8 0, .int .i64 0, .int .i64 0, .int .i64 0, .int .i64 0, .int .i64 0, .int .i64 0, .int .i64 0, .slice none 0 0, .string (⟨#[]⟩ : ByteArray)] 31) b5 w1_2 →
 t9.size = 10 ∧ (∀ u, u ∈ t9.toList → u.oneCell' = true) ∧ WrA w1_2 (⟨b5, 0, none⟩ : Addr) 10 ∧ ∀ w1_3, w1_3 = setAt w1_2 (⟨b5, 0, none⟩ : Addr) t9.toList 0 →
 ∃ t11 : Array Value, LdA w1_3 ((⟨b3, 0, none⟩ : Addr).add 2) 10 t11 ∧
 ∀ b6 w1_4, NewB w1_3 (.cells #[.int .u8 0, .int .i64 0, .int .i64 0, .int .i64 0, .int .i64 0, .int .i64 0, .int .i64 0, .int .i64 0, .slice none 0 0, .string (⟨#[]⟩ : ByteArray)] 31) b6 w1_4 →
 t11.size = 10 ∧ (∀ u, u ∈ t11.toList → u.oneCell' = true) ∧ WrA w1_4 (⟨b6, 0, none⟩ : Addr) 10 ∧ ∀ w1_5, w1_5 = setAt w1_4 (⟨b6, 0, none⟩ : Addr) t11.toList 0 →
 ∃ J : Bool → World → Prop, (∃ t13 : Int, Ld w1_5 ((⟨b2, 0, none⟩ : Addr).add 0) (.int .i64 t13) ∧
 ∃ t15 : Int, Ld w1_5 ((⟨b3, 0, none⟩ : Addr).add 0) (.int .i64 t15) ∧
 IfB (t13 != t15)
 (J true w1_5)
 (∃ t19 : Int, Ld w1_5 ((⟨b2, 0, none⟩ : Addr).add 1) (.int .i64 t19) ∧
 ∃ t21 : Int, Ld w1_5 ((⟨b3, 0, none⟩ : Addr).add 1) (.int .i64 t21) ∧
 IfB (t19 != t21)
 (J true w1_5)
 (∃ t26 : Int, Ld w1_5 ((⟨b5, 0, none⟩ : Addr).add 0) (.int .u8 t26) ∧
 ∃ t28 : Int, Ld w1_5 ((⟨b6, 0, none⟩ : Addr).add 0) (.int .u8 t28) ∧
 IfB (t26 != t28)
 (J true w1_5)
 (∃ t33 : Int, Ld w1_5 ((⟨b5, 0, none⟩ : Addr).add 1) (.int .i64 t33) ∧
 ∃ t35 : Int, Ld w1_5 ((⟨b6, 0, none⟩ : Addr).add 1) (.int .i64 t35) ∧
 IfB (t33 != t35)
 (J true w1_5)
 (∃ t40 : Int, Ld w1_5 ((⟨b5, 0, none⟩ : Addr).add 2) (.int .i64 t40) ∧
 ∃ t42 : Int, Ld w1_5 ((⟨b6, 0, none⟩ : Addr).add 2) (.int .i64 t42) ∧
 IfB (t40 != t42)
 (J true w1_5)
 (∃ t47 : Int, Ld w1_5 ((⟨b5, 0, none⟩ : Addr).add 3) (.int .i64 t47) ∧
 ∃ t49 : Int, Ld w1_5 ((⟨b6, 0, none⟩ : Addr).add 3) (.int .i64 t49) ∧
 IfB (t47 != t49)
 (J true w1_5)
 (∃ t54 : Int, Ld w1_5 ((⟨b5, 0, none⟩ : Addr).add 4) (.int .i64 t54) ∧
 ∃ t56 : Int, Ld w1_5 ((⟨b6, 0, none⟩ : Addr).add 4) (.int .i64 t56) ∧
 IfB (t54 != t56)
 (J true w1_5)
 (∃ t61 : Int, Ld w1_5 ((⟨b5, 0, none⟩ : Addr).add 5) (.int .i64 t61) ∧
 ∃ t63 : Int, Ld w1_5 ((⟨b6, 0, none⟩ : Addr).add 5) (.int .i64 t63) ∧
 IfB (t61 != t63)
 (J true w1_5)
 (∃ t68 : Int, Ld w1_5 ((⟨b5, 0, none⟩ : Addr).add 6) (.int .i64 t68) ∧
 ∃ t70 : Int, Ld w1_5 ((⟨b6, 0, none⟩ : Addr).add 6) (.int .i64 t70) ∧
 IfB (t68 != t70)
 (J true w1_5)
 (∃ t75 : Int, Ld w1_5 ((⟨b5, 0, none⟩ : Addr).add 7) (.int .i64 t75) ∧
 ∃ t77 : Int, Ld w1_5 ((⟨b6, 0, none⟩ : Addr).add 7) (.int .i64 t77) ∧
 IfB (t75 != t77)
 (J true w1_5)
 (∃ t82 : ByteArray, Ld w1_5 ((⟨b5, 0, none⟩ : Addr).add 9) (.string t82) ∧
 ∃ t84 : ByteArray, Ld w1_5 ((⟨b6, 0, none⟩ : Addr).add 9) (.string t84) ∧
 IfB (!(t82.toList == t84.toList))
 (J true w1_5)
 (∃ t89 : Sl, Ld w1_5 ((⟨b5, 0, none⟩ : Addr).add 8) (.slice t89.a t89.l t89.c) ∧
 ∃ t92 : Sl, Ld w1_5 ((⟨b6, 0, none⟩ : Addr).add 8) (.slice t92.a t92.l t92.c) ∧
 J (((t89.l : Nat) : Int) != ((t92.l : Nat) : Int)) w1_5)))))))))))) ∧
 (∀ (u : Env) (x95 : Bool) (w1_6 : World), J x95 w1_6 →
 IfB x95
 (Q (.bool false) w1_6)
 (∃ (I : Nat → Int → World → Prop) (n0 : Nat), I n0 (0 : Int) w1_6 ∧
 ∀ (n : Nat) (u_1 : Env) (x7 : Int) (w1_7 : World), I n x7 w1_7 →
 ∃ t98 : Sl, Ld w1_7 ((⟨b5, 0, none⟩ : Addr).add 8) (.slice t98.a t98.l t98.c) ∧
 IfB (decide (x7 < ((t98.l : Nat) : Int)))
 (∃ t104 : Sl, Ld w1_7.drew ((⟨b5, 0, none⟩ : Addr).add 8) (.slice t104.a t104.l t104.c) ∧
 ∃ p106, t104.a = some p106 ∧ 0 ≤ x7 ∧ x7 < ((t104.l : Nat) : Int) ∧
 ∃ t107 : ByteArray, Ld w1_7.drew (p106.add ((x7).toNat * 1)) (.string t107) ∧
 ∃ t109 : Sl, Ld w1_7.drew ((⟨b6, 0, none⟩ : Addr).add 8) (.slice t109.a t109.l t109.c) ∧
 ∃ p111, t109.a = some p111 ∧ 0 ≤ x7 ∧ x7 < ((t109.l : Nat) : Int) ∧
 ∃ t112 : ByteArray, Ld w1_7.drew (p111.add ((x7).toNat * 1)) (.string t112) ∧
 IfB (!(t107.toList == t112.toList))
 (Q (.bool false) w1_7.drew)
 (∃ n', n' < n ∧ I n' (IntKind.wrap .i64 (x7 + (1 : Int))) w1_7.drew))
 (Q (.bool true) w1_7)))
def an11 : Ann := { cut := fun i => bif Nat.beq i 4 then some [(95, .bool)] else none, loop := fun i => bif Nat.beq i 6 then [(7, .int .i64)] else [] }
theorem eq11 (x0 : Array Value) (x1 : Array Value) (w : World) (Q : Value → World → Prop) : F11 x0 x1 w Q = vc prog an11 (Try.f11.body.getD .skip) (envOf [.agg x0, .agg x1]) w (retK prog Try.f11 Q) := by kernel_rfl
theorem ok11 : codeOk Try.f11.ntmps (Try.f11.body.getD .skip) = true := by kernel_rfl
theorem W11 {x0 : Array Value} {x1 : Array Value} {w : World} {Q : Value → World → Prop} (h : F11 x0 x1 w Q) : Calls prog 11 #[.agg x0, .agg x1] w fun en w' => ∃ v, en = .returned v ∧ Q v w' :=
  calls_of_vc good follows an11 (args := [.agg x0, .agg x1]) Try.func11 (by kernel_rfl) ok11 (of_decide_eq_true (by kernel_rfl)) (Eq.mp (eq11 x0 x1 w Q) h)

/-- (*bastion/net.Net).Len -/
def F12 (x0 : Option Addr) (w : World) (Q : Value → World → Prop) : Prop :=
 ∃ b4 : Bool, BinIs prog .eql 24 (.tmp 3) (.const (.pointer none)) (.pointer x0) (.pointer none) b4 ∧
 IfB b4
 (Q (.int .i64 0) w)
 (∃ p6, x0 = some p6 ∧
 ∃ t8 : Sl, Ld w (p6.add 1) (.slice t8.a t8.l t8.c) ∧
 Q (.int .i64 ((t8.l : Nat) : Int)) w)
def an12 : Ann := { cut := fun i => none, loop := fun i => [] }
theorem eq12 (x0 : Option Addr) (w : World) (Q : Value → World → Prop) : F12 x0 w Q = vc prog an12 (Try.f12.body.getD .skip) (envOf [.pointer x0]) w (retK prog Try.f12 Q) := by kernel_rfl
theorem ok12 : codeOk Try.f12.ntmps (Try.f12.body.getD .skip) = true := by kernel_rfl
theorem W12 {x0 : Option Addr} {w : World} {Q : Value → World → Prop} (h : F12 x0 w Q) : Calls prog 12 #[.pointer x0] w fun en w' => ∃ v, en = .returned v ∧ Q v w' :=
  calls_of_vc good follows an12 (args := [.pointer x0]) Try.func12 (by kernel_rfl) ok12 (of_decide_eq_true (by kernel_rfl)) (Eq.mp (eq12 x0 w Q) h)

/-- (*bastion/net.Net).Double -/
def F13 (x0 : Option Addr) (x1 : Int) (w : World) (Q : Value → World → Prop) : Prop :=
 Calls prog 24 #[.pointer x0, .int .i64 x1] w fun en w1 =>
 ∃ t8 : Int, en = .returned (.int .i64 t8) ∧
 IfB (t8 != (0 : Int))
 (Q (.int .i64 t8) w1)
 (∃ p14, x0 = some p14 ∧
 ∃ t16 : Sl, Ld w1 (p14.add 1) (.slice t16.a t16.l t16.c) ∧
 ∃ p18, t16.a = some p18 ∧ 0 ≤ x1 ∧ x1 < ((t16.l : Nat) : Int) ∧
 ∃ t19 : Array Value, LdA w1 (p18.add ((x1).toNat * 12)) 12 t19 ∧
 Calls prog 8 #[.pointer x0, .agg t19] w1 fun en w1_1 =>
 ∃ t20 : Int, en = .returned (.int .i64 t20) ∧
 Q (.int .i64 t20) w1_1)
def an13 : Ann := { cut := fun i => none, loop := fun i => [] }
theorem eq13 (x0 : Option Addr) (x1 : Int) (w : World) (Q : Value → World → Prop) : F13 x0 x1 w Q = vc prog an13 (Try.f13.body.getD .skip) (envOf [.pointer x0, .int .i64 x1]) w (retK prog Try.f13 Q) := by kernel_rfl
theorem ok13 : codeOk Try.f13.ntmps (Try.f13.body.getD .skip) = true := by kernel_rfl
theorem W13 {x0 : Option Addr} {x1 : Int} {w : World} {Q : Value → World → Prop} (h : F13 x0 x1 w Q) : Calls prog 13 #[.pointer x0, .int .i64 x1] w fun en w' => ∃ v, en = .returned v ∧ Q v w' :=
  calls_of_vc good follows an13 (args := [.pointer x0, .int .i64 x1]) Try.func13 (by kernel_rfl) ok13 (of_decide_eq_true (by kernel_rfl)) (Eq.mp (eq13 x0 x1 w Q) h)

/-- (*bastion/net.Net).Drop -/
def F14 (x0 : Option Addr) (x1 : Int) (w : World) (Q : Value → World → Prop) : Prop :=
 Calls prog 10 #[.pointer x0, .int .i64 x1] w fun en w1 =>
 ∃ t10a : Array Value, ∃ t10b : Int, en = .returned (.tuple #[.agg t10a, .int .i64 t10b]) ∧
 ∀ b5 w1_1, NewB w1 (.cells #[.int .i64 0, .int .i64 0, .int .u8 0, .int .i64 0, .int .i64 0, .int .i64 0, .int .i64 0, .int .i64 0, .int .i64 0, .int .i64 0, .slice none 0 0, .string (⟨#[]⟩ : ByteArray)] 33) b5 w1_1 →
 t10a.size = 12 ∧ (∀ u, u ∈ t10a.toList → u.oneCell' = true) ∧ WrA w1_1 (⟨b5, 0, none⟩ : Addr) 12 ∧ ∀ w1_2, w1_2 = setAt w1_1 (⟨b5, 0, none⟩ : Addr) t10a.toList 0 →
 Q (.int .i64 t10b) w1_2
def an14 : Ann := { cut := fun i => none, loop := fun i => [] }
theorem eq14 (x0 : Option Addr) (x1 : Int) (w : World) (Q : Value → World → Prop) : F14 x0 x1 w Q = vc prog an14 (Try.f14.body.getD .skip) (envOf [.pointer x0, .int .i64 x1]) w (retK prog Try.f14 Q) := by kernel_rfl
theorem ok14 : codeOk Try.f14.ntmps (Try.f14.body.getD .skip) = true := by kernel_rfl
theorem W14 {x0 : Option Addr} {x1 : Int} {w : World} {Q : Value → World → Prop} (h : F14 x0 x1 w Q) : Calls prog 14 #[.pointer x0, .int .i64 x1] w fun en w' => ∃ v, en = .returned v ∧ Q v w' :=
  calls_of_vc good follows an14 (args := [.pointer x0, .int .i64 x1]) Try.func14 (by kernel_rfl) ok14 (of_decide_eq_true (by kernel_rfl)) (Eq.mp (eq14 x0 x1 w Q) h)

/-- (*bastion/net.Net).All -/
def F15 (x0 : Option Addr) (w : World) (Q : Value → World → Prop) : Prop :=
 ∃ b7 : Bool, BinIs prog .eql 24 (.tmp 6) (.const (.pointer none)) (.pointer x0) (.pointer none) b7 ∧
 IfB b7
 (Q (.slice none 0 0) w)
 (∃ p9, x0 = some p9 ∧
 ∃ t11 : Sl, Ld w (p9.add 1) (.slice t11.a t11.l t11.c) ∧
 ∃ (I : Nat → Sl → Int → World → Prop) (n0 : Nat), I n0 (⟨none, 0, 0⟩ : Sl) (0 : Int) w ∧
 ∀ (n : Nat) (u : Env) (x3 : Sl) (x13 : Int) (w1 : World), I n x3 x13 w1 →
 IfB (decide (x13 < ((t11.l : Nat) : Int)))
 (∃ p15, t11.a = some p15 ∧ 0 ≤ x13 ∧ x13 < ((t11.l : Nat) : Int) ∧
 ∃ t16 : Array Value, LdA w1 (p15.add ((x13).toNat * 12)) 12 t16 ∧
 ∀ b5 w1_1, NewB w1 (.cells #[.int .i64 0, .int .i64 0, .int .u8 0, .int .i64 0, .int .i64 0, .int .i64 0, .int .i64 0, .int .i64 0, .int .i64 0, .int .i64 0, .slice none 0 0, .string (⟨#[]⟩ : ByteArray)] 33) b5 w1_1 →
 t16.size = 12 ∧ (∀ u, u ∈ t16.toList → u.oneCell' = true) ∧ WrA w1_1 (⟨b5, 0, none⟩ : Addr) 12 ∧ ∀ w1_2, w1_2 = setAt w1_1 (⟨b5, 0, none⟩ : Addr) t16.toList 0 →
 ∃ t18 : Array Value, LdA w1_2 (⟨b5, 0, none⟩ : Addr) 12 t18 ∧
 Calls prog 23 #[.agg t18] w1_2 fun en w1_3 =>
 ∃ t19 : Array Value, en = .returned (.agg t19) ∧
 RunT prog .slice (Instr.buildSlice 40 1 #[(0, .agg t19)]) w1_3 fun (t20 : Sl) w1_4 =>
 RunT prog .slice (Builtin.append_ #[40, 40] 40 #[.slice x3.a x3.l x3.c, .slice t20.a t20.l t20.c]) w1_4 fun (t21 : Sl) w1_5 =>
 ∃ n', n' < n ∧ I n' t21 (IntKind.wrap .i64 (x13 + (1 : Int))) w1_5)
 (Q (.slice x3.a x3.l x3.c) w1))
def an15 : Ann := { cut := fun i => none, loop := fun i => bif Nat.beq i 5 then [(3, .slice), (13, .int .i64)] else [] }
theorem eq15 (x0 : Option Addr) (w : World) (Q : Value → World → Prop) : F15 x0 w Q = vc prog an15 (Try.f15.body.getD .skip) (envOf [.pointer x0]) w (retK prog Try.f15 Q) := by kernel_rfl
theorem ok15 : codeOk Try.f15.ntmps (Try.f15.body.getD .skip) = true := by kernel_rfl
theorem W15 {x0 : Option Addr} {w : World} {Q : Value → World → Prop} (h : F15 x0 w Q) : Calls prog 15 #[.pointer x0] w fun en w' => ∃ v, en = .returned v ∧ Q v w' :=
  calls_of_vc good follows an15 (args := [.pointer x0]) Try.func15 (by kernel_rfl) ok15 (of_decide_eq_true (by kernel_rfl)) (Eq.mp (eq15 x0 w Q) h)

/-- (*bastion/net.Net).Copy -/
def F16 (x0 : Option Addr) (w : World) (Q : Value → World → Prop) : Prop :=
 ∃ b4 : Bool, BinIs prog .eql 24 (.tmp 3) (.const (.pointer none)) (.pointer x0) (.pointer none) b4 ∧
 IfB b4
 (Q (.pointer none) w)
 (∃ S : World → Prop, S w.drew ∧
 ∃ p6, x0 = some p6 ∧
 ∃ t8 : Int, (∀ w', S w' → Ld w' (p6.add 0) (.int .i64 t8)) ∧
 Calls prog 15 #[.pointer x0] w.drew fun en w1 =>
 ∃ t10 : Sl, en = .returned (.slice t10.a t10.l t10.c) ∧
 S w1 ∧
 ∃ t11 : Array Value, BuildIs prog 55 #[(0, .int .i64 t8), (1, .slice t10.a t10.l t10.c)] t11 ∧
 ∀ b12 w1_1, NewB w1 (.cells t11 55) b12 w1_1 →
 Q (.pointer (some (⟨b12, 0, none⟩ : Addr))) w1_1)
def an16 : Ann := { cut := fun i => none, loop := fun i => [] }
theorem eq16 (x0 : Option Addr) (w : World) (Q : Value → World → Prop) : F16 x0 w Q = vc prog an16 (Try.f16.body.getD .skip) (envOf [.pointer x0]) w (retK prog Try.f16 Q) := by kernel_rfl
theorem ok16 : codeOk Try.f16.ntmps (Try.f16.body.getD .skip) = true := by kernel_rfl
theorem W16 {x0 : Option Addr} {w : World} {Q : Value → World → Prop} (h : F16 x0 w Q) : Calls prog 16 #[.pointer x0] w fun en w' => ∃ v, en = .returned v ∧ Q v w' :=
  calls_of_vc good follows an16 (args := [.pointer x0]) Try.func16 (by kernel_rfl) ok16 (of_decide_eq_true (by kernel_rfl)) (Eq.mp (eq16 x0 w Q) h)

/-- bastion/bastionref27.Own -/
def F17 (x0 : Array Value) (w : World) (Q : Value → World → Prop) : Prop :=
 ∀ b1 w1, NewB w (.cells x0 33) b1 w1 →
 ∀ b2 w1_1, NewB w1 (.cells #[.int .i64 0, .int .i64 0, .int .u8 0, .int .i64 0, .int .i64 0, .int .i64 0, .int .i64 0, .int .i64 0, .int .i64 0, .int .i64 0, .slice none 0 0, .string (⟨#[]⟩ : ByteArray)] 33) b2 w1_1 →
 RunT prog .slice (Instr.buildSlice 29 0 #[]) w1_1 fun (t3 : Sl) w1_2 =>
 ∃ t6 : Sl, Ld w1_2 (((⟨b1, 0, none⟩ : Addr).add 2).add 8) (.slice t6.a t6.l t6.c) ∧
 RunT prog .slice (Builtin.append_ #[29, 29] 29 #[.slice t3.a t3.l t3.c, .slice t6.a t6.l t6.c]) w1_2 fun (t7 : Sl) w1_3 =>
 Wr w1_3 (((⟨b1, 0, none⟩ : Addr).add 2).add 8) ∧ ∀ w1_4, w1_4 = w1_3.setCell (((⟨b1, 0, none⟩ : Addr).add 2).add 8) (.slice t7.a t7.l t7.c) →
 ∃ t10 : Array Value, LdA w1_4 (⟨b1, 0, none⟩ : Addr) 12 t10 ∧
 t10.size = 12 ∧ (∀ u, u ∈ t10.toList → u.oneCell' = true) ∧ WrA w1_4 (⟨b2, 0, none⟩ : Addr) 12 ∧ ∀ w1_5, w1_5 = setAt w1_4 (⟨b2, 0, none⟩ : Addr) t10.toList 0 →
 ∃ t2r : Array Value, LdA w1_5 (⟨b2, 0, none⟩ : Addr) 12 t2r ∧
 Q (.agg t2r) w1_5
def an17 : Ann := { cut := fun i => none, loop := fun i => [] }
theorem eq17 (x0 : Array Value) (w : World) (Q : Value → World → Prop) : F17 x0 w Q = vc prog an17 (Try.f17.body.getD .skip) (envOf [.agg x0]) w (retK prog Try.f17 Q) := by kernel_rfl
theorem ok17 : codeOk Try.f17.ntmps (Try.f17.body.getD .skip) = true := by kernel_rfl
theorem W17 {x0 : Array Value} {w : World} {Q : Value → World → Prop} (h : F17 x0 w Q) : Calls prog 17 #[.agg x0] w fun en w' => ∃ v, en = .returned v ∧ Q v w' :=
  calls_of_vc good follows an17 (args := [.agg x0]) Try.func17 (by kernel_rfl) ok17 (of_decide_eq_true (by kernel_rfl)) (Eq.mp (eq17 x0 w Q) h)

/-- (*bastion/bastionref27.Net).Put -/
def F18 (x0 : Option Addr) (x1 : Array Value) (w : World) (Q : Value → World → Prop) : Prop :=
 ∀ b3 w1, NewB w (.cells x1 33) b3 w1 →
 ∃ p6, x0 = some p6 ∧
 ∃ t8 : Sl, Ld w1.drew (p6.add 1) (.slice t8.a t8.l t8.c) ∧
 ∃ p11, x0 = some p11 ∧
 ∃ t13 : Int, Ld w1.drew (p11.add 0) (.int .i64 t13) ∧
 IfB (decide (((t8.l : Nat) : Int) ≥ t13))
 (Q (.int .i64 3) w1.drew)
 (∃ S : World → Prop, S w1.drew.drew ∧
 ∃ p17, x0 = some p17 ∧
 ∃ t19 : Sl, (∀ w', S w' → Ld w' (p17.add 1) (.slice t19.a t19.l t19.c)) ∧
 ∃ t20 : Array Value, (∀ w', S w' → LdA w' (⟨b3, 0, none⟩ : Addr) 12 t20) ∧
 Calls prog 17 #[.agg t20] w1.drew.drew fun en w1_1 =>
 ∃ t21 : Array Value, en = .returned (.agg t21) ∧
 S w1_1 ∧
 RunT prog .slice (Instr.buildSlice 40 1 #[(0, .agg t21)]) w1_1 fun (t22 : Sl) w1_2 =>
 S w1_2 ∧
 RunT prog .slice (Builtin.append_ #[40, 40] 40 #[.slice t19.a t19.l t19.c, .slice t22.a t22.l t22.c]) w1_2 fun (t23 : Sl) w1_3 =>
 ∃ p24, x0 = some p24 ∧
 Wr w1_3 (p24.add 1) ∧ ∀ w1_4, w1_4 = w1_3.setCell (p24.add 1) (.slice t23.a t23.l t23.c) →
 Q (.int .i64 0) w1_4)
def an18 : Ann := { cut := fun i => none, loop := fun i => [] }
theorem eq18 (x0 : Option Addr) (x1 : Array Value) (w : World) (Q : Value → World → Prop) : F18 x0 x1 w Q = vc prog an18 (Try.f18.body.getD .skip) (envOf [.pointer x0, .agg x1]) w (retK prog Try.f18 Q) := by kernel_rfl
theorem ok18 : codeOk Try.f18.ntmps (Try.f18.body.getD .skip) = true := by kernel_rfl
theorem W18 {x0 : Option Addr} {x1 : Array Value} {w : World} {Q : Value → World → Prop} (h : F18 x0 x1 w Q) : Calls prog 18 #[.pointer x0, .agg x1] w fun en w' => ∃ v, en = .returned v ∧ Q v w' :=
  calls_of_vc good follows an18 (args := [.pointer x0, .agg x1]) Try.func18 (by kernel_rfl) ok18 (of_decide_eq_true (by kernel_rfl)) (Eq.mp (eq18 x0 x1 w Q) h)

/-- bastion/bastionlaw27.spoil -/
def F19 (x0 : Array Value) (w : World) (Q : Value → World → Prop) : Prop :=
 ∀ b1 w1, NewB w (.cells x0 33) b1 w1 →
 ∃ (I : Nat → Int → World → Prop) (n0 : Nat), I n0 (0 : Int) w1 ∧
 ∀ (n : Nat) (u : Env) (x2 : Int) (w1_1 : World), I n x2 w1_1 →
 ∃ t6 : Sl, Ld w1_1 (((⟨b1, 0, none⟩ : Addr).add 2).add 8) (.slice t6.a t6.l t6.c) ∧
 IfB (decide (x2 < ((t6.l : Nat) : Int)))
 (∃ t13 : Sl, Ld w1_1 (((⟨b1, 0, none⟩ : Addr).add 2).add 8) (.slice t13.a t13.l t13.c) ∧
 ∃ p15, t13.a = some p15 ∧ 0 ≤ x2 ∧ x2 < ((t13.l : Nat) : Int) ∧
 Wr w1_1 (p15.add ((x2).toNat * 1)) ∧ ∀ w1_2, w1_2 = w1_1.setCell (p15.add ((x2).toNat * 1)) (.string (⟨#[63]⟩ : ByteArray)) →
 ∃ n', n' < n ∧ I n' (IntKind.wrap .i64 (x2 + (1 : Int))) w1_2)
 (Q (.tuple #[]) w1_1)
def an19 : Ann := { cut := fun i => none, loop := fun i => bif Nat.beq i 2 then [(2, .int .i64)] else [] }
theorem eq19 (x0 : Array Value) (w : World) (Q : Value → World → Prop) : F19 x0 w Q = vc prog an19 (Try.f19.body.getD .skip) (envOf [.agg x0]) w (retK prog Try.f19 Q) := by kernel_rfl
theorem ok19 : codeOk Try.f19.ntmps (Try.f19.body.getD .skip) = true := by kernel_rfl
theorem W19 {x0 : Array Value} {w : World} {Q : Value → World → Prop} (h : F19 x0 w Q) : Calls prog 19 #[.agg x0] w fun en w' => ∃ v, en = .returned v ∧ Q v w' :=
  calls_of_vc good follows an19 (args := [.agg x0]) Try.func19 (by kernel_rfl) ok19 (of_decide_eq_true (by kernel_rfl)) (Eq.mp (eq19 x0 w Q) h)

/-- (*bastion/bastionref27.Net).Take -/
def F20 (x0 : Option Addr) (x1 : Int) (w : World) (Q : Value → World → Prop) : Prop :=
 ∀ b4 w1, NewB w (.cells #[.int .i64 0, .int .i64 0, .int .u8 0, .int .i64 0, .int .i64 0, .int .i64 0, .int .i64 0, .int .i64 0, .int .i64 0, .int .i64 0, .slice none 0 0, .string (⟨#[]⟩ : ByteArray)] 33) b4 w1 →
 ∃ J : Bool → World → Prop, (IfB (decide (x1 < (0 : Int)))
 (J true w1)
 (∃ p13, x0 = some p13 ∧
 ∃ t15 : Sl, Ld w1 (p13.add 1) (.slice t15.a t15.l t15.c) ∧
 J (decide (x1 ≥ ((t15.l : Nat) : Int))) w1)) ∧
 (∀ (u : Env) (x18 : Bool) (w1_1 : World), J x18 w1_1 →
 IfB x18
 (∃ t19 : Array Value, BuildIs prog 33 #[] t19 ∧
 t19.size = 12 ∧ (∀ u, u ∈ t19.toList → u.oneCell' = true) ∧ WrA w1_1 (⟨b4, 0, none⟩ : Addr) 12 ∧ ∀ w1_2, w1_2 = setAt w1_1 (⟨b4, 0, none⟩ : Addr) t19.toList 0 →
 ∃ t4r : Array Value, LdA w1_2 (⟨b4, 0, none⟩ : Addr) 12 t4r ∧
 Q (.tuple #[.agg t4r, .int .i64 5]) w1_2)
 (∃ p21, x0 = some p21 ∧
 ∃ t23 : Sl, Ld w1_1 (p21.add 1) (.slice t23.a t23.l t23.c) ∧
 ∃ p25, t23.a = some p25 ∧ 0 ≤ x1 ∧ x1 < ((t23.l : Nat) : Int) ∧
 ∃ t26 : Array Value, LdA w1_1 (p25.add ((x1).toNat * 12)) 12 t26 ∧
 ∀ b6 w1_2, NewB w1_1 (.cells #[.int .i64 0, .int .i64 0, .int .u8 0, .int .i64 0, .int .i64 0, .int .i64 0, .int .i64 0, .int .i64 0, .int .i64 0, .int .i64 0, .slice none 0 0, .string (⟨#[]⟩ : ByteArray)] 33) b6 w1_2 →
 t26.size = 12 ∧ (∀ u, u ∈ t26.toList → u.oneCell' = true) ∧ WrA w1_2 (⟨b6, 0, none⟩ : Addr) 12 ∧ ∀ w1_3, w1_3 = setAt w1_2 (⟨b6, 0, none⟩ : Addr) t26.toList 0 →
 ∃ p29, x0 = some p29 ∧
 ∃ t31 : Sl, Ld w1_3 (p29.add 1) (.slice t31.a t31.l t31.c) ∧
 (0 ≤ x1 ∧ x1 ≤ ((t31.c : Nat) : Int)) ∧
 RunT prog .slice (Builtin.append_ #[40, 40] 40 #[.slice none 0 0, .slice (slA t31.a 0 t31.c 12) ((x1).toNat - 0) (t31.c - 0)]) w1_3 fun (t34 : Sl) w1_4 =>
 ∃ p38, x0 = some p38 ∧
 ∃ t40 : Sl, Ld w1_4 (p38.add 1) (.slice t40.a t40.l t40.c) ∧
 (0 ≤ IntKind.wrap .i64 (x1 + (1 : Int)) ∧ IntKind.wrap .i64 (x1 + (1 : Int)) ≤ ((t40.l : Nat) : Int)) ∧
 RunT prog .slice (Builtin.append_ #[40, 40] 40 #[.slice t34.a t34.l t34.c, .slice (slA t40.a ((IntKind.wrap .i64 (x1 + (1 : Int))).toNat) t40.c 12) (t40.l - ((IntKind.wrap .i64 (x1 + (1 : Int))).toNat)) (t40.c - ((IntKind.wrap .i64 (x1 + (1 : Int))).toNat))]) w1_4 fun (t44 : Sl) w1_5 =>
 ∃ p45, x0 = some p45 ∧
 Wr w1_5 (p45.add 1) ∧ ∀ w1_6, w1_6 = w1_5.setCell (p45.add 1) (.slice t44.a t44.l t44.c) →
 ∃ t47 : Array Value, LdA w1_6 (⟨b6, 0, none⟩ : Addr) 12 t47 ∧
 t47.size = 12 ∧ (∀ u, u ∈ t47.toList → u.oneCell' = true) ∧ WrA w1_6 (⟨b4, 0, none⟩ : Addr) 12 ∧ ∀ w1_7, w1_7 = setAt w1_6 (⟨b4, 0, none⟩ : Addr) t47.toList 0 →
 ∃ t4r : Array Value, LdA w1_7 (⟨b4, 0, none⟩ : Addr) 12 t4r ∧
 Q (.tuple #[.agg t4r, .int .i64 0]) w1_7))
def an20 : Ann := { cut := fun i => bif Nat.beq i 2 then some [(18, .bool)] else none, loop := fun i => [] }
theorem eq20 (x0 : Option Addr) (x1 : Int) (w : World) (Q : Value → World → Prop) : F20 x0 x1 w Q = vc prog an20 (Try.f20.body.getD .skip) (envOf [.pointer x0, .int .i64 x1]) w (retK prog Try.f20 Q) := by kernel_rfl
theorem ok20 : codeOk Try.f20.ntmps (Try.f20.body.getD .skip) = true := by kernel_rfl
theorem W20 {x0 : Option Addr} {x1 : Int} {w : World} {Q : Value → World → Prop} (h : F20 x0 x1 w Q) : Calls prog 20 #[.pointer x0, .int .i64 x1] w fun en w' => ∃ v, en = .returned v ∧ Q v w' :=
  calls_of_vc good follows an20 (args := [.pointer x0, .int .i64 x1]) Try.func20 (by kernel_rfl) ok20 (of_decide_eq_true (by kernel_rfl)) (Eq.mp (eq20 x0 x1 w Q) h)

/-- (*bastion/bastionref27.Net).Double -/
def F21 (x0 : Option Addr) (x1 : Int) (w : World) (Q : Value → World → Prop) : Prop :=
 IfB (decide (x1 < (0 : Int)))
 (Q (.int .i64 5) w)
 (∃ p10, x0 = some p10 ∧
 ∃ t12 : Sl, Ld w (p10.add 1) (.slice t12.a t12.l t12.c) ∧
 IfB (decide (x1 ≥ ((t12.l : Nat) : Int)))
 (Q (.int .i64 5) w)
 (∃ p18, x0 = some p18 ∧
 ∃ t20 : Sl, Ld w (p18.add 1) (.slice t20.a t20.l t20.c) ∧
 ∃ p22, t20.a = some p22 ∧ 0 ≤ x1 ∧ x1 < ((t20.l : Nat) : Int) ∧
 ∃ t23 : Array Value, LdA w (p22.add ((x1).toNat * 12)) 12 t23 ∧
 Calls prog 18 #[.pointer x0, .agg t23] w fun en w1 =>
 ∃ t24 : Int, en = .returned (.int .i64 t24) ∧
 Q (.int .i64 t24) w1))
def an21 : Ann := { cut := fun i => none, loop := fun i => [] }
theorem eq21 (x0 : Option Addr) (x1 : Int) (w : World) (Q : Value → World → Prop) : F21 x0 x1 w Q = vc prog an21 (Try.f21.body.getD .skip) (envOf [.pointer x0, .int .i64 x1]) w (retK prog Try.f21 Q) := by kernel_rfl
theorem ok21 : codeOk Try.f21.ntmps (Try.f21.body.getD .skip) = true := by kernel_rfl
theorem W21 {x0 : Option Addr} {x1 : Int} {w : World} {Q : Value → World → Prop} (h : F21 x0 x1 w Q) : Calls prog 21 #[.pointer x0, .int .i64 x1] w fun en w' => ∃ v, en = .returned v ∧ Q v w' :=
  calls_of_vc good follows an21 (args := [.pointer x0, .int .i64 x1]) Try.func21 (by kernel_rfl) ok21 (of_decide_eq_true (by kernel_rfl)) (Eq.mp (eq21 x0 x1 w Q) h)

/-- bastion/bastionref27.Sames -/
def F22 (x0 : Sl) (x1 : Sl) (w : World) (Q : Value → World → Prop) : Prop :=
 IfB (((x0.l : Nat) : Int) != ((x1.l : Nat) : Int))
 (Q (.bool false) w)
 (∃ (I : Nat → Int → World → Prop) (n0 : Nat), I n0 (0 : Int) w ∧
 ∀ (n : Nat) (u : Env) (x5 : Int) (w1 : World), I n x5 w1 →
 IfB (decide (x5 < ((x0.l : Nat) : Int)))
 (∃ S : World → Prop, S w1.drew ∧
 ∃ p19, x0.a = some p19 ∧ 0 ≤ x5 ∧ x5 < ((x0.l : Nat) : Int) ∧
 ∃ t20 : Array Value, (∀ w', S w' → LdA w' (p19.add ((x5).toNat * 12)) 12 t20) ∧
 ∃ p23, x1.a = some p23 ∧ 0 ≤ x5 ∧ x5 < ((x1.l : Nat) : Int) ∧
 ∃ t24 : Array Value, (∀ w', S w' → LdA w' (p23.add ((x5).toNat * 12)) 12 t24) ∧
 Calls prog 11 #[.agg t20, .agg t24] w1.drew fun en w1_1 =>
 ∃ t25 : Bool, en = .returned (.bool t25) ∧
 IfB (!t25)
 (Q (.bool false) w1_1)
 (∃ n', n' < n ∧ I n' (IntKind.wrap .i64 (x5 + (1 : Int))) w1_1))
 (Q (.bool true) w1))
def an22 : Ann := { cut := fun i => none, loop := fun i => bif Nat.beq i 4 then [(5, .int .i64)] else [] }
theorem eq22 (x0 : Sl) (x1 : Sl) (w : World) (Q : Value → World → Prop) : F22 x0 x1 w Q = vc prog an22 (Try.f22.body.getD .skip) (envOf [.slice x0.a x0.l x0.c, .slice x1.a x1.l x1.c]) w (retK prog Try.f22 Q) := by kernel_rfl
theorem ok22 : codeOk Try.f22.ntmps (Try.f22.body.getD .skip) = true := by kernel_rfl
theorem W22 {x0 : Sl} {x1 : Sl} {w : World} {Q : Value → World → Prop} (h : F22 x0 x1 w Q) : Calls prog 22 #[.slice x0.a x0.l x0.c, .slice x1.a x1.l x1.c] w fun en w' => ∃ v, en = .returned v ∧ Q v w' :=
  calls_of_vc good follows an22 (args := [.slice x0.a x0.l x0.c, .slice x1.a x1.l x1.c]) Try.func22 (by kernel_rfl) ok22 (of_decide_eq_true (by kernel_rfl)) (Eq.mp (eq22 x0 x1 w Q) h)

/-- bastion/net.own -/
def F23 (x0 : Array Value) (w : World) (Q : Value → World → Prop) : Prop :=
 ∀ b1 w1, NewB w (.cells x0 33) b1 w1 →
 ∀ b2 w1_1, NewB w1 (.cells #[.int .i64 0, .int .i64 0, .int .u8 0, .int .i64 0, .int .i64 0, .int .i64 0, .int .i64 0, .int .i64 0, .int .i64 0, .int .i64 0, .slice none 0 0, .string (⟨#[]⟩ : ByteArray)] 33) b2 w1_1 →
 ∃ t5 : Sl, Ld w1_1 (((⟨b1, 0, none⟩ : Addr).add 2).add 8) (.slice t5.a t5.l t5.c) ∧
 Calls prog 25 #[.slice t5.a t5.l t5.c] w1_1 fun en w1_2 =>
 ∃ t6 : Sl, en = .returned (.slice t6.a t6.l t6.c) ∧
 Wr w1_2 (((⟨b1, 0, none⟩ : Addr).add 2).add 8) ∧ ∀ w1_3, w1_3 = w1_2.setCell (((⟨b1, 0, none⟩ : Addr).add 2).add 8) (.slice t6.a t6.l t6.c) →
 ∃ t9 : Array Value, LdA w1_3 (⟨b1, 0, none⟩ : Addr) 12 t9 ∧
 t9.size = 12 ∧ (∀ u, u ∈ t9.toList → u.oneCell' = true) ∧ WrA w1_3 (⟨b2, 0, none⟩ : Addr) 12 ∧ ∀ w1_4, w1_4 = setAt w1_3 (⟨b2, 0, none⟩ : Addr) t9.toList 0 →
 ∃ t2r : Array Value, LdA w1_4 (⟨b2, 0, none⟩ : Addr) 12 t2r ∧
 Q (.agg t2r) w1_4
def an23 : Ann := { cut := fun i => none, loop := fun i => [] }
theorem eq23 (x0 : Array Value) (w : World) (Q : Value → World → Prop) : F23 x0 w Q = vc prog an23 (Try.f23.body.getD .skip) (envOf [.agg x0]) w (retK prog Try.f23 Q) := by kernel_rfl
theorem ok23 : codeOk Try.f23.ntmps (Try.f23.body.getD .skip) = true := by kernel_rfl
theorem W23 {x0 : Array Value} {w : World} {Q : Value → World → Prop} (h : F23 x0 w Q) : Calls prog 23 #[.agg x0] w fun en w' => ∃ v, en = .returned v ∧ Q v w' :=
  calls_of_vc good follows an23 (args := [.agg x0]) Try.func23 (by kernel_rfl) ok23 (of_decide_eq_true (by kernel_rfl)) (Eq.mp (eq23 x0 w Q) h)

/-- (*bastion/net.Net).there -/
def F24 (x0 : Option Addr) (x1 : Int) (w : World) (Q : Value → World → Prop) : Prop :=
 ∃ b7 : Bool, BinIs prog .eql 24 (.tmp 6) (.const (.pointer none)) (.pointer x0) (.pointer none) b7 ∧
 IfB b7
 (Q (.int .i64 2) w)
 (IfB (decide (x1 < (0 : Int)))
 (Q (.int .i64 5) w)
 (∃ p14, x0 = some p14 ∧
 ∃ t16 : Sl, Ld w (p14.add 1) (.slice t16.a t16.l t16.c) ∧
 IfB (decide (x1 ≥ ((t16.l : Nat) : Int)))
 (Q (.int .i64 5) w)
 (Q (.int .i64 0) w)))
def an24 : Ann := { cut := fun i => none, loop := fun i => [] }
theorem eq24 (x0 : Option Addr) (x1 : Int) (w : World) (Q : Value → World → Prop) : F24 x0 x1 w Q = vc prog an24 (Try.f24.body.getD .skip) (envOf [.pointer x0, .int .i64 x1]) w (retK prog Try.f24 Q) := by kernel_rfl
theorem ok24 : codeOk Try.f24.ntmps (Try.f24.body.getD .skip) = true := by kernel_rfl
theorem W24 {x0 : Option Addr} {x1 : Int} {w : World} {Q : Value → World → Prop} (h : F24 x0 x1 w Q) : Calls prog 24 #[.pointer x0, .int .i64 x1] w fun en w' => ∃ v, en = .returned v ∧ Q v w' :=
  calls_of_vc good follows an24 (args := [.pointer x0, .int .i64 x1]) Try.func24 (by kernel_rfl) ok24 (of_decide_eq_true (by kernel_rfl)) (Eq.mp (eq24 x0 x1 w Q) h)

/-- slices.Clone[[]string,string] -/
def F25 (x0 : Sl) (w : World) (Q : Value → World → Prop) : Prop :=
 ∃ b4 : Bool, BinIs prog .eql 29 (.tmp 3) (.const (.slice none 0 0)) (.slice x0.a x0.l x0.c) (.slice none 0 0) b4 ∧
 IfB b4
 (Q (.slice none 0 0) w)
 (RunT prog .slice (Instr.buildSlice 29 0 #[]) w fun (t5 : Sl) w1 =>
 RunT prog .slice (Builtin.append_ #[29, 29] 29 #[.slice t5.a t5.l t5.c, .slice x0.a x0.l x0.c]) w1 fun (t7 : Sl) w1_1 =>
 Q (.slice t7.a t7.l t7.c) w1_1)
def an25 : Ann := { cut := fun i => none, loop := fun i => [] }
theorem eq25 (x0 : Sl) (w : World) (Q : Value → World → Prop) : F25 x0 w Q = vc prog an25 (Try.f25.body.getD .skip) (envOf [.slice x0.a x0.l x0.c]) w (retK prog Try.f25 Q) := by kernel_rfl
theorem ok25 : codeOk Try.f25.ntmps (Try.f25.body.getD .skip) = true := by kernel_rfl
theorem W25 {x0 : Sl} {w : World} {Q : Value → World → Prop} (h : F25 x0 w Q) : Calls prog 25 #[.slice x0.a x0.l x0.c] w fun en w' => ∃ v, en = .returned v ∧ Q v w' :=
  calls_of_vc good follows an25 (args := [.slice x0.a x0.l x0.c]) Try.func25 (by kernel_rfl) ok25 (of_decide_eq_true (by kernel_rfl)) (Eq.mp (eq25 x0 w Q) h)
end Go.Proofs.Ytffcojmpaccppaa

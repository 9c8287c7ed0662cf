/-  YtmcdeldjgfapbaaF: weakest preconditions of functions, by wip/gen/gen.py; each is held against the machine's code by the kernel. -/
import Derived.Test.YtmcdeldjgfapbaaV
import Derived.Test.YtmcdeldjgfapbaaProg
import Derived.Test.YtmcdeldjgfapbaaGood
import Derived.KernelRfl
set_option linter.unusedVariables false
set_option maxRecDepth 1000000
namespace Go.Proofs.Ytmcdeldjgfapbaa
open Go Go.Proofs.YtmcdeldjgfapbaaV

/-- bastion/code.NewReader -/
def F37 (x0 : Sl) (w : World) (Q : Value → World → Prop) : Prop :=
 RunT prog .str (convert 22 9 (.slice x0.a x0.l x0.c)) w fun (t4 : ByteArray) w1 =>
 ∃ t5 : Array Value, BuildIs prog 75 #[(0, .string t4)] t5 ∧
 ∃ t6 : Array Value, BuildIs prog 77 #[(0, .agg t5)] t6 ∧
 ∀ b7 w1_1, NewB w1 (.cells t6 77) b7 w1_1 →
 Q (.pointer (some (⟨b7, 0, none⟩ : Addr))) w1_1
def an37 : Ann := { cut := fun i => none, loop := fun i => [] }
theorem eq37 (x0 : Sl) (w : World) (Q : Value → World → Prop) : F37 x0 w Q = vc prog an37 (Try.f37.body.getD .skip) (envOf [.slice x0.a x0.l x0.c]) w (retK prog Try.f37 Q) := by kernel_rfl
theorem ok37 : codeOk Try.f37.ntmps (Try.f37.body.getD .skip) = true := by kernel_rfl
theorem W37 {x0 : Sl} {w : World} {Q : Value → World → Prop} (h : F37 x0 w Q) : Calls prog 37 #[.slice x0.a x0.l x0.c] w fun en w' => ∃ v, en = .returned v ∧ Q v w' :=
  calls_of_vc good follows an37 (args := [.slice x0.a x0.l x0.c]) Try.func37 (by kernel_rfl) ok37 (of_decide_eq_true (by kernel_rfl)) (Eq.mp (eq37 x0 w Q) h)

/-- (*bastion/code.spot).OK -/
def F77 (x0 : Option Addr) (w : World) (Q : Value → World → Prop) : Prop :=
 ∃ p4, x0 = some p4 ∧
 ∃ t6 : Int, Ld w.drew (p4.add 1) (.int .i64 t6) ∧
 ∃ p8, x0 = some p8 ∧
 ∃ t10 : ByteArray, Ld w.drew (p8.add 0) (.string t10) ∧
 Q (.bool (decide (t6 ≤ ((t10.size : Nat) : Int)))) w.drew
def an77 : Ann := { cut := fun i => none, loop := fun i => [] }
theorem eq77 (x0 : Option Addr) (w : World) (Q : Value → World → Prop) : F77 x0 w Q = vc prog an77 (Try.f77.body.getD .skip) (envOf [.pointer x0]) w (retK prog Try.f77 Q) := by kernel_rfl
theorem ok77 : codeOk Try.f77.ntmps (Try.f77.body.getD .skip) = true := by kernel_rfl
theorem W77 {x0 : Option Addr} {w : World} {Q : Value → World → Prop} (h : F77 x0 w Q) : Calls prog 77 #[.pointer x0] w fun en w' => ∃ v, en = .returned v ∧ Q v w' :=
  calls_of_vc good follows an77 (args := [.pointer x0]) Try.func77 (by kernel_rfl) ok77 (of_decide_eq_true (by kernel_rfl)) (Eq.mp (eq77 x0 w Q) h)

/-- (*bastion/code.Reader).OK -/
def F69 (x0 : Option Addr) (w : World) (Q : Value → World → Prop) : Prop :=
 ∃ b4 : Bool, BinIs prog .neq 60 (.tmp 3) (.const (.pointer none)) (.pointer x0) (.pointer none) b4 ∧
 IfB b4
 (∃ p7, x0 = some p7 ∧
 Calls prog 77 #[.pointer (some (p7.add 0))] w fun en w1 =>
 ∃ t9 : Bool, en = .returned (.bool t9) ∧
 Q (.bool t9) w1)
 (Q (.bool false) w)
def an69 : Ann := { cut := fun i => none, loop := fun i => [] }
theorem eq69 (x0 : Option Addr) (w : World) (Q : Value → World → Prop) : F69 x0 w Q = vc prog an69 (Try.f69.body.getD .skip) (envOf [.pointer x0]) w (retK prog Try.f69 Q) := by kernel_rfl
theorem ok69 : codeOk Try.f69.ntmps (Try.f69.body.getD .skip) = true := by kernel_rfl
theorem W69 {x0 : Option Addr} {w : World} {Q : Value → World → Prop} (h : F69 x0 w Q) : Calls prog 69 #[.pointer x0] w fun en w' => ∃ v, en = .returned v ∧ Q v w' :=
  calls_of_vc good follows an69 (args := [.pointer x0]) Try.func69 (by kernel_rfl) ok69 (of_decide_eq_true (by kernel_rfl)) (Eq.mp (eq69 x0 w Q) h)

/-- bastion/code.off[int] -/
def F51 (x0 : Option Addr) (x1 : Value) (w : World) (Q : Value → World → Prop) : Prop :=
 Calls prog 69 #[.pointer x0] w fun en w1 =>
 ∃ t9 : Bool, en = .returned (.bool t9) ∧
 IfB (!t9)
 (Q (.int .i64 0) w1)
 (∃ p15, x0 = some p15 ∧
 Calls prog 70 #[.pointer (some (p15.add 0))] w1 fun en w1_1 =>
 ∃ t17 : ByteArray, en = .returned (.string t17) ∧
 CallV prog x1 #[.string t17] w1_1 fun v18 w1_2 =>
 ∃ t18a : Int, ∃ t18b : Int, v18 = (.tuple #[.int .i64 t18a, .int .i64 t18b]) ∧
 IfB (t18b == (0 : Int))
 (∃ p25, x0 = some p25 ∧
 ∃ t28 : ByteArray, Ld w1_2 ((p25.add 0).add 0) (.string t28) ∧
 ∃ p31, x0 = some p31 ∧
 Wr w1_2 ((p31.add 0).add 1) ∧ ∀ w1_3, w1_3 = w1_2.setCell ((p31.add 0).add 1) (.int .i64 (IntKind.wrap .i64 (((t28.size : Nat) : Int) + (1 : Int)))) →
 Q (.int .i64 0) w1_3)
 (∃ p36, x0 = some p36 ∧
 ∃ t39 : Int, Ld w1_2 ((p36.add 0).add 1) (.int .i64 t39) ∧
 ∃ p42, x0 = some p42 ∧
 Wr w1_2 ((p42.add 0).add 1) ∧ ∀ w1_3, w1_3 = w1_2.setCell ((p42.add 0).add 1) (.int .i64 (IntKind.wrap .i64 (t39 + t18b))) →
 Q (.int .i64 t18a) w1_3))
def an51 : Ann := { cut := fun i => none, loop := fun i => [] }
theorem eq51 (x0 : Option Addr) (x1 : Value) (w : World) (Q : Value → World → Prop) : F51 x0 x1 w Q = vc prog an51 (Try.f51.body.getD .skip) (envOf [.pointer x0, x1]) w (retK prog Try.f51 Q) := by kernel_rfl
theorem ok51 : codeOk Try.f51.ntmps (Try.f51.body.getD .skip) = true := by kernel_rfl
theorem W51 {x0 : Option Addr} {x1 : Value} {w : World} {Q : Value → World → Prop} (h : F51 x0 x1 w Q) : Calls prog 51 #[.pointer x0, x1] w fun en w' => ∃ v, en = .returned v ∧ Q v w' :=
  calls_of_vc good follows an51 (args := [.pointer x0, x1]) Try.func51 (by kernel_rfl) ok51 (of_decide_eq_true (by kernel_rfl)) (Eq.mp (eq51 x0 x1 w Q) h)

/-- (*bastion/code.Reader).Count -/
def F38 (x0 : Option Addr) (x1 : Int) (w : World) (Q : Value → World → Prop) : Prop :=
 ∀ b3 w1, NewB w (.cells #[.int .i64 x1] 3) b3 w1 →
 Calls prog 51 #[.pointer x0, .func (.func 52) #[] #[.pointer (some (⟨b3, 0, none⟩ : Addr))]] w1 fun en w1_1 =>
 ∃ t7 : Int, en = .returned (.int .i64 t7) ∧
 Q (.int .i64 t7) w1_1
def an38 : Ann := { cut := fun i => none, loop := fun i => [] }
theorem eq38 (x0 : Option Addr) (x1 : Int) (w : World) (Q : Value → World → Prop) : F38 x0 x1 w Q = vc prog an38 (Try.f38.body.getD .skip) (envOf [.pointer x0, .int .i64 x1]) w (retK prog Try.f38 Q) := by kernel_rfl
theorem ok38 : codeOk Try.f38.ntmps (Try.f38.body.getD .skip) = true := by kernel_rfl
theorem W38 {x0 : Option Addr} {x1 : Int} {w : World} {Q : Value → World → Prop} (h : F38 x0 x1 w Q) : Calls prog 38 #[.pointer x0, .int .i64 x1] w fun en w' => ∃ v, en = .returned v ∧ Q v w' :=
  calls_of_vc good follows an38 (args := [.pointer x0, .int .i64 x1]) Try.func38 (by kernel_rfl) ok38 (of_decide_eq_true (by kernel_rfl)) (Eq.mp (eq38 x0 x1 w Q) h)

/-- bastion/code.off[string] -/
def F54 (x0 : Option Addr) (x1 : Value) (w : World) (Q : Value → World → Prop) : Prop :=
 Calls prog 69 #[.pointer x0] w fun en w1 =>
 ∃ t9 : Bool, en = .returned (.bool t9) ∧
 IfB (!t9)
 (Q (.string (⟨#[]⟩ : ByteArray)) w1)
 (∃ p15, x0 = some p15 ∧
 Calls prog 70 #[.pointer (some (p15.add 0))] w1 fun en w1_1 =>
 ∃ t17 : ByteArray, en = .returned (.string t17) ∧
 CallV prog x1 #[.string t17] w1_1 fun v18 w1_2 =>
 ∃ t18a : ByteArray, ∃ t18b : Int, v18 = (.tuple #[.string t18a, .int .i64 t18b]) ∧
 IfB (t18b == (0 : Int))
 (∃ p25, x0 = some p25 ∧
 ∃ t28 : ByteArray, Ld w1_2 ((p25.add 0).add 0) (.string t28) ∧
 ∃ p31, x0 = some p31 ∧
 Wr w1_2 ((p31.add 0).add 1) ∧ ∀ w1_3, w1_3 = w1_2.setCell ((p31.add 0).add 1) (.int .i64 (IntKind.wrap .i64 (((t28.size : Nat) : Int) + (1 : Int)))) →
 Q (.string (⟨#[]⟩ : ByteArray)) w1_3)
 (∃ p36, x0 = some p36 ∧
 ∃ t39 : Int, Ld w1_2 ((p36.add 0).add 1) (.int .i64 t39) ∧
 ∃ p42, x0 = some p42 ∧
 Wr w1_2 ((p42.add 0).add 1) ∧ ∀ w1_3, w1_3 = w1_2.setCell ((p42.add 0).add 1) (.int .i64 (IntKind.wrap .i64 (t39 + t18b))) →
 Q (.string t18a) w1_3))
def an54 : Ann := { cut := fun i => none, loop := fun i => [] }
theorem eq54 (x0 : Option Addr) (x1 : Value) (w : World) (Q : Value → World → Prop) : F54 x0 x1 w Q = vc prog an54 (Try.f54.body.getD .skip) (envOf [.pointer x0, x1]) w (retK prog Try.f54 Q) := by kernel_rfl
theorem ok54 : codeOk Try.f54.ntmps (Try.f54.body.getD .skip) = true := by kernel_rfl
theorem W54 {x0 : Option Addr} {x1 : Value} {w : World} {Q : Value → World → Prop} (h : F54 x0 x1 w Q) : Calls prog 54 #[.pointer x0, x1] w fun en w' => ∃ v, en = .returned v ∧ Q v w' :=
  calls_of_vc good follows an54 (args := [.pointer x0, x1]) Try.func54 (by kernel_rfl) ok54 (of_decide_eq_true (by kernel_rfl)) (Eq.mp (eq54 x0 x1 w Q) h)

/-- (*bastion/code.Reader).Str -/
def F39 (x0 : Option Addr) (x1 : Int) (w : World) (Q : Value → World → Prop) : Prop :=
 ∀ b3 w1, NewB w (.cells #[.int .i64 x1] 3) b3 w1 →
 Calls prog 54 #[.pointer x0, .func (.func 55) #[] #[.pointer (some (⟨b3, 0, none⟩ : Addr))]] w1 fun en w1_1 =>
 ∃ t7 : ByteArray, en = .returned (.string t7) ∧
 Q (.string t7) w1_1
def an39 : Ann := { cut := fun i => none, loop := fun i => [] }
theorem eq39 (x0 : Option Addr) (x1 : Int) (w : World) (Q : Value → World → Prop) : F39 x0 x1 w Q = vc prog an39 (Try.f39.body.getD .skip) (envOf [.pointer x0, .int .i64 x1]) w (retK prog Try.f39 Q) := by kernel_rfl
theorem ok39 : codeOk Try.f39.ntmps (Try.f39.body.getD .skip) = true := by kernel_rfl
theorem W39 {x0 : Option Addr} {x1 : Int} {w : World} {Q : Value → World → Prop} (h : F39 x0 x1 w Q) : Calls prog 39 #[.pointer x0, .int .i64 x1] w fun en w' => ∃ v, en = .returned v ∧ Q v w' :=
  calls_of_vc good follows an39 (args := [.pointer x0, .int .i64 x1]) Try.func39 (by kernel_rfl) ok39 (of_decide_eq_true (by kernel_rfl)) (Eq.mp (eq39 x0 x1 w Q) h)

/-- internal/stringslite.Clone -/
def F72 (x0 : ByteArray) (w : World) (Q : Value → World → Prop) : Prop :=
 IfB (((x0.size : Nat) : Int) == (0 : Int))
 (Q (.string (⟨#[]⟩ : ByteArray)) w)
 (RunT prog .slice (Instr.makeSlice 22 (.int .i64 ((x0.size : Nat) : Int)) (.int .i64 ((x0.size : Nat) : Int))) w fun (t9 : Sl) w1 =>
 RunT prog (.int .i64) (Builtin.copy_ #[22, 9] 3 #[.slice t9.a t9.l t9.c, .string x0]) w1 fun (t12 : Int) w1_1 =>
 ∃ p14, t9.a = some p14 ∧ 0 ≤ (0 : Int) ∧ (0 : Int) < ((t9.l : Nat) : Int) ∧
 RunT prog .str (Builtin.unsafeString_ #[103, 3] 9 #[.pointer (some (p14.add (0 * 1))), .int .i64 ((t9.l : Nat) : Int)]) w1_1 fun (t17 : ByteArray) w1_2 =>
 Q (.string t17) w1_2)
def an72 : Ann := { cut := fun i => none, loop := fun i => [] }
theorem eq72 (x0 : ByteArray) (w : World) (Q : Value → World → Prop) : F72 x0 w Q = vc prog an72 (Try.f72.body.getD .skip) (envOf [.string x0]) w (retK prog Try.f72 Q) := by kernel_rfl
theorem ok72 : codeOk Try.f72.ntmps (Try.f72.body.getD .skip) = true := by kernel_rfl
theorem W72 {x0 : ByteArray} {w : World} {Q : Value → World → Prop} (h : F72 x0 w Q) : Calls prog 72 #[.string x0] w fun en w' => ∃ v, en = .returned v ∧ Q v w' :=
  calls_of_vc good follows an72 (args := [.string x0]) Try.func72 (by kernel_rfl) ok72 (of_decide_eq_true (by kernel_rfl)) (Eq.mp (eq72 x0 w Q) h)

/-- strings.Clone -/
def F56 (x0 : ByteArray) (w : World) (Q : Value → World → Prop) : Prop :=
 Calls prog 72 #[.string x0] w fun en w1 =>
 ∃ t4 : ByteArray, en = .returned (.string t4) ∧
 Q (.string t4) w1
def an56 : Ann := { cut := fun i => none, loop := fun i => [] }
theorem eq56 (x0 : ByteArray) (w : World) (Q : Value → World → Prop) : F56 x0 w Q = vc prog an56 (Try.f56.body.getD .skip) (envOf [.string x0]) w (retK prog Try.f56 Q) := by kernel_rfl
theorem ok56 : codeOk Try.f56.ntmps (Try.f56.body.getD .skip) = true := by kernel_rfl
theorem W56 {x0 : ByteArray} {w : World} {Q : Value → World → Prop} (h : F56 x0 w Q) : Calls prog 56 #[.string x0] w fun en w' => ∃ v, en = .returned v ∧ Q v w' :=
  calls_of_vc good follows an56 (args := [.string x0]) Try.func56 (by kernel_rfl) ok56 (of_decide_eq_true (by kernel_rfl)) (Eq.mp (eq56 x0 w Q) h)

/-- (*bastion/logs.Log).keep -/
def F40 (x0 : Option Addr) (x1 : ByteArray) (w : World) (Q : Value → World → Prop) : Prop :=
 ∃ S : World → Prop, S w.drew ∧
 ∃ p6, x0 = some p6 ∧
 ∃ t8 : Sl, (∀ w', S w' → Ld w' (p6.add 0) (.slice t8.a t8.l t8.c)) ∧
 Calls prog 56 #[.string x1] w.drew fun en w1 =>
 ∃ t10 : ByteArray, en = .returned (.string t10) ∧
 S w1 ∧
 RunT prog .slice (Instr.buildSlice 31 1 #[(0, .string t10)]) w1 fun (t11 : Sl) w1_1 =>
 S w1_1 ∧
 RunT prog .slice (Builtin.append_ #[31, 31] 31 #[.slice t8.a t8.l t8.c, .slice t11.a t11.l t11.c]) w1_1 fun (t12 : Sl) w1_2 =>
 ∃ p13, x0 = some p13 ∧
 Wr w1_2 (p13.add 0) ∧ ∀ w1_3, w1_3 = w1_2.setCell (p13.add 0) (.slice t12.a t12.l t12.c) →
 ∃ p16, x0 = some p16 ∧
 ∃ t18 : Int, Ld w1_3 (p16.add 1) (.int .i64 t18) ∧
 ∃ p22, x0 = some p22 ∧
 Wr w1_3 (p22.add 1) ∧ ∀ w1_4, w1_4 = w1_3.setCell (p22.add 1) (.int .i64 (IntKind.wrap .i64 (t18 + ((x1.size : Nat) : Int)))) →
 Q (.tuple #[]) w1_4
def an40 : Ann := { cut := fun i => none, loop := fun i => [] }
theorem eq40 (x0 : Option Addr) (x1 : ByteArray) (w : World) (Q : Value → World → Prop) : F40 x0 x1 w Q = vc prog an40 (Try.f40.body.getD .skip) (envOf [.pointer x0, .string x1]) w (retK prog Try.f40 Q) := by kernel_rfl
theorem ok40 : codeOk Try.f40.ntmps (Try.f40.body.getD .skip) = true := by kernel_rfl
theorem W40 {x0 : Option Addr} {x1 : ByteArray} {w : World} {Q : Value → World → Prop} (h : F40 x0 x1 w Q) : Calls prog 40 #[.pointer x0, .string x1] w fun en w' => ∃ v, en = .returned v ∧ Q v w' :=
  calls_of_vc good follows an40 (args := [.pointer x0, .string x1]) Try.func40 (by kernel_rfl) ok40 (of_decide_eq_true (by kernel_rfl)) (Eq.mp (eq40 x0 x1 w Q) h)

/-- (*bastion/code.spot).Done -/
def F57 (x0 : Option Addr) (w : World) (Q : Value → World → Prop) : Prop :=
 ∃ p4, x0 = some p4 ∧
 ∃ t6 : Int, Ld w.drew (p4.add 1) (.int .i64 t6) ∧
 ∃ p8, x0 = some p8 ∧
 ∃ t10 : ByteArray, Ld w.drew (p8.add 0) (.string t10) ∧
 Q (.bool (t6 == ((t10.size : Nat) : Int))) w.drew
def an57 : Ann := { cut := fun i => none, loop := fun i => [] }
theorem eq57 (x0 : Option Addr) (w : World) (Q : Value → World → Prop) : F57 x0 w Q = vc prog an57 (Try.f57.body.getD .skip) (envOf [.pointer x0]) w (retK prog Try.f57 Q) := by kernel_rfl
theorem ok57 : codeOk Try.f57.ntmps (Try.f57.body.getD .skip) = true := by kernel_rfl
theorem W57 {x0 : Option Addr} {w : World} {Q : Value → World → Prop} (h : F57 x0 w Q) : Calls prog 57 #[.pointer x0] w fun en w' => ∃ v, en = .returned v ∧ Q v w' :=
  calls_of_vc good follows an57 (args := [.pointer x0]) Try.func57 (by kernel_rfl) ok57 (of_decide_eq_true (by kernel_rfl)) (Eq.mp (eq57 x0 w Q) h)

/-- (*bastion/code.Reader).Done -/
def F41 (x0 : Option Addr) (w : World) (Q : Value → World → Prop) : Prop :=
 ∃ b4 : Bool, BinIs prog .neq 60 (.tmp 3) (.const (.pointer none)) (.pointer x0) (.pointer none) b4 ∧
 IfB b4
 (∃ p7, x0 = some p7 ∧
 Calls prog 57 #[.pointer (some (p7.add 0))] w fun en w1 =>
 ∃ t9 : Bool, en = .returned (.bool t9) ∧
 Q (.bool t9) w1)
 (Q (.bool false) w)
def an41 : Ann := { cut := fun i => none, loop := fun i => [] }
theorem eq41 (x0 : Option Addr) (w : World) (Q : Value → World → Prop) : F41 x0 w Q = vc prog an41 (Try.f41.body.getD .skip) (envOf [.pointer x0]) w (retK prog Try.f41 Q) := by kernel_rfl
theorem ok41 : codeOk Try.f41.ntmps (Try.f41.body.getD .skip) = true := by kernel_rfl
theorem W41 {x0 : Option Addr} {w : World} {Q : Value → World → Prop} (h : F41 x0 w Q) : Calls prog 41 #[.pointer x0] w fun en w' => ∃ v, en = .returned v ∧ Q v w' :=
  calls_of_vc good follows an41 (args := [.pointer x0]) Try.func41 (by kernel_rfl) ok41 (of_decide_eq_true (by kernel_rfl)) (Eq.mp (eq41 x0 w Q) h)

/-- bastion/logs.Load -/
def F11 (x0 : Sl) (w : World) (Q : Value → World → Prop) : Prop :=
 Calls prog 37 #[.slice x0.a x0.l x0.c] w fun en w1 =>
 ∃ t8 : Option Addr, en = .returned (.pointer t8) ∧
 ∃ t9 : Array Value, BuildIs prog 63 #[] t9 ∧
 ∀ b10 w1_1, NewB w1 (.cells t9 63) b10 w1_1 →
 Calls prog 38 #[.pointer t8, .int .i64 64] w1_1 fun en w1_2 =>
 ∃ t12 : Int, en = .returned (.int .i64 t12) ∧
 ∃ (I : Nat → Int → World → Prop) (n0 : Nat), I n0 (0 : Int) w1_2 ∧
 ∀ (n : Nat) (u : Env) (x13 : Int) (w1_3 : World), I n x13 w1_3 →
 IfB (decide (x13 < t12))
 (Calls prog 39 #[.pointer t8, .int .i64 256] w1_3 fun en w1_4 =>
 ∃ t16 : ByteArray, en = .returned (.string t16) ∧
 IfB (t16.toList == (⟨#[]⟩ : ByteArray).toList)
 (Q (.tuple #[.pointer none, .int .i64 4]) w1_4)
 (Calls prog 40 #[.pointer (some (⟨b10, 0, none⟩ : Addr)), .string t16] w1_4 fun en w1_5 =>
 en = .returned (.tuple #[]) ∧
 ∃ n', n' < n ∧ I n' (IntKind.wrap .i64 (x13 + (1 : Int))) w1_5))
 (Calls prog 41 #[.pointer t8] w1_3 fun en w1_4 =>
 ∃ t24 : Bool, en = .returned (.bool t24) ∧
 IfB (!t24)
 (Q (.tuple #[.pointer none, .int .i64 4]) w1_4)
 (Q (.tuple #[.pointer (some (⟨b10, 0, none⟩ : Addr)), .int .i64 0]) w1_4))
def an11 : Ann := { cut := fun i => none, loop := fun i => bif Nat.beq i 4 then [(13, .int .i64)] else [] }
theorem eq11 (x0 : Sl) (w : World) (Q : Value → World → Prop) : F11 x0 w Q = vc prog an11 (Try.f11.body.getD .skip) (envOf [.slice x0.a x0.l x0.c]) w (retK prog Try.f11 Q) := by kernel_rfl
theorem ok11 : codeOk Try.f11.ntmps (Try.f11.body.getD .skip) = true := by kernel_rfl
theorem W11 {x0 : Sl} {w : World} {Q : Value → World → Prop} (h : F11 x0 w Q) : Calls prog 11 #[.slice x0.a x0.l x0.c] w fun en w' => ∃ v, en = .returned v ∧ Q v w' :=
  calls_of_vc good follows an11 (args := [.slice x0.a x0.l x0.c]) Try.func11 (by kernel_rfl) ok11 (of_decide_eq_true (by kernel_rfl)) (Eq.mp (eq11 x0 w Q) h)

/-- bastion/bastionref22.number -/
def F42 (x0 : Sl) (x1 : Int) (w : World) (Q : Value → World → Prop) : Prop :=
 IfB (decide (x1 ≥ ((x0.l : Nat) : Int)))
 (Q (.tuple #[.int .i64 0, .int .i64 0]) w)
 (∃ p12, x0.a = some p12 ∧ 0 ≤ x1 ∧ x1 < ((x0.l : Nat) : Int) ∧
 ∃ t13 : Int, Ld w (p12.add ((x1).toNat * 1)) (.int .u8 t13) ∧
 IfB (decide (t13 < (128 : Int)))
 (∃ p17, x0.a = some p17 ∧ 0 ≤ x1 ∧ x1 < ((x0.l : Nat) : Int) ∧
 ∃ t18 : Int, Ld w (p17.add ((x1).toNat * 1)) (.int .u8 t18) ∧
 Q (.tuple #[.int .i64 (IntKind.wrap .i64 t18), .int .i64 1]) w)
 (∃ J : Bool → World → Prop, (IfB (decide (IntKind.wrap .i64 (x1 + (1 : Int)) ≥ ((x0.l : Nat) : Int)))
 (J true w)
 (∃ p29, x0.a = some p29 ∧ 0 ≤ IntKind.wrap .i64 (x1 + (1 : Int)) ∧ IntKind.wrap .i64 (x1 + (1 : Int)) < ((x0.l : Nat) : Int) ∧
 ∃ t30 : Int, Ld w (p29.add ((IntKind.wrap .i64 (x1 + (1 : Int))).toNat * 1)) (.int .u8 t30) ∧
 IfB (t30 == (0 : Int))
 (J true w)
 (∃ p37, x0.a = some p37 ∧ 0 ≤ IntKind.wrap .i64 (x1 + (1 : Int)) ∧ IntKind.wrap .i64 (x1 + (1 : Int)) < ((x0.l : Nat) : Int) ∧
 ∃ t38 : Int, Ld w (p37.add ((IntKind.wrap .i64 (x1 + (1 : Int))).toNat * 1)) (.int .u8 t38) ∧
 J (decide (t38 ≥ (128 : Int))) w))) ∧
 (∀ (u : Env) (x40 : Bool) (w1 : World), J x40 w1 →
 IfB x40
 (Q (.tuple #[.int .i64 0, .int .i64 0]) w1)
 (∃ p43, x0.a = some p43 ∧ 0 ≤ x1 ∧ x1 < ((x0.l : Nat) : Int) ∧
 ∃ t44 : Int, Ld w1.drew (p43.add ((x1).toNat * 1)) (.int .u8 t44) ∧
 ∃ p50, x0.a = some p50 ∧ 0 ≤ IntKind.wrap .i64 (x1 + (1 : Int)) ∧ IntKind.wrap .i64 (x1 + (1 : Int)) < ((x0.l : Nat) : Int) ∧
 ∃ t51 : Int, Ld w1.drew (p50.add ((IntKind.wrap .i64 (x1 + (1 : Int))).toNat * 1)) (.int .u8 t51) ∧
 Q (.tuple #[.int .i64 (IntKind.wrap .i64 ((IntKind.wrap .i64 ((IntKind.wrap .i64 t44) - (128 : Int))) + (IntKind.wrap .i64 ((128 : Int) * (IntKind.wrap .i64 t51))))), .int .i64 2]) w1.drew))))
def an42 : Ann := { cut := fun i => bif Nat.beq i 6 then some [(40, .bool)] else none, loop := fun i => [] }
theorem eq42 (x0 : Sl) (x1 : Int) (w : World) (Q : Value → World → Prop) : F42 x0 x1 w Q = vc prog an42 (Try.f42.body.getD .skip) (envOf [.slice x0.a x0.l x0.c, .int .i64 x1]) w (retK prog Try.f42 Q) := by kernel_rfl
theorem ok42 : codeOk Try.f42.ntmps (Try.f42.body.getD .skip) = true := by kernel_rfl
theorem W42 {x0 : Sl} {x1 : Int} {w : World} {Q : Value → World → Prop} (h : F42 x0 x1 w Q) : Calls prog 42 #[.slice x0.a x0.l x0.c, .int .i64 x1] w fun en w' => ∃ v, en = .returned v ∧ Q v w' :=
  calls_of_vc good follows an42 (args := [.slice x0.a x0.l x0.c, .int .i64 x1]) Try.func42 (by kernel_rfl) ok42 (of_decide_eq_true (by kernel_rfl)) (Eq.mp (eq42 x0 x1 w Q) h)

/-- bastion/bastionref22.Load -/
def F12 (x0 : Sl) (w : World) (Q : Value → World → Prop) : Prop :=
 Calls prog 42 #[.slice x0.a x0.l x0.c, .int .i64 0] w fun en w1 =>
 ∃ t12a : Int, ∃ t12b : Int, en = .returned (.tuple #[.int .i64 t12a, .int .i64 t12b]) ∧
 ∃ J : Bool → World → Prop, (IfB (t12b == (0 : Int))
 (J true w1)
 (J (decide (t12a > (64 : Int))) w1)) ∧
 (∀ (u : Env) (x20 : Bool) (w1_1 : World), J x20 w1_1 →
 IfB x20
 (Q (.tuple #[.pointer none, .int .i64 4]) w1_1)
 (∃ t21 : Array Value, BuildIs prog 34 #[] t21 ∧
 ∀ b22 w1_2, NewB w1_1 (.cells t21 34) b22 w1_2 →
 ∃ (I : Nat → Int → Int → World → Prop) (n0 : Nat), I n0 t12b (0 : Int) w1_2 ∧
 ∀ (n : Nat) (u_1 : Env) (x5 : Int) (x7 : Int) (w1_3 : World), I n x5 x7 w1_3 →
 IfB (decide (x7 < t12a))
 (Calls prog 42 #[.slice x0.a x0.l x0.c, .int .i64 x5] w1_3 fun en w1_4 =>
 ∃ t31a : Int, ∃ t31b : Int, en = .returned (.tuple #[.int .i64 t31a, .int .i64 t31b]) ∧
 ∃ J_1 : Bool → World → Prop, (IfB (t31b == (0 : Int))
 (J_1 true w1_4)
 (IfB (decide (t31a < (1 : Int)))
 (J_1 true w1_4)
 (IfB (decide (t31a > (256 : Int)))
 (J_1 true w1_4)
 (J_1 (decide (t31a > IntKind.wrap .i64 ((IntKind.wrap .i64 (((x0.l : Nat) : Int) - x5)) - t31b))) w1_4)))) ∧
 (∀ (u_2 : Env) (x53 : Bool) (w1_5 : World), J_1 x53 w1_5 →
 IfB x53
 (Q (.tuple #[.pointer none, .int .i64 4]) w1_5)
 (∃ S : World → Prop, S w1_5.drew ∧
 ∃ p56, some (⟨b22, 0, none⟩ : Addr) = some p56 ∧
 ∃ t58 : Sl, (∀ w', S w' → Ld w' (p56.add 0) (.slice t58.a t58.l t58.c)) ∧
 (0 ≤ IntKind.wrap .i64 ((IntKind.wrap .i64 (x5 + t31b)) + t31a) ∧ IntKind.wrap .i64 ((IntKind.wrap .i64 (x5 + t31b)) + t31a) ≤ ((x0.c : Nat) : Int)) ∧
 (0 ≤ IntKind.wrap .i64 (x5 + t31b) ∧ IntKind.wrap .i64 (x5 + t31b) ≤ (((IntKind.wrap .i64 ((IntKind.wrap .i64 (x5 + t31b)) + t31a)).toNat : Nat) : Int)) ∧
 RunT prog .str (convert 22 9 (.slice (slA x0.a ((IntKind.wrap .i64 (x5 + t31b)).toNat) x0.c 1) ((IntKind.wrap .i64 ((IntKind.wrap .i64 (x5 + t31b)) + t31a)).toNat - ((IntKind.wrap .i64 (x5 + t31b)).toNat)) (x0.c - ((IntKind.wrap .i64 (x5 + t31b)).toNat)))) w1_5.drew fun (t69 : ByteArray) w1_6 =>
 S w1_6 ∧
 RunT prog .slice (Instr.buildSlice 31 1 #[(0, .string t69)]) w1_6 fun (t70 : Sl) w1_7 =>
 S w1_7 ∧
 RunT prog .slice (Builtin.append_ #[31, 31] 31 #[.slice t58.a t58.l t58.c, .slice t70.a t70.l t70.c]) w1_7 fun (t71 : Sl) w1_8 =>
 ∃ p72, some (⟨b22, 0, none⟩ : Addr) = some p72 ∧
 Wr w1_8 (p72.add 0) ∧ ∀ w1_9, w1_9 = w1_8.setCell (p72.add 0) (.slice t71.a t71.l t71.c) →
 ∃ n', n' < n ∧ I n' (IntKind.wrap .i64 ((IntKind.wrap .i64 (x5 + t31b)) + t31a)) (IntKind.wrap .i64 (x7 + (1 : Int))) w1_9)))
 (IfB (x5 != ((x0.l : Nat) : Int))
 (Q (.tuple #[.pointer none, .int .i64 4]) w1_3)
 (Q (.tuple #[.pointer (some (⟨b22, 0, none⟩ : Addr)), .int .i64 0]) w1_3))))
def an12 : Ann := { cut := fun i => bif Nat.beq i 3 then some [(20, .bool)] else bif Nat.beq i 10 then some [(53, .bool)] else none, loop := fun i => bif Nat.beq i 6 then [(5, .int .i64), (7, .int .i64)] else [] }
theorem eq12 (x0 : Sl) (w : World) (Q : Value → World → Prop) : F12 x0 w Q = vc prog an12 (Try.f12.body.getD .skip) (envOf [.slice x0.a x0.l x0.c]) w (retK prog Try.f12 Q) := by kernel_rfl
theorem ok12 : codeOk Try.f12.ntmps (Try.f12.body.getD .skip) = true := by kernel_rfl
theorem W12 {x0 : Sl} {w : World} {Q : Value → World → Prop} (h : F12 x0 w Q) : Calls prog 12 #[.slice x0.a x0.l x0.c] w fun en w' => ∃ v, en = .returned v ∧ Q v w' :=
  calls_of_vc good follows an12 (args := [.slice x0.a x0.l x0.c]) Try.func12 (by kernel_rfl) ok12 (of_decide_eq_true (by kernel_rfl)) (Eq.mp (eq12 x0 w Q) h)

/-- bastion/bastionref22.Texts -/
def F13 (x0 : Sl) (x1 : Sl) (w : World) (Q : Value → World → Prop) : Prop :=
 IfB (((x0.l : Nat) : Int) != ((x1.l : Nat) : Int))
 (Q (.bool false) w)
 (∃ (I : Nat → Int → World → Prop) (n0 : Nat), I n0 (0 : Int) w ∧
 ∀ (n : Nat) (u : Env) (x5 : Int) (w1 : World), I n x5 w1 →
 IfB (decide (x5 < ((x0.l : Nat) : Int)))
 (∃ p19, x0.a = some p19 ∧ 0 ≤ x5 ∧ x5 < ((x0.l : Nat) : Int) ∧
 ∃ t20 : ByteArray, Ld w1.drew (p19.add ((x5).toNat * 1)) (.string t20) ∧
 ∃ p23, x1.a = some p23 ∧ 0 ≤ x5 ∧ x5 < ((x1.l : Nat) : Int) ∧
 ∃ t24 : ByteArray, Ld w1.drew (p23.add ((x5).toNat * 1)) (.string t24) ∧
 IfB (!(t20.toList == t24.toList))
 (Q (.bool false) w1.drew)
 (∃ n', n' < n ∧ I n' (IntKind.wrap .i64 (x5 + (1 : Int))) w1.drew))
 (Q (.bool true) w1))
def an13 : Ann := { cut := fun i => none, loop := fun i => bif Nat.beq i 4 then [(5, .int .i64)] else [] }
theorem eq13 (x0 : Sl) (x1 : Sl) (w : World) (Q : Value → World → Prop) : F13 x0 x1 w Q = vc prog an13 (Try.f13.body.getD .skip) (envOf [.slice x0.a x0.l x0.c, .slice x1.a x1.l x1.c]) w (retK prog Try.f13 Q) := by kernel_rfl
theorem ok13 : codeOk Try.f13.ntmps (Try.f13.body.getD .skip) = true := by kernel_rfl
theorem W13 {x0 : Sl} {x1 : Sl} {w : World} {Q : Value → World → Prop} (h : F13 x0 x1 w Q) : Calls prog 13 #[.slice x0.a x0.l x0.c, .slice x1.a x1.l x1.c] w fun en w' => ∃ v, en = .returned v ∧ Q v w' :=
  calls_of_vc good follows an13 (args := [.slice x0.a x0.l x0.c, .slice x1.a x1.l x1.c]) Try.func13 (by kernel_rfl) ok13 (of_decide_eq_true (by kernel_rfl)) (Eq.mp (eq13 x0 x1 w Q) h)

/-- slices.Clone[[]string,string] -/
def F43 (x0 : Sl) (w : World) (Q : Value → World → Prop) : Prop :=
 ∃ b4 : Bool, BinIs prog .eql 31 (.tmp 3) (.const (.slice none 0 0)) (.slice x0.a x0.l x0.c) (.slice none 0 0) b4 ∧
 IfB b4
 (Q (.slice none 0 0) w)
 (RunT prog .slice (Instr.buildSlice 31 0 #[]) w fun (t5 : Sl) w1 =>
 RunT prog .slice (Builtin.append_ #[31, 31] 31 #[.slice t5.a t5.l t5.c, .slice x0.a x0.l x0.c]) w1 fun (t7 : Sl) w1_1 =>
 Q (.slice t7.a t7.l t7.c) w1_1)
def an43 : Ann := { cut := fun i => none, loop := fun i => [] }
theorem eq43 (x0 : Sl) (w : World) (Q : Value → World → Prop) : F43 x0 w Q = vc prog an43 (Try.f43.body.getD .skip) (envOf [.slice x0.a x0.l x0.c]) w (retK prog Try.f43 Q) := by kernel_rfl
theorem ok43 : codeOk Try.f43.ntmps (Try.f43.body.getD .skip) = true := by kernel_rfl
theorem W43 {x0 : Sl} {w : World} {Q : Value → World → Prop} (h : F43 x0 w Q) : Calls prog 43 #[.slice x0.a x0.l x0.c] w fun en w' => ∃ v, en = .returned v ∧ Q v w' :=
  calls_of_vc good follows an43 (args := [.slice x0.a x0.l x0.c]) Try.func43 (by kernel_rfl) ok43 (of_decide_eq_true (by kernel_rfl)) (Eq.mp (eq43 x0 w Q) h)

/-- (*bastion/logs.Log).rest -/
def F44 (x0 : Option Addr) (x1 : Int) (w : World) (Q : Value → World → Prop) : Prop :=
 ∃ b6 : Bool, BinIs prog .eql 23 (.tmp 5) (.const (.pointer none)) (.pointer x0) (.pointer none) b6 ∧
 IfB b6
 (Q (.slice none 0 0) w)
 (∃ p10, x0 = some p10 ∧
 ∃ t12 : Sl, Ld w (p10.add 0) (.slice t12.a t12.l t12.c) ∧
 IfB (decide (x1 ≥ ((t12.l : Nat) : Int)))
 (Q (.slice none 0 0) w)
 (∃ p17, x0 = some p17 ∧
 ∃ t19 : Sl, Ld w (p17.add 0) (.slice t19.a t19.l t19.c) ∧
 (0 ≤ (if (0 : Int) > x1 then (0 : Int) else x1) ∧ (if (0 : Int) > x1 then (0 : Int) else x1) ≤ ((t19.l : Nat) : Int)) ∧
 Q (.slice (slA t19.a (((if (0 : Int) > x1 then (0 : Int) else x1)).toNat) t19.c 1) (t19.l - (((if (0 : Int) > x1 then (0 : Int) else x1)).toNat)) (t19.c - (((if (0 : Int) > x1 then (0 : Int) else x1)).toNat))) w))
def an44 : Ann := { cut := fun i => none, loop := fun i => [] }
theorem eq44 (x0 : Option Addr) (x1 : Int) (w : World) (Q : Value → World → Prop) : F44 x0 x1 w Q = vc prog an44 (Try.f44.body.getD .skip) (envOf [.pointer x0, .int .i64 x1]) w (retK prog Try.f44 Q) := by kernel_rfl
theorem ok44 : codeOk Try.f44.ntmps (Try.f44.body.getD .skip) = true := by kernel_rfl
theorem W44 {x0 : Option Addr} {x1 : Int} {w : World} {Q : Value → World → Prop} (h : F44 x0 x1 w Q) : Calls prog 44 #[.pointer x0, .int .i64 x1] w fun en w' => ∃ v, en = .returned v ∧ Q v w' :=
  calls_of_vc good follows an44 (args := [.pointer x0, .int .i64 x1]) Try.func44 (by kernel_rfl) ok44 (of_decide_eq_true (by kernel_rfl)) (Eq.mp (eq44 x0 x1 w Q) h)

/-- (*bastion/logs.Log).From -/
def F14 (x0 : Option Addr) (x1 : Int) (w : World) (Q : Value → World → Prop) : Prop :=
 Calls prog 44 #[.pointer x0, .int .i64 x1] w fun en w1 =>
 ∃ t7 : Sl, en = .returned (.slice t7.a t7.l t7.c) ∧
 Calls prog 43 #[.slice t7.a t7.l t7.c] w1 fun en w1_1 =>
 ∃ t8 : Sl, en = .returned (.slice t8.a t8.l t8.c) ∧
 Q (.slice t8.a t8.l t8.c) w1_1
def an14 : Ann := { cut := fun i => none, loop := fun i => [] }
theorem eq14 (x0 : Option Addr) (x1 : Int) (w : World) (Q : Value → World → Prop) : F14 x0 x1 w Q = vc prog an14 (Try.f14.body.getD .skip) (envOf [.pointer x0, .int .i64 x1]) w (retK prog Try.f14 Q) := by kernel_rfl
theorem ok14 : codeOk Try.f14.ntmps (Try.f14.body.getD .skip) = true := by kernel_rfl
theorem W14 {x0 : Option Addr} {x1 : Int} {w : World} {Q : Value → World → Prop} (h : F14 x0 x1 w Q) : Calls prog 14 #[.pointer x0, .int .i64 x1] w fun en w' => ∃ v, en = .returned v ∧ Q v w' :=
  calls_of_vc good follows an14 (args := [.pointer x0, .int .i64 x1]) Try.func14 (by kernel_rfl) ok14 (of_decide_eq_true (by kernel_rfl)) (Eq.mp (eq14 x0 x1 w Q) h)

/-- (*bastion/logs.Log).Size -/
def F15 (x0 : Option Addr) (w : World) (Q : Value → World → Prop) : Prop :=
 ∃ b4 : Bool, BinIs prog .eql 23 (.tmp 3) (.const (.pointer none)) (.pointer x0) (.pointer none) b4 ∧
 IfB b4
 (Q (.int .i64 0) w)
 (∃ p6, x0 = some p6 ∧
 ∃ t8 : Int, Ld w (p6.add 1) (.int .i64 t8) ∧
 Q (.int .i64 t8) w)
def an15 : Ann := { cut := fun i => none, loop := fun i => [] }
theorem eq15 (x0 : Option Addr) (w : World) (Q : Value → World → Prop) : F15 x0 w Q = vc prog an15 (Try.f15.body.getD .skip) (envOf [.pointer x0]) w (retK prog Try.f15 Q) := by kernel_rfl
theorem ok15 : codeOk Try.f15.ntmps (Try.f15.body.getD .skip) = true := by kernel_rfl
theorem W15 {x0 : Option Addr} {w : World} {Q : Value → World → Prop} (h : F15 x0 w Q) : Calls prog 15 #[.pointer x0] w fun en w' => ∃ v, en = .returned v ∧ Q v w' :=
  calls_of_vc good follows an15 (args := [.pointer x0]) Try.func15 (by kernel_rfl) ok15 (of_decide_eq_true (by kernel_rfl)) (Eq.mp (eq15 x0 w Q) h)

/-- (*bastion/bastionref22.Log).Text -/
def F16 (x0 : Option Addr) (w : World) (Q : Value → World → Prop) : Prop :=
 ∃ (I : Nat → ByteArray → Int → World → Prop) (n0 : Nat), I n0 (⟨#[]⟩ : ByteArray) (0 : Int) w ∧
 ∀ (n : Nat) (u : Env) (x3 : ByteArray) (x4 : Int) (w1 : World), I n x3 x4 w1 →
 ∃ p7, x0 = some p7 ∧
 ∃ t9 : Sl, Ld w1 (p7.add 0) (.slice t9.a t9.l t9.c) ∧
 IfB (decide (x4 < ((t9.l : Nat) : Int)))
 (∃ p16, x0 = some p16 ∧
 ∃ t18 : Sl, Ld w1 (p16.add 0) (.slice t18.a t18.l t18.c) ∧
 ∃ p20, t18.a = some p20 ∧ 0 ≤ x4 ∧ x4 < ((t18.l : Nat) : Int) ∧
 ∃ t21 : ByteArray, Ld w1 (p20.add ((x4).toNat * 1)) (.string t21) ∧
 x3.size + t21.size ≤ 9223372036854775807 ∧
 ∃ n', n' < n ∧ I n' (x3 ++ t21) (IntKind.wrap .i64 (x4 + (1 : Int))) w1)
 (Q (.string x3) w1)
def an16 : Ann := { cut := fun i => none, loop := fun i => bif Nat.beq i 3 then [(3, .str), (4, .int .i64)] else [] }
theorem eq16 (x0 : Option Addr) (w : World) (Q : Value → World → Prop) : F16 x0 w Q = vc prog an16 (Try.f16.body.getD .skip) (envOf [.pointer x0]) w (retK prog Try.f16 Q) := by kernel_rfl
theorem ok16 : codeOk Try.f16.ntmps (Try.f16.body.getD .skip) = true := by kernel_rfl
theorem W16 {x0 : Option Addr} {w : World} {Q : Value → World → Prop} (h : F16 x0 w Q) : Calls prog 16 #[.pointer x0] w fun en w' => ∃ v, en = .returned v ∧ Q v w' :=
  calls_of_vc good follows an16 (args := [.pointer x0]) Try.func16 (by kernel_rfl) ok16 (of_decide_eq_true (by kernel_rfl)) (Eq.mp (eq16 x0 w Q) h)

/-- bastion/code.none -/
def F58 (x0 : Sl) (w : World) (Q : Value → World → Prop) : Prop :=
 RunT prog .slice (Instr.buildSlice 22 0 #[]) w fun (t3 : Sl) w1 =>
 RunT prog .slice (Builtin.append_ #[22, 22] 22 #[.slice t3.a t3.l t3.c, .slice x0.a x0.l x0.c]) w1 fun (t5 : Sl) w1_1 =>
 Q (.slice t5.a t5.l t5.c) w1_1
def an58 : Ann := { cut := fun i => none, loop := fun i => [] }
theorem eq58 (x0 : Sl) (w : World) (Q : Value → World → Prop) : F58 x0 w Q = vc prog an58 (Try.f58.body.getD .skip) (envOf [.slice x0.a x0.l x0.c]) w (retK prog Try.f58 Q) := by kernel_rfl
theorem ok58 : codeOk Try.f58.ntmps (Try.f58.body.getD .skip) = true := by kernel_rfl
theorem W58 {x0 : Sl} {w : World} {Q : Value → World → Prop} (h : F58 x0 w Q) : Calls prog 58 #[.slice x0.a x0.l x0.c] w fun en w' => ∃ v, en = .returned v ∧ Q v w' :=
  calls_of_vc good follows an58 (args := [.slice x0.a x0.l x0.c]) Try.func58 (by kernel_rfl) ok58 (of_decide_eq_true (by kernel_rfl)) (Eq.mp (eq58 x0 w Q) h)

/-- bastion/code.groups -/
def F73 (x0 : Int) (w : World) (Q : Value → World → Prop) : Prop :=
 Calls prog 78 #[.int .u64 x0] w fun en w1 =>
 ∃ t4 : Int, en = .returned (.int .i64 t4) ∧
 (7 : Int) ≠ 0 ∧
 Q (.int .i64 (if IntKind.wrap .i64 (Int.tdiv (IntKind.wrap .i64 ((IntKind.wrap .i64 (t4 + (7 : Int))) - (1 : Int))) (7 : Int)) > (1 : Int) then IntKind.wrap .i64 (Int.tdiv (IntKind.wrap .i64 ((IntKind.wrap .i64 (t4 + (7 : Int))) - (1 : Int))) (7 : Int)) else (1 : Int))) w1
def an73 : Ann := { cut := fun i => none, loop := fun i => [] }
theorem eq73 (x0 : Int) (w : World) (Q : Value → World → Prop) : F73 x0 w Q = vc prog an73 (Try.f73.body.getD .skip) (envOf [.int .u64 x0]) w (retK prog Try.f73 Q) := by kernel_rfl
theorem ok73 : codeOk Try.f73.ntmps (Try.f73.body.getD .skip) = true := by kernel_rfl
theorem W73 {x0 : Int} {w : World} {Q : Value → World → Prop} (h : F73 x0 w Q) : Calls prog 73 #[.int .u64 x0] w fun en w' => ∃ v, en = .returned v ∧ Q v w' :=
  calls_of_vc good follows an73 (args := [.int .u64 x0]) Try.func73 (by kernel_rfl) ok73 (of_decide_eq_true (by kernel_rfl)) (Eq.mp (eq73 x0 w Q) h)

/-- bastion/code.lay -/
def F59 (x0 : Sl) (x1 : Int) (x2 : ByteArray) (w : World) (Q : Value → World → Prop) : Prop :=
 Calls prog 73 #[.int .u64 x1] w fun en w1 =>
 ∃ t12 : Int, en = .returned (.int .i64 t12) ∧
 RunT prog .slice (Instr.makeSlice 22 (.int .i64 0) (.int .i64 (IntKind.wrap .i64 ((IntKind.wrap .i64 (((x0.l : Nat) : Int) + t12)) + ((x2.size : Nat) : Int))))) w1 fun (t20 : Sl) w1_1 =>
 RunT prog .slice (Builtin.append_ #[22, 22] 22 #[.slice t20.a t20.l t20.c, .slice x0.a x0.l x0.c]) w1_1 fun (t23 : Sl) w1_2 =>
 ∃ (I : Nat → Sl → Int → World → Prop) (n0 : Nat), I n0 t23 (0 : Int) w1_2 ∧
 ∀ (n : Nat) (u : Env) (x8 : Sl) (x25 : Int) (w1_3 : World), I n x8 x25 w1_3 →
 IfB (decide (x25 < t12))
 (0 ≤ IntKind.wrap .i64 ((7 : Int) * x25) ∧
 IfB (x25 == IntKind.wrap .i64 (t12 - (1 : Int)))
 (RunT prog .slice (Instr.buildSlice 22 1 #[(0, .int .u8 (bitsI .andNot .u8 (bitsI .or .u8 (IntKind.wrap .u8 (Int.fdiv x1 (2 ^ (min ((IntKind.wrap .i64 ((7 : Int) * x25)).toNat) 64)))) (128 : Int)) (128 : Int)))]) w1_3 fun (t42 : Sl) w1_4 =>
 RunT prog .slice (Builtin.append_ #[22, 22] 22 #[.slice x8.a x8.l x8.c, .slice t42.a t42.l t42.c]) w1_4 fun (t43 : Sl) w1_5 =>
 ∃ n', n' < n ∧ I n' t43 (IntKind.wrap .i64 (x25 + (1 : Int))) w1_5)
 (RunT prog .slice (Instr.buildSlice 22 1 #[(0, .int .u8 (bitsI .or .u8 (IntKind.wrap .u8 (Int.fdiv x1 (2 ^ (min ((IntKind.wrap .i64 ((7 : Int) * x25)).toNat) 64)))) (128 : Int)))]) w1_3 fun (t42 : Sl) w1_4 =>
 RunT prog .slice (Builtin.append_ #[22, 22] 22 #[.slice x8.a x8.l x8.c, .slice t42.a t42.l t42.c]) w1_4 fun (t43 : Sl) w1_5 =>
 ∃ n', n' < n ∧ I n' t43 (IntKind.wrap .i64 (x25 + (1 : Int))) w1_5))
 (RunT prog .slice (Builtin.append_ #[22, 9] 22 #[.slice x8.a x8.l x8.c, .string x2]) w1_3 fun (t47 : Sl) w1_4 =>
 Q (.slice t47.a t47.l t47.c) w1_4)
def an59 : Ann := { cut := fun i => none, loop := fun i => bif Nat.beq i 5 then [(8, .slice), (25, .int .i64)] else [] }
theorem eq59 (x0 : Sl) (x1 : Int) (x2 : ByteArray) (w : World) (Q : Value → World → Prop) : F59 x0 x1 x2 w Q = vc prog an59 (Try.f59.body.getD .skip) (envOf [.slice x0.a x0.l x0.c, .int .u64 x1, .string x2]) w (retK prog Try.f59 Q) := by kernel_rfl
theorem ok59 : codeOk Try.f59.ntmps (Try.f59.body.getD .skip) = true := by kernel_rfl
theorem W59 {x0 : Sl} {x1 : Int} {x2 : ByteArray} {w : World} {Q : Value → World → Prop} (h : F59 x0 x1 x2 w Q) : Calls prog 59 #[.slice x0.a x0.l x0.c, .int .u64 x1, .string x2] w fun en w' => ∃ v, en = .returned v ∧ Q v w' :=
  calls_of_vc good follows an59 (args := [.slice x0.a x0.l x0.c, .int .u64 x1, .string x2]) Try.func59 (by kernel_rfl) ok59 (of_decide_eq_true (by kernel_rfl)) (Eq.mp (eq59 x0 x1 x2 w Q) h)

/-- bastion/code.Count -/
def F45 (x0 : Sl) (x1 : Int) (w : World) (Q : Value → World → Prop) : Prop :=
 IfB (decide (x1 < (0 : Int)))
 (Calls prog 58 #[.slice x0.a x0.l x0.c] w fun en w1 =>
 ∃ t12 : Sl, en = .returned (.slice t12.a t12.l t12.c) ∧
 Q (.slice t12.a t12.l t12.c) w1)
 (IfB (decide (x1 > (2147483647 : Int)))
 (Calls prog 58 #[.slice x0.a x0.l x0.c] w fun en w1 =>
 ∃ t12 : Sl, en = .returned (.slice t12.a t12.l t12.c) ∧
 Q (.slice t12.a t12.l t12.c) w1)
 (Calls prog 59 #[.slice x0.a x0.l x0.c, .int .u64 (IntKind.wrap .u64 x1), .string (⟨#[]⟩ : ByteArray)] w fun en w1 =>
 ∃ t16 : Sl, en = .returned (.slice t16.a t16.l t16.c) ∧
 Q (.slice t16.a t16.l t16.c) w1))
def an45 : Ann := { cut := fun i => none, loop := fun i => [] }
theorem eq45 (x0 : Sl) (x1 : Int) (w : World) (Q : Value → World → Prop) : F45 x0 x1 w Q = vc prog an45 (Try.f45.body.getD .skip) (envOf [.slice x0.a x0.l x0.c, .int .i64 x1]) w (retK prog Try.f45 Q) := by kernel_rfl
theorem ok45 : codeOk Try.f45.ntmps (Try.f45.body.getD .skip) = true := by kernel_rfl
theorem W45 {x0 : Sl} {x1 : Int} {w : World} {Q : Value → World → Prop} (h : F45 x0 x1 w Q) : Calls prog 45 #[.slice x0.a x0.l x0.c, .int .i64 x1] w fun en w' => ∃ v, en = .returned v ∧ Q v w' :=
  calls_of_vc good follows an45 (args := [.slice x0.a x0.l x0.c, .int .i64 x1]) Try.func45 (by kernel_rfl) ok45 (of_decide_eq_true (by kernel_rfl)) (Eq.mp (eq45 x0 x1 w Q) h)

/-- bastion/code.Str -/
def F46 (x0 : Sl) (x1 : ByteArray) (w : World) (Q : Value → World → Prop) : Prop :=
 IfB (decide (((x1.size : Nat) : Int) > (2147483647 : Int)))
 (Calls prog 58 #[.slice x0.a x0.l x0.c] w fun en w1 =>
 ∃ t9 : Sl, en = .returned (.slice t9.a t9.l t9.c) ∧
 Q (.slice t9.a t9.l t9.c) w1)
 (Calls prog 59 #[.slice x0.a x0.l x0.c, .int .u64 (IntKind.wrap .u64 ((x1.size : Nat) : Int)), .string x1] w fun en w1 =>
 ∃ t15 : Sl, en = .returned (.slice t15.a t15.l t15.c) ∧
 Q (.slice t15.a t15.l t15.c) w1)
def an46 : Ann := { cut := fun i => none, loop := fun i => [] }
theorem eq46 (x0 : Sl) (x1 : ByteArray) (w : World) (Q : Value → World → Prop) : F46 x0 x1 w Q = vc prog an46 (Try.f46.body.getD .skip) (envOf [.slice x0.a x0.l x0.c, .string x1]) w (retK prog Try.f46 Q) := by kernel_rfl
theorem ok46 : codeOk Try.f46.ntmps (Try.f46.body.getD .skip) = true := by kernel_rfl
theorem W46 {x0 : Sl} {x1 : ByteArray} {w : World} {Q : Value → World → Prop} (h : F46 x0 x1 w Q) : Calls prog 46 #[.slice x0.a x0.l x0.c, .string x1] w fun en w' => ∃ v, en = .returned v ∧ Q v w' :=
  calls_of_vc good follows an46 (args := [.slice x0.a x0.l x0.c, .string x1]) Try.func46 (by kernel_rfl) ok46 (of_decide_eq_true (by kernel_rfl)) (Eq.mp (eq46 x0 x1 w Q) h)

/-- (*bastion/logs.Log).Save -/
def F17 (x0 : Option Addr) (w : World) (Q : Value → World → Prop) : Prop :=
 ∃ b7 : Bool, BinIs prog .eql 23 (.tmp 6) (.const (.pointer none)) (.pointer x0) (.pointer none) b7 ∧
 IfB b7
 (Q (.slice none 0 0) w)
 (∃ p9, x0 = some p9 ∧
 ∃ t11 : Sl, Ld w (p9.add 0) (.slice t11.a t11.l t11.c) ∧
 Calls prog 45 #[.slice none 0 0, .int .i64 ((t11.l : Nat) : Int)] w fun en w1 =>
 ∃ t13 : Sl, en = .returned (.slice t13.a t13.l t13.c) ∧
 ∃ p15, x0 = some p15 ∧
 ∃ t17 : Sl, Ld w1 (p15.add 0) (.slice t17.a t17.l t17.c) ∧
 ∃ (I : Nat → Sl → Int → World → Prop) (n0 : Nat), I n0 t13 (0 : Int) w1 ∧
 ∀ (n : Nat) (u : Env) (x3 : Sl) (x19 : Int) (w1_1 : World), I n x3 x19 w1_1 →
 IfB (decide (x19 < ((t17.l : Nat) : Int)))
 (∃ p21, t17.a = some p21 ∧ 0 ≤ x19 ∧ x19 < ((t17.l : Nat) : Int) ∧
 ∃ t22 : ByteArray, Ld w1_1 (p21.add ((x19).toNat * 1)) (.string t22) ∧
 Calls prog 46 #[.slice x3.a x3.l x3.c, .string t22] w1_1 fun en w1_2 =>
 ∃ t25 : Sl, en = .returned (.slice t25.a t25.l t25.c) ∧
 ∃ n', n' < n ∧ I n' t25 (IntKind.wrap .i64 (x19 + (1 : Int))) w1_2)
 (Q (.slice x3.a x3.l x3.c) w1_1))
def an17 : Ann := { cut := fun i => none, loop := fun i => bif Nat.beq i 5 then [(3, .slice), (19, .int .i64)] else [] }
theorem eq17 (x0 : Option Addr) (w : World) (Q : Value → World → Prop) : F17 x0 w Q = vc prog an17 (Try.f17.body.getD .skip) (envOf [.pointer x0]) w (retK prog Try.f17 Q) := by kernel_rfl
theorem ok17 : codeOk Try.f17.ntmps (Try.f17.body.getD .skip) = true := by kernel_rfl
theorem W17 {x0 : Option Addr} {w : World} {Q : Value → World → Prop} (h : F17 x0 w Q) : Calls prog 17 #[.pointer x0] w fun en w' => ∃ v, en = .returned v ∧ Q v w' :=
  calls_of_vc good follows an17 (args := [.pointer x0]) Try.func17 (by kernel_rfl) ok17 (of_decide_eq_true (by kernel_rfl)) (Eq.mp (eq17 x0 w Q) h)

/-- bastion/bastionlaw22.LogsLoads -/
def F3 (x0 : Sl) (w : World) (Q : Value → World → Prop) : Prop :=
 IfB (decide (((x0.l : Nat) : Int) > (20000 : Int)))
 (Q (.bool true) w)
 (RunT prog .slice (Instr.buildSlice 22 0 #[]) w fun (t12 : Sl) w1 =>
 RunT prog .slice (Builtin.append_ #[22, 22] 22 #[.slice t12.a t12.l t12.c, .slice x0.a x0.l x0.c]) w1 fun (t14 : Sl) w1_1 =>
 Calls prog 11 #[.slice t14.a t14.l t14.c] w1_1 fun en w1_2 =>
 ∃ t17a : Option Addr, ∃ t17b : Int, en = .returned (.tuple #[.pointer t17a, .int .i64 t17b]) ∧
 Calls prog 12 #[.slice x0.a x0.l x0.c] w1_2 fun en w1_3 =>
 ∃ t22a : Option Addr, ∃ t22b : Int, en = .returned (.tuple #[.pointer t22a, .int .i64 t22b]) ∧
 ∃ J : Bool → World → Prop, (IfB (t17b != t22b)
 (J true w1_3)
 (J (t22b != (0 : Int)) w1_3)) ∧
 (∀ (u : Env) (x31 : Bool) (w1_4 : World), J x31 w1_4 →
 IfB x31
 (IfB (t17b == t22b)
 (∃ b37 : Bool, BinIs prog .eql 23 (.tmp 36) (.const (.pointer none)) (.pointer t17a) (.pointer none) b37 ∧
 Q (.bool b37) w1_4)
 (Q (.bool false) w1_4))
 (∃ (I : Nat → Int → World → Prop) (n0 : Nat), I n0 (0 : Int) w1_4 ∧
 ∀ (n : Nat) (u_1 : Env) (x8 : Int) (w1_5 : World), I n x8 w1_5 →
 IfB (decide (x8 < ((t14.l : Nat) : Int)))
 (∃ p49, t14.a = some p49 ∧ 0 ≤ x8 ∧ x8 < ((t14.l : Nat) : Int) ∧
 ∃ t50 : Int, Ld w1_5 (p49.add ((x8).toNat * 1)) (.int .u8 t50) ∧
 ∃ p52, t14.a = some p52 ∧ 0 ≤ x8 ∧ x8 < ((t14.l : Nat) : Int) ∧
 Wr w1_5 (p52.add ((x8).toNat * 1)) ∧ ∀ w1_6, w1_6 = w1_5.setCell (p52.add ((x8).toNat * 1)) (.int .u8 (IntKind.wrap .u8 ((255 : Int) - t50))) →
 ∃ n', n' < n ∧ I n' (IntKind.wrap .i64 (x8 + (1 : Int))) w1_6)
 (∃ S : World → Prop, S w1_5.drew ∧
 ∃ p56, t22a = some p56 ∧
 ∃ t58 : Sl, (∀ w', S w' → Ld w' (p56.add 0) (.slice t58.a t58.l t58.c)) ∧
 Calls prog 14 #[.pointer t17a, .int .i64 0] w1_5.drew fun en w1_6 =>
 ∃ t54 : Sl, en = .returned (.slice t54.a t54.l t54.c) ∧
 S w1_6 ∧
 Calls prog 13 #[.slice t54.a t54.l t54.c, .slice t58.a t58.l t58.c] w1_6 fun en w1_7 =>
 ∃ t59 : Bool, en = .returned (.bool t59) ∧
 IfB t59
 (Calls prog 15 #[.pointer t17a] w1_7 fun en w1_8 =>
 ∃ t62 : Int, en = .returned (.int .i64 t62) ∧
 Calls prog 16 #[.pointer t22a] w1_8 fun en w1_9 =>
 ∃ t64 : ByteArray, en = .returned (.string t64) ∧
 IfB (t62 == ((t64.size : Nat) : Int))
 ((Calls prog 17 #[.pointer t17a] w1_9 fun en w1_10 =>
 ∃ t70 : Sl, en = .returned (.slice t70.a t70.l t70.c) ∧
 (RunT prog .str (convert 22 9 (.slice t70.a t70.l t70.c)) w1_10 fun (t71 : ByteArray) w1_11 =>
 RunT prog .str (convert 22 9 (.slice x0.a x0.l x0.c)) w1_11 fun (t73 : ByteArray) w1_12 =>
 Q (.bool (t71.toList == t73.toList)) w1_12) ∧
 (RunT prog .str (convert 22 9 (.slice x0.a x0.l x0.c)) w1_10 fun (t73 : ByteArray) w1_11 =>
 RunT prog .str (convert 22 9 (.slice t70.a t70.l t70.c)) w1_11 fun (t71 : ByteArray) w1_12 =>
 Q (.bool (t71.toList == t73.toList)) w1_12)) ∧
 (RunT prog .str (convert 22 9 (.slice x0.a x0.l x0.c)) w1_9 fun (t73 : ByteArray) w1_10 =>
 Calls prog 17 #[.pointer t17a] w1_10 fun en w1_11 =>
 ∃ t70 : Sl, en = .returned (.slice t70.a t70.l t70.c) ∧
 RunT prog .str (convert 22 9 (.slice t70.a t70.l t70.c)) w1_11 fun (t71 : ByteArray) w1_12 =>
 Q (.bool (t71.toList == t73.toList)) w1_12))
 (((Q (.bool false) w1_9) ∧
 (Q (.bool false) w1_9)) ∧
 (Q (.bool false) w1_9)))
 (((Q (.bool false) w1_7) ∧
 (Q (.bool false) w1_7)) ∧
 (Q (.bool false) w1_7))))))
def an3 : Ann := { cut := fun i => bif Nat.beq i 7 then some [(31, .bool)] else none, loop := fun i => bif Nat.beq i 9 then [(8, .int .i64)] else [] }
theorem eq3 (x0 : Sl) (w : World) (Q : Value → World → Prop) : F3 x0 w Q = vc prog an3 (Try.f3.body.getD .skip) (envOf [.slice x0.a x0.l x0.c]) w (retK prog Try.f3 Q) := by kernel_rfl
theorem ok3 : codeOk Try.f3.ntmps (Try.f3.body.getD .skip) = true := by kernel_rfl
theorem W3 {x0 : Sl} {w : World} {Q : Value → World → Prop} (h : F3 x0 w Q) : Calls prog 3 #[.slice x0.a x0.l x0.c] w fun en w' => ∃ v, en = .returned v ∧ Q v w' :=
  calls_of_vc good follows an3 (args := [.slice x0.a x0.l x0.c]) Try.func3 (by kernel_rfl) ok3 (of_decide_eq_true (by kernel_rfl)) (Eq.mp (eq3 x0 w Q) h)

/-- bastion/bastionlaw22.pieces -/
def F18 (x0 : Sl) (w : World) (Q : Value → World → Prop) : Prop :=
 ∃ (I : Nat → Sl → Int → World → Prop) (n0 : Nat), I n0 (⟨none, 0, 0⟩ : Sl) (0 : Int) w ∧
 ∀ (n : Nat) (u : Env) (x3 : Sl) (x4 : Int) (w1 : World), I n x3 x4 w1 →
 ∃ J : World → Prop, (IfB (decide (x4 < ((x0.l : Nat) : Int)))
 (IfB (decide (((x3.l : Nat) : Int) < (64 : Int)))
 (J  w1)
 (Q (.slice x3.a x3.l x3.c) w1))
 (Q (.slice x3.a x3.l x3.c) w1)) ∧
 (∀ (u_1 : Env) (w1_1 : World), J  w1_1 →
 ∃ p18, x0.a = some p18 ∧ 0 ≤ x4 ∧ x4 < ((x0.l : Nat) : Int) ∧
 ∃ t19 : ByteArray, Ld w1_1 (p18.add ((x4).toNat * 1)) (.string t19) ∧
 IfB (decide (((t19.size : Nat) : Int) > (0 : Int)))
 (∃ p25, x0.a = some p25 ∧ 0 ≤ x4 ∧ x4 < ((x0.l : Nat) : Int) ∧
 ∃ t26 : ByteArray, Ld w1_1 (p25.add ((x4).toNat * 1)) (.string t26) ∧
 IfB (decide (((t26.size : Nat) : Int) ≤ (256 : Int)))
 (∃ p33, x0.a = some p33 ∧ 0 ≤ x4 ∧ x4 < ((x0.l : Nat) : Int) ∧
 ∃ t34 : ByteArray, Ld w1_1 (p33.add ((x4).toNat * 1)) (.string t34) ∧
 RunT prog .slice (Instr.buildSlice 31 1 #[(0, .string t34)]) w1_1 fun (t35 : Sl) w1_2 =>
 RunT prog .slice (Builtin.append_ #[31, 31] 31 #[.slice x3.a x3.l x3.c, .slice t35.a t35.l t35.c]) w1_2 fun (t36 : Sl) w1_3 =>
 ∃ n', n' < n ∧ I n' t36 (IntKind.wrap .i64 (x4 + (1 : Int))) w1_3)
 (∃ n', n' < n ∧ I n' x3 (IntKind.wrap .i64 (x4 + (1 : Int))) w1_1))
 (∃ n', n' < n ∧ I n' x3 (IntKind.wrap .i64 (x4 + (1 : Int))) w1_1))
def an18 : Ann := { cut := fun i => bif Nat.beq i 5 then some [] else none, loop := fun i => bif Nat.beq i 3 then [(3, .slice), (4, .int .i64)] else [] }
theorem eq18 (x0 : Sl) (w : World) (Q : Value → World → Prop) : F18 x0 w Q = vc prog an18 (Try.f18.body.getD .skip) (envOf [.slice x0.a x0.l x0.c]) w (retK prog Try.f18 Q) := by kernel_rfl
theorem ok18 : codeOk Try.f18.ntmps (Try.f18.body.getD .skip) = true := by kernel_rfl
theorem W18 {x0 : Sl} {w : World} {Q : Value → World → Prop} (h : F18 x0 w Q) : Calls prog 18 #[.slice x0.a x0.l x0.c] w fun en w' => ∃ v, en = .returned v ∧ Q v w' :=
  calls_of_vc good follows an18 (args := [.slice x0.a x0.l x0.c]) Try.func18 (by kernel_rfl) ok18 (of_decide_eq_true (by kernel_rfl)) (Eq.mp (eq18 x0 w Q) h)

/-- bastion/logs.New -/
def F20 (w : World) (Q : Value → World → Prop) : Prop :=
 ∃ t1 : Array Value, BuildIs prog 63 #[] t1 ∧
 ∀ b2 w1, NewB w (.cells t1 63) b2 w1 →
 Q (.pointer (some (⟨b2, 0, none⟩ : Addr))) w1
def an20 : Ann := { cut := fun i => none, loop := fun i => [] }
theorem eq20 (w : World) (Q : Value → World → Prop) : F20  w Q = vc prog an20 (Try.f20.body.getD .skip) (envOf []) w (retK prog Try.f20 Q) := by kernel_rfl
theorem ok20 : codeOk Try.f20.ntmps (Try.f20.body.getD .skip) = true := by kernel_rfl
theorem W20 {w : World} {Q : Value → World → Prop} (h : F20  w Q) : Calls prog 20 #[] w fun en w' => ∃ v, en = .returned v ∧ Q v w' :=
  calls_of_vc good follows an20 (args := []) Try.func20 (by kernel_rfl) ok20 (of_decide_eq_true (by kernel_rfl)) (Eq.mp (eq20  w Q) h)

/-- (*bastion/logs.Log).Add -/
def F21 (x0 : Option Addr) (x1 : Int) (x2 : ByteArray) (w : World) (Q : Value → World → Prop) : Prop :=
 ∃ b10 : Bool, BinIs prog .eql 23 (.tmp 9) (.const (.pointer none)) (.pointer x0) (.pointer none) b10 ∧
 IfB b10
 (Q (.tuple #[.bool false, .int .i64 2]) w)
 (∃ J : Bool → World → Prop, (IfB (decide (x1 < (0 : Int)))
 (J true w)
 (J (x2.toList == (⟨#[]⟩ : ByteArray).toList) w)) ∧
 (∀ (u : Env) (x11 : Bool) (w1 : World), J x11 w1 →
 IfB x11
 (Q (.tuple #[.bool false, .int .i64 1]) w1)
 (IfB (decide (((x2.size : Nat) : Int) > (256 : Int)))
 (Q (.tuple #[.bool false, .int .i64 40]) w1)
 (∃ p25, x0 = some p25 ∧
 ∃ t27 : Sl, Ld w1 (p25.add 0) (.slice t27.a t27.l t27.c) ∧
 IfB (decide (x1 < ((t27.l : Nat) : Int)))
 (∃ p32, x0 = some p32 ∧
 ∃ t34 : Sl, Ld w1 (p32.add 0) (.slice t34.a t34.l t34.c) ∧
 ∃ p36, t34.a = some p36 ∧ 0 ≤ x1 ∧ x1 < ((t34.l : Nat) : Int) ∧
 ∃ t37 : ByteArray, Ld w1 (p36.add ((x1).toNat * 1)) (.string t37) ∧
 IfB (!(t37.toList == x2.toList))
 (Q (.tuple #[.bool false, .int .i64 6]) w1)
 (∃ p44, x0 = some p44 ∧
 ∃ t46 : Sl, Ld w1 (p44.add 0) (.slice t46.a t46.l t46.c) ∧
 IfB (decide (x1 < ((t46.l : Nat) : Int)))
 (Q (.tuple #[.bool false, .int .i64 0]) w1)
 (IfB (decide (x1 ≥ (64 : Int)))
 (Q (.tuple #[.bool false, .int .i64 3]) w1)
 (∃ p55, x0 = some p55 ∧
 ∃ t57 : Sl, Ld w1 (p55.add 0) (.slice t57.a t57.l t57.c) ∧
 IfB (decide (x1 > ((t57.l : Nat) : Int)))
 (Q (.tuple #[.bool false, .int .i64 50]) w1)
 (Calls prog 40 #[.pointer x0, .string x2] w1 fun en w1_1 =>
 en = .returned (.tuple #[]) ∧
 Q (.tuple #[.bool true, .int .i64 0]) w1_1)))))
 (∃ p44, x0 = some p44 ∧
 ∃ t46 : Sl, Ld w1 (p44.add 0) (.slice t46.a t46.l t46.c) ∧
 IfB (decide (x1 < ((t46.l : Nat) : Int)))
 (Q (.tuple #[.bool false, .int .i64 0]) w1)
 (IfB (decide (x1 ≥ (64 : Int)))
 (Q (.tuple #[.bool false, .int .i64 3]) w1)
 (∃ p55, x0 = some p55 ∧
 ∃ t57 : Sl, Ld w1 (p55.add 0) (.slice t57.a t57.l t57.c) ∧
 IfB (decide (x1 > ((t57.l : Nat) : Int)))
 (Q (.tuple #[.bool false, .int .i64 50]) w1)
 (Calls prog 40 #[.pointer x0, .string x2] w1 fun en w1_1 =>
 en = .returned (.tuple #[]) ∧
 Q (.tuple #[.bool true, .int .i64 0]) w1_1))))))))
def an21 : Ann := { cut := fun i => bif Nat.beq i 4 then some [(11, .bool)] else none, loop := fun i => [] }
theorem eq21 (x0 : Option Addr) (x1 : Int) (x2 : ByteArray) (w : World) (Q : Value → World → Prop) : F21 x0 x1 x2 w Q = vc prog an21 (Try.f21.body.getD .skip) (envOf [.pointer x0, .int .i64 x1, .string x2]) w (retK prog Try.f21 Q) := by kernel_rfl
theorem ok21 : codeOk Try.f21.ntmps (Try.f21.body.getD .skip) = true := by kernel_rfl
theorem W21 {x0 : Option Addr} {x1 : Int} {x2 : ByteArray} {w : World} {Q : Value → World → Prop} (h : F21 x0 x1 x2 w Q) : Calls prog 21 #[.pointer x0, .int .i64 x1, .string x2] w fun en w' => ∃ v, en = .returned v ∧ Q v w' :=
  calls_of_vc good follows an21 (args := [.pointer x0, .int .i64 x1, .string x2]) Try.func21 (by kernel_rfl) ok21 (of_decide_eq_true (by kernel_rfl)) (Eq.mp (eq21 x0 x1 x2 w Q) h)

/-- (*bastion/logs.Log).lines -/
def F47 (x0 : Option Addr) (w : World) (Q : Value → World → Prop) : Prop :=
 ∀ b1 w1, NewB w (.cells #[.pointer x0] 23) b1 w1 →
 Q (.func (.func 60) #[] #[.pointer (some (⟨b1, 0, none⟩ : Addr))]) w1
def an47 : Ann := { cut := fun i => none, loop := fun i => [] }
theorem eq47 (x0 : Option Addr) (w : World) (Q : Value → World → Prop) : F47 x0 w Q = vc prog an47 (Try.f47.body.getD .skip) (envOf [.pointer x0]) w (retK prog Try.f47 Q) := by kernel_rfl
theorem ok47 : codeOk Try.f47.ntmps (Try.f47.body.getD .skip) = true := by kernel_rfl
theorem W47 {x0 : Option Addr} {w : World} {Q : Value → World → Prop} (h : F47 x0 w Q) : Calls prog 47 #[.pointer x0] w fun en w' => ∃ v, en = .returned v ∧ Q v w' :=
  calls_of_vc good follows an47 (args := [.pointer x0]) Try.func47 (by kernel_rfl) ok47 (of_decide_eq_true (by kernel_rfl)) (Eq.mp (eq47 x0 w Q) h)

/-- (*strings.Builder).WriteString -/
def F62 (x0 : Option Addr) (x1 : ByteArray) (w : World) (Q : Value → World → Prop) : Prop :=
 Calls prog 75 #[.pointer x0] w fun en w1 =>
 en = .returned (.tuple #[]) ∧
 ∃ p10, x0 = some p10 ∧
 ∃ t12 : Sl, Ld w1 (p10.add 1) (.slice t12.a t12.l t12.c) ∧
 RunT prog .slice (Builtin.append_ #[22, 9] 22 #[.slice t12.a t12.l t12.c, .string x1]) w1 fun (t14 : Sl) w1_1 =>
 ∃ p15, x0 = some p15 ∧
 Wr w1_1 (p15.add 1) ∧ ∀ w1_2, w1_2 = w1_1.setCell (p15.add 1) (.slice t14.a t14.l t14.c) →
 Q (.tuple #[.int .i64 ((x1.size : Nat) : Int), .nilIface]) w1_2
def an62 : Ann := { cut := fun i => none, loop := fun i => [] }
theorem eq62 (x0 : Option Addr) (x1 : ByteArray) (w : World) (Q : Value → World → Prop) : F62 x0 x1 w Q = vc prog an62 (Try.f62.body.getD .skip) (envOf [.pointer x0, .string x1]) w (retK prog Try.f62 Q) := by kernel_rfl
theorem ok62 : codeOk Try.f62.ntmps (Try.f62.body.getD .skip) = true := by kernel_rfl
theorem W62 {x0 : Option Addr} {x1 : ByteArray} {w : World} {Q : Value → World → Prop} (h : F62 x0 x1 w Q) : Calls prog 62 #[.pointer x0, .string x1] w fun en w' => ∃ v, en = .returned v ∧ Q v w' :=
  calls_of_vc good follows an62 (args := [.pointer x0, .string x1]) Try.func62 (by kernel_rfl) ok62 (of_decide_eq_true (by kernel_rfl)) (Eq.mp (eq62 x0 x1 w Q) h)

/-- (*strings.Builder).String -/
def F63 (x0 : Option Addr) (w : World) (Q : Value → World → Prop) : Prop :=
 ∃ S : World → Prop, S w.drew ∧
 ∃ p4, x0 = some p4 ∧
 ∃ t6 : Sl, (∀ w', S w' → Ld w' (p4.add 1) (.slice t6.a t6.l t6.c)) ∧
 ∃ p9, x0 = some p9 ∧
 ∃ t11 : Sl, (∀ w', S w' → Ld w' (p9.add 1) (.slice t11.a t11.l t11.c)) ∧
 RunT prog .ptr (Builtin.unsafeSliceData_ #[22] 103 #[.slice t6.a t6.l t6.c]) w.drew fun (t7 : Option Addr) w1 =>
 S w1 ∧
 RunT prog .str (Builtin.unsafeString_ #[103, 3] 9 #[.pointer t7, .int .i64 ((t11.l : Nat) : Int)]) w1 fun (t13 : ByteArray) w1_1 =>
 Q (.string t13) w1_1
def an63 : Ann := { cut := fun i => none, loop := fun i => [] }
theorem eq63 (x0 : Option Addr) (w : World) (Q : Value → World → Prop) : F63 x0 w Q = vc prog an63 (Try.f63.body.getD .skip) (envOf [.pointer x0]) w (retK prog Try.f63 Q) := by kernel_rfl
theorem ok63 : codeOk Try.f63.ntmps (Try.f63.body.getD .skip) = true := by kernel_rfl
theorem W63 {x0 : Option Addr} {w : World} {Q : Value → World → Prop} (h : F63 x0 w Q) : Calls prog 63 #[.pointer x0] w fun en w' => ∃ v, en = .returned v ∧ Q v w' :=
  calls_of_vc good follows an63 (args := [.pointer x0]) Try.func63 (by kernel_rfl) ok63 (of_decide_eq_true (by kernel_rfl)) (Eq.mp (eq63 x0 w Q) h)

/-- (*strings.Builder).Grow -/
def F66 (x0 : Option Addr) (x1 : Int) (w : World) (Q : Value → World → Prop) : Prop :=
 Calls prog 75 #[.pointer x0] w fun en w1 =>
 en = .returned (.tuple #[]) ∧
 IfB (decide (x1 < (0 : Int)))
 (RunT prog .val (Instr.makeInterface 9 (.string (⟨#[115, 116, 114, 105, 110, 103, 115, 46, 66, 117, 105, 108, 100, 101, 114, 46, 71, 114, 111, 119, 58, 32, 110, 101, 103, 97, 116, 105, 118, 101, 32, 99, 111, 117, 110, 116]⟩ : ByteArray))) w1 fun (t8 : Value) w1_1 =>
 False)
 (∃ S : World → Prop, S w1.drew ∧
 ∃ p10, x0 = some p10 ∧
 ∃ t12 : Sl, (∀ w', S w' → Ld w' (p10.add 1) (.slice t12.a t12.l t12.c)) ∧
 ∃ p15, x0 = some p15 ∧
 ∃ t17 : Sl, (∀ w', S w' → Ld w' (p15.add 1) (.slice t17.a t17.l t17.c)) ∧
 RunT prog (.int .i64) (Builtin.cap_ #[22] 3 #[.slice t12.a t12.l t12.c]) w1.drew fun (t13 : Int) w1_1 =>
 S w1_1 ∧
 IfB (decide (IntKind.wrap .i64 (t13 - ((t17.l : Nat) : Int)) < x1))
 (Calls prog 76 #[.pointer x0, .int .i64 x1] w1_1 fun en w1_2 =>
 en = .returned (.tuple #[]) ∧
 Q (.tuple #[]) w1_2)
 (Q (.tuple #[]) w1_1))
def an66 : Ann := { cut := fun i => none, loop := fun i => [] }
theorem eq66 (x0 : Option Addr) (x1 : Int) (w : World) (Q : Value → World → Prop) : F66 x0 x1 w Q = vc prog an66 (Try.f66.body.getD .skip) (envOf [.pointer x0, .int .i64 x1]) w (retK prog Try.f66 Q) := by kernel_rfl
theorem ok66 : codeOk Try.f66.ntmps (Try.f66.body.getD .skip) = true := by kernel_rfl
theorem W66 {x0 : Option Addr} {x1 : Int} {w : World} {Q : Value → World → Prop} (h : F66 x0 x1 w Q) : Calls prog 66 #[.pointer x0, .int .i64 x1] w fun en w' => ∃ v, en = .returned v ∧ Q v w' :=
  calls_of_vc good follows an66 (args := [.pointer x0, .int .i64 x1]) Try.func66 (by kernel_rfl) ok66 (of_decide_eq_true (by kernel_rfl)) (Eq.mp (eq66 x0 x1 w Q) h)

/-- strings.Join -/
def F48 (x0 : Sl) (x1 : ByteArray) (w : World) (Q : Value → World → Prop) : Prop :=
 IfB (((x0.l : Nat) : Int) == (0 : Int))
 (Q (.string (⟨#[]⟩ : ByteArray)) w)
 (IfB (((x0.l : Nat) : Int) == (1 : Int))
 (∃ p18, x0.a = some p18 ∧ 0 ≤ (0 : Int) ∧ (0 : Int) < ((x0.l : Nat) : Int) ∧
 ∃ t19 : ByteArray, Ld w (p18.add (0 * 1)) (.string t19) ∧
 Q (.string t19) w)
 (∃ J : Int → World → Prop, (IfB (decide (((x1.size : Nat) : Int) > (0 : Int)))
 (∃ J_1 : World → Prop, (IntKind.wrap .i64 (((x0.l : Nat) : Int) - (1 : Int)) ≠ 0 ∧
 IfB (decide (((x1.size : Nat) : Int) ≥ IntKind.wrap .i64 (Int.tdiv (9223372036854775807 : Int) (IntKind.wrap .i64 (((x0.l : Nat) : Int) - (1 : Int))))))
 (RunT prog .val (Instr.makeInterface 9 (.string (⟨#[115, 116, 114, 105, 110, 103, 115, 58, 32, 74, 111, 105, 110, 32, 111, 117, 116, 112, 117, 116, 32, 108, 101, 110, 103, 116, 104, 32, 111, 118, 101, 114, 102, 108, 111, 119]⟩ : ByteArray))) w fun (t30 : Value) w1 =>
 False)
 (J_1  w)) ∧
 (∀ (u : Env) (w1 : World), J_1  w1 →
 J (IntKind.wrap .i64 ((0 : Int) + (IntKind.wrap .i64 (((x1.size : Nat) : Int) * (IntKind.wrap .i64 (((x0.l : Nat) : Int) - (1 : Int))))))) w1))
 (J (0 : Int) w)) ∧
 (∀ (u : Env) (x5 : Int) (w1 : World), J x5 w1 →
 ∃ (I : Nat → Int → Int → World → Prop) (n0 : Nat), I n0 x5 (0 : Int) w1 ∧
 ∀ (n : Nat) (u_1 : Env) (x5_1 : Int) (x41 : Int) (w1_1 : World), I n x5_1 x41 w1_1 →
 IfB (decide (x41 < ((x0.l : Nat) : Int)))
 (∃ p43, x0.a = some p43 ∧ 0 ≤ x41 ∧ x41 < ((x0.l : Nat) : Int) ∧
 ∃ t44 : ByteArray, Ld w1_1 (p43.add ((x41).toNat * 1)) (.string t44) ∧
 IfB (decide (((t44.size : Nat) : Int) > IntKind.wrap .i64 ((9223372036854775807 : Int) - x5_1)))
 (RunT prog .val (Instr.makeInterface 9 (.string (⟨#[115, 116, 114, 105, 110, 103, 115, 58, 32, 74, 111, 105, 110, 32, 111, 117, 116, 112, 117, 116, 32, 108, 101, 110, 103, 116, 104, 32, 111, 118, 101, 114, 102, 108, 111, 119]⟩ : ByteArray))) w1_1 fun (t50 : Value) w1_2 =>
 False)
 (∃ n', n' < n ∧ I n' (IntKind.wrap .i64 (x5_1 + ((t44.size : Nat) : Int))) (IntKind.wrap .i64 (x41 + (1 : Int))) w1_1))
 (∀ b8 w1_2, NewB w1_1 (.cells #[.pointer none, .slice none 0 0] 90) b8 w1_2 →
 Calls prog 66 #[.pointer (some (⟨b8, 0, none⟩ : Addr)), .int .i64 x5_1] w1_2 fun en w1_3 =>
 en = .returned (.tuple #[]) ∧
 ∃ p59, x0.a = some p59 ∧ 0 ≤ (0 : Int) ∧ (0 : Int) < ((x0.l : Nat) : Int) ∧
 ∃ t60 : ByteArray, Ld w1_3 (p59.add (0 * 1)) (.string t60) ∧
 Calls prog 62 #[.pointer (some (⟨b8, 0, none⟩ : Addr)), .string t60] w1_3 fun en w1_4 =>
 ∃ t61a : Int, ∃ t61b : Value, en = .returned (.tuple #[.int .i64 t61a, t61b]) ∧
 (0 ≤ (1 : Int) ∧ (1 : Int) ≤ ((x0.l : Nat) : Int)) ∧
 ∃ (I_1 : Nat → Int → World → Prop) (n0_1 : Nat), I_1 n0_1 (0 : Int) w1_4 ∧
 ∀ (n_1 : Nat) (u_2 : Env) (x65 : Int) (w1_5 : World), I_1 n_1 x65 w1_5 →
 IfB (decide (x65 < ((x0.l - 1 : Nat) : Int)))
 (∃ p67, slA x0.a 1 x0.c 1 = some p67 ∧ 0 ≤ x65 ∧ x65 < ((x0.l - 1 : Nat) : Int) ∧
 ∃ t68 : ByteArray, Ld w1_5 (p67.add ((x65).toNat * 1)) (.string t68) ∧
 Calls prog 62 #[.pointer (some (⟨b8, 0, none⟩ : Addr)), .string x1] w1_5 fun en w1_6 =>
 ∃ t70a : Int, ∃ t70b : Value, en = .returned (.tuple #[.int .i64 t70a, t70b]) ∧
 Calls prog 62 #[.pointer (some (⟨b8, 0, none⟩ : Addr)), .string t68] w1_6 fun en w1_7 =>
 ∃ t72a : Int, ∃ t72b : Value, en = .returned (.tuple #[.int .i64 t72a, t72b]) ∧
 ∃ n', n' < n_1 ∧ I_1 n' (IntKind.wrap .i64 (x65 + (1 : Int))) w1_7)
 (Calls prog 63 #[.pointer (some (⟨b8, 0, none⟩ : Addr))] w1_5 fun en w1_6 =>
 ∃ t74 : ByteArray, en = .returned (.string t74) ∧
 Q (.string t74) w1_6)))))
def an48 : Ann := { cut := fun i => bif Nat.beq i 10 then some [] else bif Nat.beq i 11 then some [(5, .int .i64)] else none, loop := fun i => bif Nat.beq i 12 then [(5, .int .i64), (41, .int .i64)] else bif Nat.beq i 22 then [(65, .int .i64)] else [] }
theorem eq48 (x0 : Sl) (x1 : ByteArray) (w : World) (Q : Value → World → Prop) : F48 x0 x1 w Q = vc prog an48 (Try.f48.body.getD .skip) (envOf [.slice x0.a x0.l x0.c, .string x1]) w (retK prog Try.f48 Q) := by kernel_rfl
theorem ok48 : codeOk Try.f48.ntmps (Try.f48.body.getD .skip) = true := by kernel_rfl
theorem W48 {x0 : Sl} {x1 : ByteArray} {w : World} {Q : Value → World → Prop} (h : F48 x0 x1 w Q) : Calls prog 48 #[.slice x0.a x0.l x0.c, .string x1] w fun en w' => ∃ v, en = .returned v ∧ Q v w' :=
  calls_of_vc good follows an48 (args := [.slice x0.a x0.l x0.c, .string x1]) Try.func48 (by kernel_rfl) ok48 (of_decide_eq_true (by kernel_rfl)) (Eq.mp (eq48 x0 x1 w Q) h)

/-- (*bastion/logs.Log).Tail -/
def F26 (x0 : Option Addr) (x1 : Int) (w : World) (Q : Value → World → Prop) : Prop :=
 ∃ J : Bool → World → Prop, (∃ b9 : Bool, BinIs prog .eql 23 (.tmp 8) (.const (.pointer none)) (.pointer x0) (.pointer none) b9 ∧
 IfB b9
 (J true w)
 (J (decide (x1 < (1 : Int))) w)) ∧
 (∀ (u : Env) (x13 : Bool) (w1 : World), J x13 w1 →
 IfB x13
 (Q (.string (⟨#[]⟩ : ByteArray)) w1)
 (∃ p15, x0 = some p15 ∧
 ∃ t17 : Sl, Ld w1 (p15.add 0) (.slice t17.a t17.l t17.c) ∧
 ∃ (I : Nat → Int → Int → World → Prop) (n0 : Nat), I n0 ((t17.l : Nat) : Int) (0 : Int) w1 ∧
 ∀ (n : Nat) (u_1 : Env) (x5 : Int) (x6 : Int) (w1_1 : World), I n x5 x6 w1_1 →
 IfB (decide (x5 > (0 : Int)))
 (IfB (decide (x6 < x1))
 (∃ p30, x0 = some p30 ∧
 ∃ t32 : Sl, Ld w1_1 (p30.add 0) (.slice t32.a t32.l t32.c) ∧
 ∃ p34, t32.a = some p34 ∧ 0 ≤ IntKind.wrap .i64 (x5 - (1 : Int)) ∧ IntKind.wrap .i64 (x5 - (1 : Int)) < ((t32.l : Nat) : Int) ∧
 ∃ t35 : ByteArray, Ld w1_1 (p34.add ((IntKind.wrap .i64 (x5 - (1 : Int))).toNat * 1)) (.string t35) ∧
 ∃ n', n' < n ∧ I n' (IntKind.wrap .i64 (x5 - (1 : Int))) (IntKind.wrap .i64 (x6 + ((t35.size : Nat) : Int))) w1_1)
 (∃ p39, x0 = some p39 ∧
 ∃ t41 : Sl, Ld w1_1 (p39.add 0) (.slice t41.a t41.l t41.c) ∧
 (0 ≤ x5 ∧ x5 ≤ ((t41.l : Nat) : Int)) ∧
 Calls prog 48 #[.slice (slA t41.a ((x5).toNat) t41.c 1) (t41.l - ((x5).toNat)) (t41.c - ((x5).toNat)), .string (⟨#[]⟩ : ByteArray)] w1_1 fun en w1_2 =>
 ∃ t44 : ByteArray, en = .returned (.string t44) ∧
 (0 ≤ (if IntKind.wrap .i64 (x6 - x1) > (0 : Int) then IntKind.wrap .i64 (x6 - x1) else (0 : Int)) ∧ (if IntKind.wrap .i64 (x6 - x1) > (0 : Int) then IntKind.wrap .i64 (x6 - x1) else (0 : Int)) ≤ ((t44.size : Nat) : Int)) ∧
 Q (.string (t44.extract (((if IntKind.wrap .i64 (x6 - x1) > (0 : Int) then IntKind.wrap .i64 (x6 - x1) else (0 : Int))).toNat) t44.size)) w1_2))
 (∃ p39, x0 = some p39 ∧
 ∃ t41 : Sl, Ld w1_1 (p39.add 0) (.slice t41.a t41.l t41.c) ∧
 (0 ≤ x5 ∧ x5 ≤ ((t41.l : Nat) : Int)) ∧
 Calls prog 48 #[.slice (slA t41.a ((x5).toNat) t41.c 1) (t41.l - ((x5).toNat)) (t41.c - ((x5).toNat)), .string (⟨#[]⟩ : ByteArray)] w1_1 fun en w1_2 =>
 ∃ t44 : ByteArray, en = .returned (.string t44) ∧
 (0 ≤ (if IntKind.wrap .i64 (x6 - x1) > (0 : Int) then IntKind.wrap .i64 (x6 - x1) else (0 : Int)) ∧ (if IntKind.wrap .i64 (x6 - x1) > (0 : Int) then IntKind.wrap .i64 (x6 - x1) else (0 : Int)) ≤ ((t44.size : Nat) : Int)) ∧
 Q (.string (t44.extract (((if IntKind.wrap .i64 (x6 - x1) > (0 : Int) then IntKind.wrap .i64 (x6 - x1) else (0 : Int))).toNat) t44.size)) w1_2)))
def an26 : Ann := { cut := fun i => bif Nat.beq i 2 then some [(13, .bool)] else none, loop := fun i => bif Nat.beq i 5 then [(5, .int .i64), (6, .int .i64)] else [] }
theorem eq26 (x0 : Option Addr) (x1 : Int) (w : World) (Q : Value → World → Prop) : F26 x0 x1 w Q = vc prog an26 (Try.f26.body.getD .skip) (envOf [.pointer x0, .int .i64 x1]) w (retK prog Try.f26 Q) := by kernel_rfl
theorem ok26 : codeOk Try.f26.ntmps (Try.f26.body.getD .skip) = true := by kernel_rfl
theorem W26 {x0 : Option Addr} {x1 : Int} {w : World} {Q : Value → World → Prop} (h : F26 x0 x1 w Q) : Calls prog 26 #[.pointer x0, .int .i64 x1] w fun en w' => ∃ v, en = .returned v ∧ Q v w' :=
  calls_of_vc good follows an26 (args := [.pointer x0, .int .i64 x1]) Try.func26 (by kernel_rfl) ok26 (of_decide_eq_true (by kernel_rfl)) (Eq.mp (eq26 x0 x1 w Q) h)

/-- (*bastion/logs.Log).Len -/
def F27 (x0 : Option Addr) (w : World) (Q : Value → World → Prop) : Prop :=
 ∃ b4 : Bool, BinIs prog .eql 23 (.tmp 3) (.const (.pointer none)) (.pointer x0) (.pointer none) b4 ∧
 IfB b4
 (Q (.int .i64 0) w)
 (∃ p6, x0 = some p6 ∧
 ∃ t8 : Sl, Ld w (p6.add 0) (.slice t8.a t8.l t8.c) ∧
 Q (.int .i64 ((t8.l : Nat) : Int)) w)
def an27 : Ann := { cut := fun i => none, loop := fun i => [] }
theorem eq27 (x0 : Option Addr) (w : World) (Q : Value → World → Prop) : F27 x0 w Q = vc prog an27 (Try.f27.body.getD .skip) (envOf [.pointer x0]) w (retK prog Try.f27 Q) := by kernel_rfl
theorem ok27 : codeOk Try.f27.ntmps (Try.f27.body.getD .skip) = true := by kernel_rfl
theorem W27 {x0 : Option Addr} {w : World} {Q : Value → World → Prop} (h : F27 x0 w Q) : Calls prog 27 #[.pointer x0] w fun en w' => ∃ v, en = .returned v ∧ Q v w' :=
  calls_of_vc good follows an27 (args := [.pointer x0]) Try.func27 (by kernel_rfl) ok27 (of_decide_eq_true (by kernel_rfl)) (Eq.mp (eq27 x0 w Q) h)

/-- bastion/bastionlaw22.works -/
def F19 (w : World) (Q : Value → World → Prop) : Prop :=
 Calls prog 20 #[] w fun en w1 =>
 ∃ t18 : Option Addr, en = .returned (.pointer t18) ∧
 Calls prog 21 #[.pointer t18, .int .i64 0, .string (⟨#[97, 98]⟩ : ByteArray)] w1 fun en w1_1 =>
 ∃ t21a : Bool, ∃ t21b : Int, en = .returned (.tuple #[.bool t21a, .int .i64 t21b]) ∧
 Calls prog 21 #[.pointer t18, .int .i64 2, .string (⟨#[120]⟩ : ByteArray)] w1_1 fun en w1_2 =>
 ∃ t26a : Bool, ∃ t26b : Int, en = .returned (.tuple #[.bool t26a, .int .i64 t26b]) ∧
 Calls prog 21 #[.pointer t18, .int .i64 1, .string (⟨#[99, 10, 100]⟩ : ByteArray)] w1_2 fun en w1_3 =>
 ∃ t31a : Bool, ∃ t31b : Int, en = .returned (.tuple #[.bool t31a, .int .i64 t31b]) ∧
 Calls prog 21 #[.pointer t18, .int .i64 0, .string (⟨#[97, 98]⟩ : ByteArray)] w1_3 fun en w1_4 =>
 ∃ t36a : Bool, ∃ t36b : Int, en = .returned (.tuple #[.bool t36a, .int .i64 t36b]) ∧
 Calls prog 21 #[.pointer t18, .int .i64 0, .string (⟨#[97, 98, 99]⟩ : ByteArray)] w1_4 fun en w1_5 =>
 ∃ t41a : Bool, ∃ t41b : Int, en = .returned (.tuple #[.bool t41a, .int .i64 t41b]) ∧
 Calls prog 21 #[.pointer t18, .int .i64 1, .string (⟨#[]⟩ : ByteArray)] w1_5 fun en w1_6 =>
 ∃ t46a : Bool, ∃ t46b : Int, en = .returned (.tuple #[.bool t46a, .int .i64 t46b]) ∧
 Calls prog 21 #[.pointer t18, .int .i64 64, .string (⟨#[120]⟩ : ByteArray)] w1_6 fun en w1_7 =>
 ∃ t51a : Bool, ∃ t51b : Int, en = .returned (.tuple #[.bool t51a, .int .i64 t51b]) ∧
 Calls prog 25 #[.pointer t18, .int .i64 0, .int .i64 9] w1_7 fun en w1_8 =>
 ∃ t55 : Sl, en = .returned (.slice t55.a t55.l t55.c) ∧
 Calls prog 14 #[.pointer t18, .int .i64 1] w1_8 fun en w1_9 =>
 ∃ t57 : Sl, en = .returned (.slice t57.a t57.l t57.c) ∧
 ∃ J : Bool → World → Prop, (IfB (!t21a)
 (J true w1_9)
 (IfB t26a
 (J true w1_9)
 (IfB (!t31a)
 (J true w1_9)
 (IfB t36a
 (J true w1_9)
 (IfB (t21b != (0 : Int))
 (J true w1_9)
 (IfB (t26b != (50 : Int))
 (J true w1_9)
 (IfB (t31b != (0 : Int))
 (J true w1_9)
 (IfB (t36b != (0 : Int))
 (J true w1_9)
 (IfB (t41b != (6 : Int))
 (J true w1_9)
 (IfB (t46b != (1 : Int))
 (J true w1_9)
 (IfB (t51b != (3 : Int))
 (J true w1_9)
 (Calls prog 27 #[.pointer t18] w1_9 fun en w1_10 =>
 ∃ t100 : Int, en = .returned (.int .i64 t100) ∧
 IfB (t100 != (2 : Int))
 (J true w1_10)
 (Calls prog 15 #[.pointer t18] w1_10 fun en w1_11 =>
 ∃ t105 : Int, en = .returned (.int .i64 t105) ∧
 IfB (t105 != (5 : Int))
 (J true w1_11)
 (Calls prog 26 #[.pointer t18, .int .i64 3] w1_11 fun en w1_12 =>
 ∃ t110 : ByteArray, en = .returned (.string t110) ∧
 IfB (!(t110.toList == (⟨#[99, 10, 100]⟩ : ByteArray).toList))
 (J true w1_12)
 (IfB (((t55.l : Nat) : Int) != (2 : Int))
 (J true w1_12)
 (J (((t57.l : Nat) : Int) != (1 : Int)) w1_12)))))))))))))))) ∧
 (∀ (u : Env) (x122 : Bool) (w1_10 : World), J x122 w1_10 →
 IfB x122
 (Q (.bool false) w1_10)
 (∃ p124, t55.a = some p124 ∧ 0 ≤ (0 : Int) ∧ (0 : Int) < ((t55.l : Nat) : Int) ∧
 ∃ t125 : ByteArray, Ld w1_10 (p124.add (0 * 1)) (.string t125) ∧
 IfB (t125.toList == (⟨#[97, 98, 99, 10]⟩ : ByteArray).toList)
 (∃ p129, t55.a = some p129 ∧ 0 ≤ (1 : Int) ∧ (1 : Int) < ((t55.l : Nat) : Int) ∧
 ∃ t130 : ByteArray, Ld w1_10 (p129.add (1 * 1)) (.string t130) ∧
 IfB (t130.toList == (⟨#[100]⟩ : ByteArray).toList)
 (∃ p135, t57.a = some p135 ∧ 0 ≤ (0 : Int) ∧ (0 : Int) < ((t57.l : Nat) : Int) ∧
 ∃ t136 : ByteArray, Ld w1_10 (p135.add (0 * 1)) (.string t136) ∧
 IfB (t136.toList == (⟨#[99, 10, 100]⟩ : ByteArray).toList)
 (Calls prog 17 #[.pointer t18] w1_10 fun en w1_11 =>
 ∃ t141 : Sl, en = .returned (.slice t141.a t141.l t141.c) ∧
 RunT prog .str (convert 22 9 (.slice t141.a t141.l t141.c)) w1_11 fun (t142 : ByteArray) w1_12 =>
 Q (.bool (t142.toList == (⟨#[2, 2, 97, 98, 3, 99, 10, 100]⟩ : ByteArray).toList)) w1_12)
 (Q (.bool false) w1_10))
 (Q (.bool false) w1_10))
 (Q (.bool false) w1_10)))
def an19 : Ann := { cut := fun i => bif Nat.beq i 12 then some [(122, .bool)] else none, loop := fun i => [] }
theorem eq19 (w : World) (Q : Value → World → Prop) : F19  w Q = vc prog an19 (Try.f19.body.getD .skip) (envOf []) w (retK prog Try.f19 Q) := by kernel_rfl
theorem ok19 : codeOk Try.f19.ntmps (Try.f19.body.getD .skip) = true := by kernel_rfl
theorem W19 {w : World} {Q : Value → World → Prop} (h : F19  w Q) : Calls prog 19 #[] w fun en w' => ∃ v, en = .returned v ∧ Q v w' :=
  calls_of_vc good follows an19 (args := []) Try.func19 (by kernel_rfl) ok19 (of_decide_eq_true (by kernel_rfl)) (Eq.mp (eq19  w Q) h)

/-- bastion/bastionlaw22.begins -/
def F22 (x0 : Sl) (x1 : Sl) (w : World) (Q : Value → World → Prop) : Prop :=
 IfB (decide (((x0.l : Nat) : Int) > ((x1.l : Nat) : Int)))
 (Q (.bool false) w)
 (∃ (I : Nat → Int → World → Prop) (n0 : Nat), I n0 (0 : Int) w ∧
 ∀ (n : Nat) (u : Env) (x5 : Int) (w1 : World), I n x5 w1 →
 IfB (decide (x5 < ((x0.l : Nat) : Int)))
 (∃ p19, x0.a = some p19 ∧ 0 ≤ x5 ∧ x5 < ((x0.l : Nat) : Int) ∧
 ∃ t20 : ByteArray, Ld w1.drew (p19.add ((x5).toNat * 1)) (.string t20) ∧
 ∃ p23, x1.a = some p23 ∧ 0 ≤ x5 ∧ x5 < ((x1.l : Nat) : Int) ∧
 ∃ t24 : ByteArray, Ld w1.drew (p23.add ((x5).toNat * 1)) (.string t24) ∧
 IfB (!(t20.toList == t24.toList))
 (Q (.bool false) w1.drew)
 (∃ n', n' < n ∧ I n' (IntKind.wrap .i64 (x5 + (1 : Int))) w1.drew))
 (Q (.bool true) w1))
def an22 : Ann := { cut := fun i => none, loop := fun i => bif Nat.beq i 4 then [(5, .int .i64)] else [] }
theorem eq22 (x0 : Sl) (x1 : Sl) (w : World) (Q : Value → World → Prop) : F22 x0 x1 w Q = vc prog an22 (Try.f22.body.getD .skip) (envOf [.slice x0.a x0.l x0.c, .slice x1.a x1.l x1.c]) w (retK prog Try.f22 Q) := by kernel_rfl
theorem ok22 : codeOk Try.f22.ntmps (Try.f22.body.getD .skip) = true := by kernel_rfl
theorem W22 {x0 : Sl} {x1 : Sl} {w : World} {Q : Value → World → Prop} (h : F22 x0 x1 w Q) : Calls prog 22 #[.slice x0.a x0.l x0.c, .slice x1.a x1.l x1.c] w fun en w' => ∃ v, en = .returned v ∧ Q v w' :=
  calls_of_vc good follows an22 (args := [.slice x0.a x0.l x0.c, .slice x1.a x1.l x1.c]) Try.func22 (by kernel_rfl) ok22 (of_decide_eq_true (by kernel_rfl)) (Eq.mp (eq22 x0 x1 w Q) h)

/-- bastion/bastionlaw22.LogsOrder -/
def F4 (x0 : Sl) (x1 : Sl) (w : World) (Q : Value → World → Prop) : Prop :=
 Calls prog 18 #[.slice x0.a x0.l x0.c] w fun en w1 =>
 ∃ t18 : Sl, en = .returned (.slice t18.a t18.l t18.c) ∧
 ∃ J : Bool → World → Prop, (Calls prog 19 #[] w1 fun en w1_1 =>
 ∃ t19 : Bool, en = .returned (.bool t19) ∧
 IfB (!t19)
 (J true w1_1)
 (IfB (decide (((x1.l : Nat) : Int) > (400 : Int)))
 (J true w1_1)
 (J (((t18.l : Nat) : Int) == (0 : Int)) w1_1))) ∧
 (∀ (u : Env) (x30 : Bool) (w1_1 : World), J x30 w1_1 →
 IfB x30
 (Calls prog 19 #[] w1_1 fun en w1_2 =>
 ∃ t31 : Bool, en = .returned (.bool t31) ∧
 Q (.bool t31) w1_2)
 (Calls prog 20 #[] w1_1 fun en w1_2 =>
 ∃ t32 : Option Addr, en = .returned (.pointer t32) ∧
 ∃ (I : Nat → Int → Int → World → Prop) (n0 : Nat), I n0 (0 : Int) (0 : Int) w1_2 ∧
 ∀ (n : Nat) (u_1 : Env) (x7 : Int) (x8 : Int) (w1_3 : World), I n x7 x8 w1_3 →
 IfB (decide (x8 < ((x1.l : Nat) : Int)))
 (∃ p41, x1.a = some p41 ∧ 0 ≤ x8 ∧ x8 < ((x1.l : Nat) : Int) ∧
 ∃ t42 : Int, Ld w1_3 (p41.add ((x8).toNat * 1)) (.int .i64 t42) ∧
 IntKind.wrap .u64 ((t18.l : Nat) : Int) ≠ 0 ∧
 ∃ p54, t18.a = some p54 ∧ 0 ≤ IntKind.wrap .i64 (Int.tmod (IntKind.wrap .u64 t42) (IntKind.wrap .u64 ((t18.l : Nat) : Int))) ∧ IntKind.wrap .i64 (Int.tmod (IntKind.wrap .u64 t42) (IntKind.wrap .u64 ((t18.l : Nat) : Int))) < ((t18.l : Nat) : Int) ∧
 ∃ t55 : ByteArray, Ld w1_3 (p54.add ((IntKind.wrap .i64 (Int.tmod (IntKind.wrap .u64 t42) (IntKind.wrap .u64 ((t18.l : Nat) : Int)))).toNat * 1)) (.string t55) ∧
 Calls prog 21 #[.pointer t32, .int .i64 (IntKind.wrap .i64 (Int.tmod (IntKind.wrap .u64 t42) (IntKind.wrap .u64 ((t18.l : Nat) : Int)))), .string t55] w1_3 fun en w1_4 =>
 ∃ t56a : Bool, ∃ t56b : Int, en = .returned (.tuple #[.bool t56a, .int .i64 t56b]) ∧
 ∃ J_1 : Bool → World → Prop, (∃ b63 : Bool, BinIs prog .neq 4 (.tmp 59) (.tmp 62) (.bool t56a) (.bool (IntKind.wrap .i64 (Int.tmod (IntKind.wrap .u64 t42) (IntKind.wrap .u64 ((t18.l : Nat) : Int))) == x7)) b63 ∧
 IfB b63
 (J_1 true w1_4)
 (∃ b70 : Bool, BinIs prog .neq 4 (.tmp 66) (.tmp 69) (.bool (t56b == (0 : Int))) (.bool (decide (IntKind.wrap .i64 (Int.tmod (IntKind.wrap .u64 t42) (IntKind.wrap .u64 ((t18.l : Nat) : Int))) ≤ x7))) b70 ∧
 IfB b70
 (J_1 true w1_4)
 (IfB (decide (IntKind.wrap .i64 (Int.tmod (IntKind.wrap .u64 t42) (IntKind.wrap .u64 ((t18.l : Nat) : Int))) > x7))
 (J_1 (t56b != (50 : Int)) w1_4)
 (J_1 false w1_4)))) ∧
 (∀ (u_2 : Env) (x80 : Bool) (w1_5 : World), J_1 x80 w1_5 →
 IfB x80
 (Q (.bool false) w1_5)
 (IfB t56a
 (Calls prog 14 #[.pointer t32, .int .i64 0] w1_5 fun en w1_6 =>
 ∃ t85 : Sl, en = .returned (.slice t85.a t85.l t85.c) ∧
 IfB (((t85.l : Nat) : Int) != IntKind.wrap .i64 (x7 + (1 : Int)))
 (Q (.bool false) w1_6)
 (Calls prog 22 #[.slice t85.a t85.l t85.c, .slice t18.a t18.l t18.c] w1_6 fun en w1_7 =>
 ∃ t93 : Bool, en = .returned (.bool t93) ∧
 IfB (!t93)
 (Q (.bool false) w1_7)
 (∃ n', n' < n ∧ I n' (IntKind.wrap .i64 (x7 + (1 : Int))) (IntKind.wrap .i64 (x8 + (1 : Int))) w1_7)))
 (Calls prog 14 #[.pointer t32, .int .i64 0] w1_5 fun en w1_6 =>
 ∃ t85 : Sl, en = .returned (.slice t85.a t85.l t85.c) ∧
 IfB (((t85.l : Nat) : Int) != x7)
 (Q (.bool false) w1_6)
 (Calls prog 22 #[.slice t85.a t85.l t85.c, .slice t18.a t18.l t18.c] w1_6 fun en w1_7 =>
 ∃ t93 : Bool, en = .returned (.bool t93) ∧
 IfB (!t93)
 (Q (.bool false) w1_7)
 (∃ n', n' < n ∧ I n' x7 (IntKind.wrap .i64 (x8 + (1 : Int))) w1_7))))))
 (∃ (I_1 : Nat → Int → World → Prop) (n0_1 : Nat), I_1 n0_1 (0 : Int) w1_3 ∧
 ∀ (n_1 : Nat) (u_2 : Env) (x13 : Int) (w1_4 : World), I_1 n_1 x13 w1_4 →
 IfB (decide (x13 < ((t18.l : Nat) : Int)))
 (∃ p107, t18.a = some p107 ∧ 0 ≤ x13 ∧ x13 < ((t18.l : Nat) : Int) ∧
 ∃ t108 : ByteArray, Ld w1_4 (p107.add ((x13).toNat * 1)) (.string t108) ∧
 Calls prog 21 #[.pointer t32, .int .i64 x13, .string t108] w1_4 fun en w1_5 =>
 ∃ t109a : Bool, ∃ t109b : Int, en = .returned (.tuple #[.bool t109a, .int .i64 t109b]) ∧
 IfB (t109b != (0 : Int))
 (Q (.bool false) w1_5)
 (∃ b119 : Bool, BinIs prog .neq 4 (.tmp 115) (.tmp 118) (.bool t109a) (.bool (decide (x13 ≥ x7))) b119 ∧
 IfB b119
 (Q (.bool false) w1_5)
 (∃ n', n' < n_1 ∧ I_1 n' (IntKind.wrap .i64 (x13 + (1 : Int))) w1_5)))
 (Calls prog 14 #[.pointer t32, .int .i64 0] w1_4 fun en w1_5 =>
 ∃ t122 : Sl, en = .returned (.slice t122.a t122.l t122.c) ∧
 IfB (((t122.l : Nat) : Int) == ((t18.l : Nat) : Int))
 (Calls prog 22 #[.slice t122.a t122.l t122.c, .slice t18.a t18.l t18.c] w1_5 fun en w1_6 =>
 ∃ t131 : Bool, en = .returned (.bool t131) ∧
 Q (.bool t131) w1_6)
 (Q (.bool false) w1_5)))))
def an4 : Ann := { cut := fun i => bif Nat.beq i 3 then some [(30, .bool)] else bif Nat.beq i 12 then some [(80, .bool)] else none, loop := fun i => bif Nat.beq i 7 then [(7, .int .i64), (8, .int .i64)] else bif Nat.beq i 19 then [(13, .int .i64)] else [] }
theorem eq4 (x0 : Sl) (x1 : Sl) (w : World) (Q : Value → World → Prop) : F4 x0 x1 w Q = vc prog an4 (Try.f4.body.getD .skip) (envOf [.slice x0.a x0.l x0.c, .slice x1.a x1.l x1.c]) w (retK prog Try.f4 Q) := by kernel_rfl
theorem ok4 : codeOk Try.f4.ntmps (Try.f4.body.getD .skip) = true := by kernel_rfl
theorem W4 {x0 : Sl} {x1 : Sl} {w : World} {Q : Value → World → Prop} (h : F4 x0 x1 w Q) : Calls prog 4 #[.slice x0.a x0.l x0.c, .slice x1.a x1.l x1.c] w fun en w' => ∃ v, en = .returned v ∧ Q v w' :=
  calls_of_vc good follows an4 (args := [.slice x0.a x0.l x0.c, .slice x1.a x1.l x1.c]) Try.func4 (by kernel_rfl) ok4 (of_decide_eq_true (by kernel_rfl)) (Eq.mp (eq4 x0 x1 w Q) h)

/-- bastion/bastionlaw22.large -/
def F23 (x0 : Sl) (w : World) (Q : Value → World → Prop) : Prop :=
 ∃ (I : Nat → Int → Int → World → Prop) (n0 : Nat), I n0 (0 : Int) (0 : Int) w ∧
 ∀ (n : Nat) (u : Env) (x3 : Int) (x4 : Int) (w1 : World), I n x3 x4 w1 →
 IfB (decide (x4 < ((x0.l : Nat) : Int)))
 (∃ p13, x0.a = some p13 ∧ 0 ≤ x4 ∧ x4 < ((x0.l : Nat) : Int) ∧
 ∃ t15 : ByteArray, Ld w1 ((p13.add ((x4).toNat * 4)).add 3) (.string t15) ∧
 IfB (decide (((t15.size : Nat) : Int) > IntKind.wrap .i64 ((20000 : Int) - x3)))
 (Q (.bool true) w1)
 (∃ p23, x0.a = some p23 ∧ 0 ≤ x4 ∧ x4 < ((x0.l : Nat) : Int) ∧
 ∃ t25 : ByteArray, Ld w1 ((p23.add ((x4).toNat * 4)).add 3) (.string t25) ∧
 ∃ n', n' < n ∧ I n' (IntKind.wrap .i64 (x3 + ((t25.size : Nat) : Int))) (IntKind.wrap .i64 (x4 + (1 : Int))) w1))
 (Q (.bool (decide (((x0.l : Nat) : Int) > (80 : Int)))) w1)
def an23 : Ann := { cut := fun i => none, loop := fun i => bif Nat.beq i 3 then [(3, .int .i64), (4, .int .i64)] else [] }
theorem eq23 (x0 : Sl) (w : World) (Q : Value → World → Prop) : F23 x0 w Q = vc prog an23 (Try.f23.body.getD .skip) (envOf [.slice x0.a x0.l x0.c]) w (retK prog Try.f23 Q) := by kernel_rfl
theorem ok23 : codeOk Try.f23.ntmps (Try.f23.body.getD .skip) = true := by kernel_rfl
theorem W23 {x0 : Sl} {w : World} {Q : Value → World → Prop} (h : F23 x0 w Q) : Calls prog 23 #[.slice x0.a x0.l x0.c] w fun en w' => ∃ v, en = .returned v ∧ Q v w' :=
  calls_of_vc good follows an23 (args := [.slice x0.a x0.l x0.c]) Try.func23 (by kernel_rfl) ok23 (of_decide_eq_true (by kernel_rfl)) (Eq.mp (eq23 x0 w Q) h)

/-- bastion/bastionlaw22.LogsStays -/
def F5 (x0 : Sl) (w : World) (Q : Value → World → Prop) : Prop :=
 ∃ J : Bool → World → Prop, (Calls prog 19 #[] w fun en w1 =>
 ∃ t9 : Bool, en = .returned (.bool t9) ∧
 IfB (!t9)
 (J true w1)
 (Calls prog 23 #[.slice x0.a x0.l x0.c] w1 fun en w1_1 =>
 ∃ t13 : Bool, en = .returned (.bool t13) ∧
 J t13 w1_1)) ∧
 (∀ (u : Env) (x14 : Bool) (w1 : World), J x14 w1 →
 IfB x14
 (Calls prog 19 #[] w1 fun en w1_1 =>
 ∃ t15 : Bool, en = .returned (.bool t15) ∧
 Q (.bool t15) w1_1)
 (Calls prog 20 #[] w1 fun en w1_1 =>
 ∃ t16 : Option Addr, en = .returned (.pointer t16) ∧
 ∃ (I : Nat → Int → World → Prop) (n0 : Nat), I n0 (0 : Int) w1_1 ∧
 ∀ (n : Nat) (u_1 : Env) (x4 : Int) (w1_2 : World), I n x4 w1_2 →
 IfB (decide (x4 < ((x0.l : Nat) : Int)))
 (Calls prog 14 #[.pointer t16, .int .i64 0] w1_2 fun en w1_3 =>
 ∃ t24 : Sl, en = .returned (.slice t24.a t24.l t24.c) ∧
 ∃ S : World → Prop, S w1_3.drew ∧
 ∃ p29, x0.a = some p29 ∧ 0 ≤ x4 ∧ x4 < ((x0.l : Nat) : Int) ∧
 ∃ t31 : Int, (∀ w', S w' → Ld w' ((p29.add ((x4).toNat * 4)).add 1) (.int .i64 t31)) ∧
 ∃ p34, x0.a = some p34 ∧ 0 ≤ x4 ∧ x4 < ((x0.l : Nat) : Int) ∧
 ∃ t36 : ByteArray, (∀ w', S w' → Ld w' ((p34.add ((x4).toNat * 4)).add 3) (.string t36)) ∧
 Calls prog 21 #[.pointer t16, .int .i64 t31, .string t36] w1_3.drew fun en w1_4 =>
 ∃ t37a : Bool, ∃ t37b : Int, en = .returned (.tuple #[.bool t37a, .int .i64 t37b]) ∧
 Calls prog 14 #[.pointer t16, .int .i64 0] w1_4 fun en w1_5 =>
 ∃ t41 : Sl, en = .returned (.slice t41.a t41.l t41.c) ∧
 ∃ S_1 : World → Prop, S_1 w1_5.drew ∧
 Calls prog 22 #[.slice t24.a t24.l t24.c, .slice t41.a t41.l t41.c] w1_5.drew fun en w1_6 =>
 ∃ t44 : Bool, en = .returned (.bool t44) ∧
 ∃ S_2 : World → Prop, (∀ w', S_2 w' → S_1 w') ∧ S_2 w1_6 ∧
 IfB (!t44)
 (Q (.bool false) w1_6)
 (IfB t37a
 (IfB (t37b != (0 : Int))
 (Q (.bool false) w1_6)
 (IfB (((t41.l : Nat) : Int) != IntKind.wrap .i64 (((t24.l : Nat) : Int) + (1 : Int)))
 (Q (.bool false) w1_6)
 (∃ p62, x0.a = some p62 ∧ 0 ≤ x4 ∧ x4 < ((x0.l : Nat) : Int) ∧
 ∃ t64 : Int, (∀ w', S_2 w' → Ld w' ((p62.add ((x4).toNat * 4)).add 1) (.int .i64 t64)) ∧
 IfB (t64 != ((t24.l : Nat) : Int))
 (Q (.bool false) w1_6)
 (∃ p73, t41.a = some p73 ∧ 0 ≤ ((t24.l : Nat) : Int) ∧ ((t24.l : Nat) : Int) < ((t41.l : Nat) : Int) ∧
 ∃ t74 : ByteArray, (∀ w', S_2 w' → Ld w' (p73.add ((((t24.l : Nat) : Int)).toNat * 1)) (.string t74)) ∧
 ∃ p77, x0.a = some p77 ∧ 0 ≤ x4 ∧ x4 < ((x0.l : Nat) : Int) ∧
 ∃ t79 : ByteArray, (∀ w', S_2 w' → Ld w' ((p77.add ((x4).toNat * 4)).add 3) (.string t79)) ∧
 IfB (!(t74.toList == t79.toList))
 (Q (.bool false) w1_6)
 (IfB (!t37a)
 (IfB (((t41.l : Nat) : Int) != ((t24.l : Nat) : Int))
 (Q (.bool false) w1_6)
 (∃ n', n' < n ∧ I n' (IntKind.wrap .i64 (x4 + (1 : Int))) w1_6))
 (∃ n', n' < n ∧ I n' (IntKind.wrap .i64 (x4 + (1 : Int))) w1_6))))))
 (IfB (!t37a)
 (IfB (((t41.l : Nat) : Int) != ((t24.l : Nat) : Int))
 (Q (.bool false) w1_6)
 (∃ n', n' < n ∧ I n' (IntKind.wrap .i64 (x4 + (1 : Int))) w1_6))
 (∃ n', n' < n ∧ I n' (IntKind.wrap .i64 (x4 + (1 : Int))) w1_6))))
 (Q (.bool true) w1_2)))
def an5 : Ann := { cut := fun i => bif Nat.beq i 2 then some [(14, .bool)] else none, loop := fun i => bif Nat.beq i 5 then [(4, .int .i64)] else [] }
theorem eq5 (x0 : Sl) (w : World) (Q : Value → World → Prop) : F5 x0 w Q = vc prog an5 (Try.f5.body.getD .skip) (envOf [.slice x0.a x0.l x0.c]) w (retK prog Try.f5 Q) := by kernel_rfl
theorem ok5 : codeOk Try.f5.ntmps (Try.f5.body.getD .skip) = true := by kernel_rfl
theorem W5 {x0 : Sl} {w : World} {Q : Value → World → Prop} (h : F5 x0 w Q) : Calls prog 5 #[.slice x0.a x0.l x0.c] w fun en w' => ∃ v, en = .returned v ∧ Q v w' :=
  calls_of_vc good follows an5 (args := [.slice x0.a x0.l x0.c]) Try.func5 (by kernel_rfl) ok5 (of_decide_eq_true (by kernel_rfl)) (Eq.mp (eq5 x0 w Q) h)

/-- bastion/bastionlaw22.filled -/
def F24 (x0 : Sl) (w : World) (Q : Value → World → Prop) : Prop :=
 Calls prog 20 #[] w fun en w1 =>
 ∃ t8 : Option Addr, en = .returned (.pointer t8) ∧
 ∃ (I : Nat → Int → World → Prop) (n0 : Nat), I n0 (0 : Int) w1 ∧
 ∀ (n : Nat) (u : Env) (x5 : Int) (w1_1 : World), I n x5 w1_1 →
 IfB (decide (x5 < ((x0.l : Nat) : Int)))
 (∃ p20, x0.a = some p20 ∧ 0 ≤ x5 ∧ x5 < ((x0.l : Nat) : Int) ∧
 ∃ t21 : ByteArray, Ld w1_1 (p20.add ((x5).toNat * 1)) (.string t21) ∧
 Calls prog 21 #[.pointer t8, .int .i64 x5, .string t21] w1_1 fun en w1_2 =>
 ∃ t22a : Bool, ∃ t22b : Int, en = .returned (.tuple #[.bool t22a, .int .i64 t22b]) ∧
 IfB (!t22a)
 (Q (.tuple #[.pointer t8, .bool false]) w1_2)
 (IfB (t22b != (0 : Int))
 (Q (.tuple #[.pointer t8, .bool false]) w1_2)
 (∃ n', n' < n ∧ I n' (IntKind.wrap .i64 (x5 + (1 : Int))) w1_2)))
 (Q (.tuple #[.pointer t8, .bool true]) w1_1)
def an24 : Ann := { cut := fun i => none, loop := fun i => bif Nat.beq i 3 then [(5, .int .i64)] else [] }
theorem eq24 (x0 : Sl) (w : World) (Q : Value → World → Prop) : F24 x0 w Q = vc prog an24 (Try.f24.body.getD .skip) (envOf [.slice x0.a x0.l x0.c]) w (retK prog Try.f24 Q) := by kernel_rfl
theorem ok24 : codeOk Try.f24.ntmps (Try.f24.body.getD .skip) = true := by kernel_rfl
theorem W24 {x0 : Sl} {w : World} {Q : Value → World → Prop} (h : F24 x0 w Q) : Calls prog 24 #[.slice x0.a x0.l x0.c] w fun en w' => ∃ v, en = .returned v ∧ Q v w' :=
  calls_of_vc good follows an24 (args := [.slice x0.a x0.l x0.c]) Try.func24 (by kernel_rfl) ok24 (of_decide_eq_true (by kernel_rfl)) (Eq.mp (eq24 x0 w Q) h)

/-- bastion/bastionlaw22.LogsLines -/
def F6 (x0 : Sl) (x1 : Int) (x2 : Int) (w : World) (Q : Value → World → Prop) : Prop :=
 Calls prog 18 #[.slice x0.a x0.l x0.c] w fun en w1 =>
 ∃ t22 : Sl, en = .returned (.slice t22.a t22.l t22.c) ∧
 Calls prog 24 #[.slice t22.a t22.l t22.c] w1 fun en w1_1 =>
 ∃ t25a : Option Addr, ∃ t25b : Bool, en = .returned (.tuple #[.pointer t25a, .bool t25b]) ∧
 ∃ J : Bool → World → Prop, (Calls prog 19 #[] w1_1 fun en w1_2 =>
 ∃ t28 : Bool, en = .returned (.bool t28) ∧
 IfB (!t28)
 (J true w1_2)
 (J (!t25b) w1_2)) ∧
 (∀ (u : Env) (x33 : Bool) (w1_2 : World), J x33 w1_2 →
 IfB x33
 (Q (.bool false) w1_2)
 (∃ (I : Nat → ByteArray → Int → World → Prop) (n0 : Nat), I n0 (⟨#[]⟩ : ByteArray) (0 : Int) w1_2 ∧
 ∀ (n : Nat) (u_1 : Env) (x10 : ByteArray) (x11 : Int) (w1_3 : World), I n x10 x11 w1_3 →
 IfB (decide (x11 < ((t22.l : Nat) : Int)))
 (∃ p43, t22.a = some p43 ∧ 0 ≤ x11 ∧ x11 < ((t22.l : Nat) : Int) ∧
 ∃ t44 : ByteArray, Ld w1_3 (p43.add ((x11).toNat * 1)) (.string t44) ∧
 x10.size + t44.size ≤ 9223372036854775807 ∧
 ∃ n', n' < n ∧ I n' (x10 ++ t44) (IntKind.wrap .i64 (x11 + (1 : Int))) w1_3)
 (Calls prog 25 #[.pointer t25a, .int .i64 0, .int .i64 1099511627776] w1_3 fun en w1_4 =>
 ∃ t47 : Sl, en = .returned (.slice t47.a t47.l t47.c) ∧
 ∃ (I_1 : Nat → ByteArray → Int → World → Prop) (n0_1 : Nat), I_1 n0_1 (⟨#[]⟩ : ByteArray) (0 : Int) w1_4 ∧
 ∀ (n_1 : Nat) (u_2 : Env) (x13 : ByteArray) (x14 : Int) (w1_5 : World), I_1 n_1 x13 x14 w1_5 →
 IfB (decide (x14 < ((t47.l : Nat) : Int)))
 (∃ p56, t47.a = some p56 ∧ 0 ≤ x14 ∧ x14 < ((t47.l : Nat) : Int) ∧
 ∃ t57 : ByteArray, Ld w1_5 (p56.add ((x14).toNat * 1)) (.string t57) ∧
 ∃ (I_2 : Nat → Int → World → Prop) (n0_2 : Nat), I_2 n0_2 (0 : Int) w1_5 ∧
 ∀ (n_2 : Nat) (u_3 : Env) (x16 : Int) (w1_6 : World), I_2 n_2 x16 w1_6 →
 IfB (decide (x16 < ((t57.size : Nat) : Int)))
 (0 ≤ x16 ∧ x16 < ((t57.size : Nat) : Int) ∧
 IfB (bt t57 x16 == (10 : Int))
 (IfB (x16 != IntKind.wrap .i64 (((t57.size : Nat) : Int) - (1 : Int)))
 (Q (.bool false) w1_6)
 (∃ n', n' < n_2 ∧ I_2 n' (IntKind.wrap .i64 (x16 + (1 : Int))) w1_6))
 (∃ n', n' < n_2 ∧ I_2 n' (IntKind.wrap .i64 (x16 + (1 : Int))) w1_6))
 (IfB (((t57.size : Nat) : Int) == (0 : Int))
 (Q (.bool false) w1_6)
 (0 ≤ IntKind.wrap .i64 (((t57.size : Nat) : Int) - (1 : Int)) ∧ IntKind.wrap .i64 (((t57.size : Nat) : Int) - (1 : Int)) < ((t57.size : Nat) : Int) ∧
 IfB (bt t57 (IntKind.wrap .i64 (((t57.size : Nat) : Int) - (1 : Int))) != (10 : Int))
 (IfB (x14 != IntKind.wrap .i64 (((t47.l : Nat) : Int) - (1 : Int)))
 (Q (.bool false) w1_6)
 (x13.size + t57.size ≤ 9223372036854775807 ∧
 ∃ n', n' < n_1 ∧ I_1 n' (x13 ++ t57) (IntKind.wrap .i64 (x14 + (1 : Int))) w1_6))
 (x13.size + t57.size ≤ 9223372036854775807 ∧
 ∃ n', n' < n_1 ∧ I_1 n' (x13 ++ t57) (IntKind.wrap .i64 (x14 + (1 : Int))) w1_6))))
 (Calls prog 25 #[.pointer t25a, .int .i64 x1, .int .i64 x2] w1_5 fun en w1_6 =>
 ∃ t99 : Sl, en = .returned (.slice t99.a t99.l t99.c) ∧
 ∃ J_1 : Bool → World → Prop, (IfB (!(x13.toList == x10.toList))
 (J_1 true w1_6)
 (J_1 (((t99.l : Nat) : Int) != (if (0 : Int) > IntKind.wrap .i64 ((if ((t47.l : Nat) : Int) < (if (0 : Int) > x2 then (0 : Int) else x2) then ((t47.l : Nat) : Int) else (if (0 : Int) > x2 then (0 : Int) else x2)) - (if (if ((t47.l : Nat) : Int) < (if (0 : Int) > x2 then (0 : Int) else x2) then ((t47.l : Nat) : Int) else (if (0 : Int) > x2 then (0 : Int) else x2)) < (if (0 : Int) > x1 then (0 : Int) else x1) then (if ((t47.l : Nat) : Int) < (if (0 : Int) > x2 then (0 : Int) else x2) then ((t47.l : Nat) : Int) else (if (0 : Int) > x2 then (0 : Int) else x2)) else (if (0 : Int) > x1 then (0 : Int) else x1))) then (0 : Int) else IntKind.wrap .i64 ((if ((t47.l : Nat) : Int) < (if (0 : Int) > x2 then (0 : Int) else x2) then ((t47.l : Nat) : Int) else (if (0 : Int) > x2 then (0 : Int) else x2)) - (if (if ((t47.l : Nat) : Int) < (if (0 : Int) > x2 then (0 : Int) else x2) then ((t47.l : Nat) : Int) else (if (0 : Int) > x2 then (0 : Int) else x2)) < (if (0 : Int) > x1 then (0 : Int) else x1) then (if ((t47.l : Nat) : Int) < (if (0 : Int) > x2 then (0 : Int) else x2) then ((t47.l : Nat) : Int) else (if (0 : Int) > x2 then (0 : Int) else x2)) else (if (0 : Int) > x1 then (0 : Int) else x1))))) w1_6)) ∧
 (∀ (u_3 : Env) (x120 : Bool) (w1_7 : World), J_1 x120 w1_7 →
 IfB x120
 (Q (.bool false) w1_7)
 (∃ (I_2 : Nat → Int → World → Prop) (n0_2 : Nat), I_2 n0_2 (0 : Int) w1_7 ∧
 ∀ (n_2 : Nat) (u_4 : Env) (x20 : Int) (w1_8 : World), I_2 n_2 x20 w1_8 →
 IfB (decide (x20 < ((t99.l : Nat) : Int)))
 (∃ p129, t99.a = some p129 ∧ 0 ≤ x20 ∧ x20 < ((t99.l : Nat) : Int) ∧
 ∃ t130 : ByteArray, Ld w1_8.drew (p129.add ((x20).toNat * 1)) (.string t130) ∧
 ∃ p135, t47.a = some p135 ∧ 0 ≤ IntKind.wrap .i64 ((if (0 : Int) > x1 then (0 : Int) else x1) + x20) ∧ IntKind.wrap .i64 ((if (0 : Int) > x1 then (0 : Int) else x1) + x20) < ((t47.l : Nat) : Int) ∧
 ∃ t136 : ByteArray, Ld w1_8.drew (p135.add ((IntKind.wrap .i64 ((if (0 : Int) > x1 then (0 : Int) else x1) + x20)).toNat * 1)) (.string t136) ∧
 IfB (!(t130.toList == t136.toList))
 (Q (.bool false) w1_8.drew)
 (∃ n', n' < n_2 ∧ I_2 n' (IntKind.wrap .i64 (x20 + (1 : Int))) w1_8.drew))
 (Q (.bool true) w1_8)))))))
def an6 : Ann := { cut := fun i => bif Nat.beq i 4 then some [(33, .bool)] else bif Nat.beq i 28 then some [(120, .bool)] else none, loop := fun i => bif Nat.beq i 7 then [(10, .str), (11, .int .i64)] else bif Nat.beq i 13 then [(13, .str), (14, .int .i64)] else bif Nat.beq i 17 then [(16, .int .i64)] else bif Nat.beq i 30 then [(20, .int .i64)] else [] }
theorem eq6 (x0 : Sl) (x1 : Int) (x2 : Int) (w : World) (Q : Value → World → Prop) : F6 x0 x1 x2 w Q = vc prog an6 (Try.f6.body.getD .skip) (envOf [.slice x0.a x0.l x0.c, .int .i64 x1, .int .i64 x2]) w (retK prog Try.f6 Q) := by kernel_rfl
theorem ok6 : codeOk Try.f6.ntmps (Try.f6.body.getD .skip) = true := by kernel_rfl
theorem W6 {x0 : Sl} {x1 : Int} {x2 : Int} {w : World} {Q : Value → World → Prop} (h : F6 x0 x1 x2 w Q) : Calls prog 6 #[.slice x0.a x0.l x0.c, .int .i64 x1, .int .i64 x2] w fun en w' => ∃ v, en = .returned v ∧ Q v w' :=
  calls_of_vc good follows an6 (args := [.slice x0.a x0.l x0.c, .int .i64 x1, .int .i64 x2]) Try.func6 (by kernel_rfl) ok6 (of_decide_eq_true (by kernel_rfl)) (Eq.mp (eq6 x0 x1 x2 w Q) h)

/-- bastion/bastionlaw22.LogsTails -/
def F7 (x0 : Sl) (x1 : Int) (x2 : Int) (w : World) (Q : Value → World → Prop) : Prop :=
 Calls prog 18 #[.slice x0.a x0.l x0.c] w fun en w1 =>
 ∃ t16 : Sl, en = .returned (.slice t16.a t16.l t16.c) ∧
 Calls prog 24 #[.slice t16.a t16.l t16.c] w1 fun en w1_1 =>
 ∃ t19a : Option Addr, ∃ t19b : Bool, en = .returned (.tuple #[.pointer t19a, .bool t19b]) ∧
 ∃ J : Bool → World → Prop, (Calls prog 19 #[] w1_1 fun en w1_2 =>
 ∃ t22 : Bool, en = .returned (.bool t22) ∧
 IfB (!t22)
 (J true w1_2)
 (J (!t19b) w1_2)) ∧
 (∀ (u : Env) (x27 : Bool) (w1_2 : World), J x27 w1_2 →
 IfB x27
 (Q (.bool false) w1_2)
 (∃ (I : Nat → ByteArray → Int → World → Prop) (n0 : Nat), I n0 (⟨#[]⟩ : ByteArray) (0 : Int) w1_2 ∧
 ∀ (n : Nat) (u_1 : Env) (x10 : ByteArray) (x11 : Int) (w1_3 : World), I n x10 x11 w1_3 →
 IfB (decide (x11 < ((t16.l : Nat) : Int)))
 (∃ p37, t16.a = some p37 ∧ 0 ≤ x11 ∧ x11 < ((t16.l : Nat) : Int) ∧
 ∃ t38 : ByteArray, Ld w1_3 (p37.add ((x11).toNat * 1)) (.string t38) ∧
 x10.size + t38.size ≤ 9223372036854775807 ∧
 ∃ n', n' < n ∧ I n' (x10 ++ t38) (IntKind.wrap .i64 (x11 + (1 : Int))) w1_3)
 (Calls prog 14 #[.pointer t19a, .int .i64 x2] w1_3 fun en w1_4 =>
 ∃ t47 : Sl, en = .returned (.slice t47.a t47.l t47.c) ∧
 (0 ≤ IntKind.wrap .i64 (((x10.size : Nat) : Int) - (if ((x10.size : Nat) : Int) < (if (0 : Int) > x1 then (0 : Int) else x1) then ((x10.size : Nat) : Int) else (if (0 : Int) > x1 then (0 : Int) else x1))) ∧ IntKind.wrap .i64 (((x10.size : Nat) : Int) - (if ((x10.size : Nat) : Int) < (if (0 : Int) > x1 then (0 : Int) else x1) then ((x10.size : Nat) : Int) else (if (0 : Int) > x1 then (0 : Int) else x1))) ≤ ((x10.size : Nat) : Int)) ∧
 Calls prog 26 #[.pointer t19a, .int .i64 x1] w1_4.drew fun en w1_5 =>
 ∃ t55 : ByteArray, en = .returned (.string t55) ∧
 IfB (!(t55.toList == (x10.extract ((IntKind.wrap .i64 (((x10.size : Nat) : Int) - (if ((x10.size : Nat) : Int) < (if (0 : Int) > x1 then (0 : Int) else x1) then ((x10.size : Nat) : Int) else (if (0 : Int) > x1 then (0 : Int) else x1)))).toNat) x10.size).toList))
 (Q (.bool false) w1_5)
 (Calls prog 15 #[.pointer t19a] w1_5 fun en w1_6 =>
 ∃ t65 : Int, en = .returned (.int .i64 t65) ∧
 IfB (t65 != ((x10.size : Nat) : Int))
 (Q (.bool false) w1_6)
 (Calls prog 27 #[.pointer t19a] w1_6 fun en w1_7 =>
 ∃ t72 : Int, en = .returned (.int .i64 t72) ∧
 IfB (t72 != ((t16.l : Nat) : Int))
 (Q (.bool false) w1_7)
 (IfB (((t47.l : Nat) : Int) != IntKind.wrap .i64 (((t16.l : Nat) : Int) - (if ((t16.l : Nat) : Int) < (if (0 : Int) > x2 then (0 : Int) else x2) then ((t16.l : Nat) : Int) else (if (0 : Int) > x2 then (0 : Int) else x2))))
 (Q (.bool false) w1_7)
 ((0 ≤ (if ((t16.l : Nat) : Int) < (if (0 : Int) > x2 then (0 : Int) else x2) then ((t16.l : Nat) : Int) else (if (0 : Int) > x2 then (0 : Int) else x2)) ∧ (if ((t16.l : Nat) : Int) < (if (0 : Int) > x2 then (0 : Int) else x2) then ((t16.l : Nat) : Int) else (if (0 : Int) > x2 then (0 : Int) else x2)) ≤ ((t16.l : Nat) : Int)) ∧
 Calls prog 22 #[.slice t47.a t47.l t47.c, .slice (slA t16.a (((if ((t16.l : Nat) : Int) < (if (0 : Int) > x2 then (0 : Int) else x2) then ((t16.l : Nat) : Int) else (if (0 : Int) > x2 then (0 : Int) else x2))).toNat) t16.c 1) (t16.l - (((if ((t16.l : Nat) : Int) < (if (0 : Int) > x2 then (0 : Int) else x2) then ((t16.l : Nat) : Int) else (if (0 : Int) > x2 then (0 : Int) else x2))).toNat)) (t16.c - (((if ((t16.l : Nat) : Int) < (if (0 : Int) > x2 then (0 : Int) else x2) then ((t16.l : Nat) : Int) else (if (0 : Int) > x2 then (0 : Int) else x2))).toNat))] w1_7 fun en w1_8 =>
 ∃ t90 : Bool, en = .returned (.bool t90) ∧
 Q (.bool t90) w1_8)))))))
def an7 : Ann := { cut := fun i => bif Nat.beq i 4 then some [(27, .bool)] else none, loop := fun i => bif Nat.beq i 7 then [(10, .str), (11, .int .i64)] else [] }
theorem eq7 (x0 : Sl) (x1 : Int) (x2 : Int) (w : World) (Q : Value → World → Prop) : F7 x0 x1 x2 w Q = vc prog an7 (Try.f7.body.getD .skip) (envOf [.slice x0.a x0.l x0.c, .int .i64 x1, .int .i64 x2]) w (retK prog Try.f7 Q) := by kernel_rfl
theorem ok7 : codeOk Try.f7.ntmps (Try.f7.body.getD .skip) = true := by kernel_rfl
theorem W7 {x0 : Sl} {x1 : Int} {x2 : Int} {w : World} {Q : Value → World → Prop} (h : F7 x0 x1 x2 w Q) : Calls prog 7 #[.slice x0.a x0.l x0.c, .int .i64 x1, .int .i64 x2] w fun en w' => ∃ v, en = .returned v ∧ Q v w' :=
  calls_of_vc good follows an7 (args := [.slice x0.a x0.l x0.c, .int .i64 x1, .int .i64 x2]) Try.func7 (by kernel_rfl) ok7 (of_decide_eq_true (by kernel_rfl)) (Eq.mp (eq7 x0 x1 x2 w Q) h)

/-- (*bastion/logs.Log).Copy -/
def F28 (x0 : Option Addr) (w : World) (Q : Value → World → Prop) : Prop :=
 ∃ b4 : Bool, BinIs prog .eql 23 (.tmp 3) (.const (.pointer none)) (.pointer x0) (.pointer none) b4 ∧
 IfB b4
 (Q (.pointer none) w)
 (∃ S : World → Prop, S w.drew ∧
 ∃ p6, x0 = some p6 ∧
 ∃ t8 : Sl, (∀ w', S w' → Ld w' (p6.add 0) (.slice t8.a t8.l t8.c)) ∧
 ∃ p11, x0 = some p11 ∧
 ∃ t13 : Int, (∀ w', S w' → Ld w' (p11.add 1) (.int .i64 t13)) ∧
 Calls prog 43 #[.slice t8.a t8.l t8.c] w.drew fun en w1 =>
 ∃ t9 : Sl, en = .returned (.slice t9.a t9.l t9.c) ∧
 S w1 ∧
 ∃ t14 : Array Value, BuildIs prog 63 #[(0, .slice t9.a t9.l t9.c), (1, .int .i64 t13)] t14 ∧
 ∀ b15 w1_1, NewB w1 (.cells t14 63) b15 w1_1 →
 Q (.pointer (some (⟨b15, 0, none⟩ : Addr))) w1_1)
def an28 : Ann := { cut := fun i => none, loop := fun i => [] }
theorem eq28 (x0 : Option Addr) (w : World) (Q : Value → World → Prop) : F28 x0 w Q = vc prog an28 (Try.f28.body.getD .skip) (envOf [.pointer x0]) w (retK prog Try.f28 Q) := by kernel_rfl
theorem ok28 : codeOk Try.f28.ntmps (Try.f28.body.getD .skip) = true := by kernel_rfl
theorem W28 {x0 : Option Addr} {w : World} {Q : Value → World → Prop} (h : F28 x0 w Q) : Calls prog 28 #[.pointer x0] w fun en w' => ∃ v, en = .returned v ∧ Q v w' :=
  calls_of_vc good follows an28 (args := [.pointer x0]) Try.func28 (by kernel_rfl) ok28 (of_decide_eq_true (by kernel_rfl)) (Eq.mp (eq28 x0 w Q) h)

/-- bastion/bastionlaw22.LogsBack -/
def F8 (x0 : Sl) (x1 : ByteArray) (w : World) (Q : Value → World → Prop) : Prop :=
 Calls prog 18 #[.slice x0.a x0.l x0.c] w fun en w1 =>
 ∃ t19 : Sl, en = .returned (.slice t19.a t19.l t19.c) ∧
 Calls prog 24 #[.slice t19.a t19.l t19.c] w1 fun en w1_1 =>
 ∃ t22a : Option Addr, ∃ t22b : Bool, en = .returned (.tuple #[.pointer t22a, .bool t22b]) ∧
 ∃ J : Bool → World → Prop, (Calls prog 19 #[] w1_1 fun en w1_2 =>
 ∃ t25 : Bool, en = .returned (.bool t25) ∧
 IfB (!t25)
 (J true w1_2)
 (J (!t22b) w1_2)) ∧
 (∀ (u : Env) (x30 : Bool) (w1_2 : World), J x30 w1_2 →
 IfB x30
 (Q (.bool false) w1_2)
 (Calls prog 17 #[.pointer t22a] w1_2 fun en w1_3 =>
 ∃ t32 : Sl, en = .returned (.slice t32.a t32.l t32.c) ∧
 Calls prog 11 #[.slice t32.a t32.l t32.c] w1_3 fun en w1_4 =>
 ∃ t35a : Option Addr, ∃ t35b : Int, en = .returned (.tuple #[.pointer t35a, .int .i64 t35b]) ∧
 IfB (t35b != (0 : Int))
 (Q (.bool false) w1_4)
 (Calls prog 28 #[.pointer t22a] w1_4 fun en w1_5 =>
 ∃ t41 : Option Addr, en = .returned (.pointer t41) ∧
 Calls prog 21 #[.pointer t22a, .int .i64 ((t19.l : Nat) : Int), .string x1] w1_5 fun en w1_6 =>
 ∃ t46a : Bool, ∃ t46b : Int, en = .returned (.tuple #[.bool t46a, .int .i64 t46b]) ∧
 (0 ≤ IntKind.wrap .i64 (((t32.l : Nat) : Int) - (1 : Int)) ∧ IntKind.wrap .i64 (((t32.l : Nat) : Int) - (1 : Int)) ≤ ((t32.c : Nat) : Int)) ∧
 Calls prog 11 #[.slice (slA t32.a 0 t32.c 1) ((IntKind.wrap .i64 (((t32.l : Nat) : Int) - (1 : Int))).toNat - 0) (t32.c - 0)] w1_6 fun en w1_7 =>
 ∃ t53a : Option Addr, ∃ t53b : Int, en = .returned (.tuple #[.pointer t53a, .int .i64 t53b]) ∧
 RunT prog .slice (Instr.buildSlice 22 0 #[]) w1_7 fun (t57 : Sl) w1_8 =>
 RunT prog .slice (Builtin.append_ #[22, 22] 22 #[.slice t57.a t57.l t57.c, .slice t32.a t32.l t32.c]) w1_8 fun (t59 : Sl) w1_9 =>
 RunT prog .slice (Instr.buildSlice 22 1 #[(0, .int .u8 0)]) w1_9 fun (t60 : Sl) w1_10 =>
 RunT prog .slice (Builtin.append_ #[22, 22] 22 #[.slice t59.a t59.l t59.c, .slice t60.a t60.l t60.c]) w1_10 fun (t61 : Sl) w1_11 =>
 Calls prog 11 #[.slice t61.a t61.l t61.c] w1_11 fun en w1_12 =>
 ∃ t62a : Option Addr, ∃ t62b : Int, en = .returned (.tuple #[.pointer t62a, .int .i64 t62b]) ∧
 Calls prog 14 #[.pointer t35a, .int .i64 0] w1_12 fun en w1_13 =>
 ∃ t66 : Sl, en = .returned (.slice t66.a t66.l t66.c) ∧
 Calls prog 14 #[.pointer t41, .int .i64 0] w1_13 fun en w1_14 =>
 ∃ t68 : Sl, en = .returned (.slice t68.a t68.l t68.c) ∧
 IfB (((t66.l : Nat) : Int) == ((t19.l : Nat) : Int))
 (Calls prog 22 #[.slice t66.a t66.l t66.c, .slice t19.a t19.l t19.c] w1_14.drew fun en w1_15 =>
 ∃ t77 : Bool, en = .returned (.bool t77) ∧
 IfB t77
 (IfB (((t68.l : Nat) : Int) == ((t19.l : Nat) : Int))
 (Calls prog 22 #[.slice t68.a t68.l t68.c, .slice t19.a t19.l t19.c] w1_15 fun en w1_16 =>
 ∃ t89 : Bool, en = .returned (.bool t89) ∧
 IfB t89
 ((Calls prog 17 #[.pointer t35a] w1_16 fun en w1_17 =>
 ∃ t93 : Sl, en = .returned (.slice t93.a t93.l t93.c) ∧
 (RunT prog .str (convert 22 9 (.slice t93.a t93.l t93.c)) w1_17 fun (t94 : ByteArray) w1_18 =>
 RunT prog .str (convert 22 9 (.slice t32.a t32.l t32.c)) w1_18 fun (t96 : ByteArray) w1_19 =>
 IfB (t94.toList == t96.toList)
 ((Calls prog 17 #[.pointer t41] w1_19 fun en w1_20 =>
 ∃ t101 : Sl, en = .returned (.slice t101.a t101.l t101.c) ∧
 (RunT prog .str (convert 22 9 (.slice t101.a t101.l t101.c)) w1_20 fun (t102 : ByteArray) w1_21 =>
 RunT prog .str (convert 22 9 (.slice t32.a t32.l t32.c)) w1_21 fun (t104 : ByteArray) w1_22 =>
 IfB (t102.toList == t104.toList)
 (IfB (t53b == (4 : Int))
 (Q (.bool (t62b == (4 : Int))) w1_22)
 (Q (.bool false) w1_22))
 (Q (.bool false) w1_22)) ∧
 (RunT prog .str (convert 22 9 (.slice t32.a t32.l t32.c)) w1_20 fun (t104 : ByteArray) w1_21 =>
 RunT prog .str (convert 22 9 (.slice t101.a t101.l t101.c)) w1_21 fun (t102 : ByteArray) w1_22 =>
 IfB (t102.toList == t104.toList)
 (IfB (t53b == (4 : Int))
 (Q (.bool (t62b == (4 : Int))) w1_22)
 (Q (.bool false) w1_22))
 (Q (.bool false) w1_22))) ∧
 (RunT prog .str (convert 22 9 (.slice t32.a t32.l t32.c)) w1_19 fun (t104 : ByteArray) w1_20 =>
 Calls prog 17 #[.pointer t41] w1_20 fun en w1_21 =>
 ∃ t101 : Sl, en = .returned (.slice t101.a t101.l t101.c) ∧
 RunT prog .str (convert 22 9 (.slice t101.a t101.l t101.c)) w1_21 fun (t102 : ByteArray) w1_22 =>
 IfB (t102.toList == t104.toList)
 (IfB (t53b == (4 : Int))
 (Q (.bool (t62b == (4 : Int))) w1_22)
 (Q (.bool false) w1_22))
 (Q (.bool false) w1_22)))
 (((Q (.bool false) w1_19) ∧
 (Q (.bool false) w1_19)) ∧
 (Q (.bool false) w1_19))) ∧
 (RunT prog .str (convert 22 9 (.slice t32.a t32.l t32.c)) w1_17 fun (t96 : ByteArray) w1_18 =>
 RunT prog .str (convert 22 9 (.slice t93.a t93.l t93.c)) w1_18 fun (t94 : ByteArray) w1_19 =>
 IfB (t94.toList == t96.toList)
 ((Calls prog 17 #[.pointer t41] w1_19 fun en w1_20 =>
 ∃ t101 : Sl, en = .returned (.slice t101.a t101.l t101.c) ∧
 (RunT prog .str (convert 22 9 (.slice t101.a t101.l t101.c)) w1_20 fun (t102 : ByteArray) w1_21 =>
 RunT prog .str (convert 22 9 (.slice t32.a t32.l t32.c)) w1_21 fun (t104 : ByteArray) w1_22 =>
 IfB (t102.toList == t104.toList)
 (IfB (t53b == (4 : Int))
 (Q (.bool (t62b == (4 : Int))) w1_22)
 (Q (.bool false) w1_22))
 (Q (.bool false) w1_22)) ∧
 (RunT prog .str (convert 22 9 (.slice t32.a t32.l t32.c)) w1_20 fun (t104 : ByteArray) w1_21 =>
 RunT prog .str (convert 22 9 (.slice t101.a t101.l t101.c)) w1_21 fun (t102 : ByteArray) w1_22 =>
 IfB (t102.toList == t104.toList)
 (IfB (t53b == (4 : Int))
 (Q (.bool (t62b == (4 : Int))) w1_22)
 (Q (.bool false) w1_22))
 (Q (.bool false) w1_22))) ∧
 (RunT prog .str (convert 22 9 (.slice t32.a t32.l t32.c)) w1_19 fun (t104 : ByteArray) w1_20 =>
 Calls prog 17 #[.pointer t41] w1_20 fun en w1_21 =>
 ∃ t101 : Sl, en = .returned (.slice t101.a t101.l t101.c) ∧
 RunT prog .str (convert 22 9 (.slice t101.a t101.l t101.c)) w1_21 fun (t102 : ByteArray) w1_22 =>
 IfB (t102.toList == t104.toList)
 (IfB (t53b == (4 : Int))
 (Q (.bool (t62b == (4 : Int))) w1_22)
 (Q (.bool false) w1_22))
 (Q (.bool false) w1_22)))
 (((Q (.bool false) w1_19) ∧
 (Q (.bool false) w1_19)) ∧
 (Q (.bool false) w1_19)))) ∧
 (RunT prog .str (convert 22 9 (.slice t32.a t32.l t32.c)) w1_16 fun (t96 : ByteArray) w1_17 =>
 Calls prog 17 #[.pointer t35a] w1_17 fun en w1_18 =>
 ∃ t93 : Sl, en = .returned (.slice t93.a t93.l t93.c) ∧
 RunT prog .str (convert 22 9 (.slice t93.a t93.l t93.c)) w1_18 fun (t94 : ByteArray) w1_19 =>
 IfB (t94.toList == t96.toList)
 ((Calls prog 17 #[.pointer t41] w1_19 fun en w1_20 =>
 ∃ t101 : Sl, en = .returned (.slice t101.a t101.l t101.c) ∧
 (RunT prog .str (convert 22 9 (.slice t101.a t101.l t101.c)) w1_20 fun (t102 : ByteArray) w1_21 =>
 RunT prog .str (convert 22 9 (.slice t32.a t32.l t32.c)) w1_21 fun (t104 : ByteArray) w1_22 =>
 IfB (t102.toList == t104.toList)
 (IfB (t53b == (4 : Int))
 (Q (.bool (t62b == (4 : Int))) w1_22)
 (Q (.bool false) w1_22))
 (Q (.bool false) w1_22)) ∧
 (RunT prog .str (convert 22 9 (.slice t32.a t32.l t32.c)) w1_20 fun (t104 : ByteArray) w1_21 =>
 RunT prog .str (convert 22 9 (.slice t101.a t101.l t101.c)) w1_21 fun (t102 : ByteArray) w1_22 =>
 IfB (t102.toList == t104.toList)
 (IfB (t53b == (4 : Int))
 (Q (.bool (t62b == (4 : Int))) w1_22)
 (Q (.bool false) w1_22))
 (Q (.bool false) w1_22))) ∧
 (RunT prog .str (convert 22 9 (.slice t32.a t32.l t32.c)) w1_19 fun (t104 : ByteArray) w1_20 =>
 Calls prog 17 #[.pointer t41] w1_20 fun en w1_21 =>
 ∃ t101 : Sl, en = .returned (.slice t101.a t101.l t101.c) ∧
 RunT prog .str (convert 22 9 (.slice t101.a t101.l t101.c)) w1_21 fun (t102 : ByteArray) w1_22 =>
 IfB (t102.toList == t104.toList)
 (IfB (t53b == (4 : Int))
 (Q (.bool (t62b == (4 : Int))) w1_22)
 (Q (.bool false) w1_22))
 (Q (.bool false) w1_22)))
 (((Q (.bool false) w1_19) ∧
 (Q (.bool false) w1_19)) ∧
 (Q (.bool false) w1_19))))
 (((((Q (.bool false) w1_16) ∧
 (Q (.bool false) w1_16)) ∧
 (Q (.bool false) w1_16)) ∧
 (((Q (.bool false) w1_16) ∧
 (Q (.bool false) w1_16)) ∧
 (Q (.bool false) w1_16))) ∧
 (((Q (.bool false) w1_16) ∧
 (Q (.bool false) w1_16)) ∧
 (Q (.bool false) w1_16))))
 (((((Q (.bool false) w1_15) ∧
 (Q (.bool false) w1_15)) ∧
 (Q (.bool false) w1_15)) ∧
 (((Q (.bool false) w1_15) ∧
 (Q (.bool false) w1_15)) ∧
 (Q (.bool false) w1_15))) ∧
 (((Q (.bool false) w1_15) ∧
 (Q (.bool false) w1_15)) ∧
 (Q (.bool false) w1_15))))
 (((((Q (.bool false) w1_15) ∧
 (Q (.bool false) w1_15)) ∧
 (Q (.bool false) w1_15)) ∧
 (((Q (.bool false) w1_15) ∧
 (Q (.bool false) w1_15)) ∧
 (Q (.bool false) w1_15))) ∧
 (((Q (.bool false) w1_15) ∧
 (Q (.bool false) w1_15)) ∧
 (Q (.bool false) w1_15))))
 (((((Q (.bool false) w1_14.drew) ∧
 (Q (.bool false) w1_14.drew)) ∧
 (Q (.bool false) w1_14.drew)) ∧
 (((Q (.bool false) w1_14.drew) ∧
 (Q (.bool false) w1_14.drew)) ∧
 (Q (.bool false) w1_14.drew))) ∧
 (((Q (.bool false) w1_14.drew) ∧
 (Q (.bool false) w1_14.drew)) ∧
 (Q (.bool false) w1_14.drew))))))
def an8 : Ann := { cut := fun i => bif Nat.beq i 4 then some [(30, .bool)] else none, loop := fun i => [] }
theorem eq8 (x0 : Sl) (x1 : ByteArray) (w : World) (Q : Value → World → Prop) : F8 x0 x1 w Q = vc prog an8 (Try.f8.body.getD .skip) (envOf [.slice x0.a x0.l x0.c, .string x1]) w (retK prog Try.f8 Q) := by kernel_rfl
theorem ok8 : codeOk Try.f8.ntmps (Try.f8.body.getD .skip) = true := by kernel_rfl
theorem W8 {x0 : Sl} {x1 : ByteArray} {w : World} {Q : Value → World → Prop} (h : F8 x0 x1 w Q) : Calls prog 8 #[.slice x0.a x0.l x0.c, .string x1] w fun en w' => ∃ v, en = .returned v ∧ Q v w' :=
  calls_of_vc good follows an8 (args := [.slice x0.a x0.l x0.c, .string x1]) Try.func8 (by kernel_rfl) ok8 (of_decide_eq_true (by kernel_rfl)) (Eq.mp (eq8 x0 x1 w Q) h)

/-- bastion/bastionlaw22.letters -/
def F29 (x0 : Int) (w : World) (Q : Value → World → Prop) : Prop :=
 RunT prog .slice (Instr.makeSlice 22 (.int .i64 x0) (.int .i64 x0)) w fun (t6 : Sl) w1 =>
 ∃ (I : Nat → Int → World → Prop) (n0 : Nat), I n0 (0 : Int) w1 ∧
 ∀ (n : Nat) (u : Env) (x4 : Int) (w1_1 : World), I n x4 w1_1 →
 IfB (decide (x4 < x0))
 (∃ p14, t6.a = some p14 ∧ 0 ≤ x4 ∧ x4 < ((t6.l : Nat) : Int) ∧
 Wr w1_1 (p14.add ((x4).toNat * 1)) ∧ ∀ w1_2, w1_2 = w1_1.setCell (p14.add ((x4).toNat * 1)) (.int .u8 97) →
 ∃ n', n' < n ∧ I n' (IntKind.wrap .i64 (x4 + (1 : Int))) w1_2)
 (RunT prog .str (convert 22 9 (.slice t6.a t6.l t6.c)) w1_1 fun (t16 : ByteArray) w1_2 =>
 Q (.string t16) w1_2)
def an29 : Ann := { cut := fun i => none, loop := fun i => bif Nat.beq i 3 then [(4, .int .i64)] else [] }
theorem eq29 (x0 : Int) (w : World) (Q : Value → World → Prop) : F29 x0 w Q = vc prog an29 (Try.f29.body.getD .skip) (envOf [.int .i64 x0]) w (retK prog Try.f29 Q) := by kernel_rfl
theorem ok29 : codeOk Try.f29.ntmps (Try.f29.body.getD .skip) = true := by kernel_rfl
theorem W29 {x0 : Int} {w : World} {Q : Value → World → Prop} (h : F29 x0 w Q) : Calls prog 29 #[.int .i64 x0] w fun en w' => ∃ v, en = .returned v ∧ Q v w' :=
  calls_of_vc good follows an29 (args := [.int .i64 x0]) Try.func29 (by kernel_rfl) ok29 (of_decide_eq_true (by kernel_rfl)) (Eq.mp (eq29 x0 w Q) h)

/-- (*bastion/logs.Log).Piece -/
def F30 (x0 : Option Addr) (x1 : Int) (w : World) (Q : Value → World → Prop) : Prop :=
 ∃ b7 : Bool, BinIs prog .eql 23 (.tmp 6) (.const (.pointer none)) (.pointer x0) (.pointer none) b7 ∧
 IfB b7
 (Q (.tuple #[.string (⟨#[]⟩ : ByteArray), .int .i64 2]) w)
 (IfB (decide (x1 < (0 : Int)))
 (Q (.tuple #[.string (⟨#[]⟩ : ByteArray), .int .i64 1]) w)
 (∃ p13, x0 = some p13 ∧
 ∃ t15 : Sl, Ld w (p13.add 0) (.slice t15.a t15.l t15.c) ∧
 IfB (decide (x1 ≥ ((t15.l : Nat) : Int)))
 (Q (.tuple #[.string (⟨#[]⟩ : ByteArray), .int .i64 1]) w)
 (∃ p20, x0 = some p20 ∧
 ∃ t22 : Sl, Ld w (p20.add 0) (.slice t22.a t22.l t22.c) ∧
 ∃ p24, t22.a = some p24 ∧ 0 ≤ x1 ∧ x1 < ((t22.l : Nat) : Int) ∧
 ∃ t25 : ByteArray, Ld w (p24.add ((x1).toNat * 1)) (.string t25) ∧
 Q (.tuple #[.string t25, .int .i64 0]) w)))
def an30 : Ann := { cut := fun i => none, loop := fun i => [] }
theorem eq30 (x0 : Option Addr) (x1 : Int) (w : World) (Q : Value → World → Prop) : F30 x0 x1 w Q = vc prog an30 (Try.f30.body.getD .skip) (envOf [.pointer x0, .int .i64 x1]) w (retK prog Try.f30 Q) := by kernel_rfl
theorem ok30 : codeOk Try.f30.ntmps (Try.f30.body.getD .skip) = true := by kernel_rfl
theorem W30 {x0 : Option Addr} {x1 : Int} {w : World} {Q : Value → World → Prop} (h : F30 x0 x1 w Q) : Calls prog 30 #[.pointer x0, .int .i64 x1] w fun en w' => ∃ v, en = .returned v ∧ Q v w' :=
  calls_of_vc good follows an30 (args := [.pointer x0, .int .i64 x1]) Try.func30 (by kernel_rfl) ok30 (of_decide_eq_true (by kernel_rfl)) (Eq.mp (eq30 x0 x1 w Q) h)

/-- bastion/bastionlaw22.LogsNames -/
def F9 (w : World) (Q : Value → World → Prop) : Prop :=
 Calls prog 19 #[] w fun en w1 =>
 ∃ t44 : Bool, en = .returned (.bool t44) ∧
 IfB (!t44)
 (Q (.bool false) w1)
 (Calls prog 20 #[] w1 fun en w1_1 =>
 ∃ t64 : Option Addr, en = .returned (.pointer t64) ∧
 Calls prog 29 #[.int .i64 257] w1_1 fun en w1_2 =>
 ∃ t67 : ByteArray, en = .returned (.string t67) ∧
 Calls prog 21 #[.pointer t64, .int .i64 0, .string t67] w1_2 fun en w1_3 =>
 ∃ t68a : Bool, ∃ t68b : Int, en = .returned (.tuple #[.bool t68a, .int .i64 t68b]) ∧
 Calls prog 29 #[.int .i64 257] w1_3 fun en w1_4 =>
 ∃ t73 : ByteArray, en = .returned (.string t73) ∧
 Calls prog 21 #[.pointer t64, .int .i64 (-1), .string t73] w1_4 fun en w1_5 =>
 ∃ t74a : Bool, ∃ t74b : Int, en = .returned (.tuple #[.bool t74a, .int .i64 t74b]) ∧
 Calls prog 29 #[.int .i64 256] w1_5 fun en w1_6 =>
 ∃ t79 : ByteArray, en = .returned (.string t79) ∧
 Calls prog 21 #[.pointer t64, .int .i64 0, .string t79] w1_6 fun en w1_7 =>
 ∃ t80a : Bool, ∃ t80b : Int, en = .returned (.tuple #[.bool t80a, .int .i64 t80b]) ∧
 Calls prog 29 #[.int .i64 257] w1_7 fun en w1_8 =>
 ∃ t85 : ByteArray, en = .returned (.string t85) ∧
 Calls prog 21 #[.pointer t64, .int .i64 0, .string t85] w1_8 fun en w1_9 =>
 ∃ t86a : Bool, ∃ t86b : Int, en = .returned (.tuple #[.bool t86a, .int .i64 t86b]) ∧
 ∃ (I : Nat → Int → World → Prop) (n0 : Nat), I n0 (1 : Int) w1_9 ∧
 ∀ (n : Nat) (u : Env) (x10 : Int) (w1_10 : World), I n x10 w1_10 →
 IfB (decide (x10 < (64 : Int)))
 (Calls prog 21 #[.pointer t64, .int .i64 x10, .string (⟨#[120]⟩ : ByteArray)] w1_10 fun en w1_11 =>
 ∃ t96a : Bool, ∃ t96b : Int, en = .returned (.tuple #[.bool t96a, .int .i64 t96b]) ∧
 IfB (!t96a)
 (Q (.bool false) w1_11)
 (IfB (t96b != (0 : Int))
 (Q (.bool false) w1_11)
 (∃ n', n' < n ∧ I n' (IntKind.wrap .i64 (x10 + (1 : Int))) w1_11)))
 (Calls prog 21 #[.pointer t64, .int .i64 64, .string (⟨#[120]⟩ : ByteArray)] w1_10 fun en w1_11 =>
 ∃ t107a : Bool, ∃ t107b : Int, en = .returned (.tuple #[.bool t107a, .int .i64 t107b]) ∧
 Calls prog 21 #[.pointer t64, .int .i64 63, .string (⟨#[120]⟩ : ByteArray)] w1_11 fun en w1_12 =>
 ∃ t112a : Bool, ∃ t112b : Int, en = .returned (.tuple #[.bool t112a, .int .i64 t112b]) ∧
 Calls prog 21 #[.pointer t64, .int .i64 1099511627776, .string (⟨#[120]⟩ : ByteArray)] w1_12 fun en w1_13 =>
 ∃ t117a : Bool, ∃ t117b : Int, en = .returned (.tuple #[.bool t117a, .int .i64 t117b]) ∧
 Calls prog 30 #[.pointer t64, .int .i64 64] w1_13 fun en w1_14 =>
 ∃ t122a : ByteArray, ∃ t122b : Int, en = .returned (.tuple #[.string t122a, .int .i64 t122b]) ∧
 Calls prog 30 #[.pointer t64, .int .i64 (-1)] w1_14 fun en w1_15 =>
 ∃ t127a : ByteArray, ∃ t127b : Int, en = .returned (.tuple #[.string t127a, .int .i64 t127b]) ∧
 Calls prog 30 #[.pointer t64, .int .i64 63] w1_15 fun en w1_16 =>
 ∃ t132a : ByteArray, ∃ t132b : Int, en = .returned (.tuple #[.string t132a, .int .i64 t132b]) ∧
 ∃ J : Bool → World → Prop, (IfB (t68b != (40 : Int))
 (J true w1_16)
 (IfB (t74b != (1 : Int))
 (J true w1_16)
 (IfB (t80b != (0 : Int))
 (J true w1_16)
 (IfB (t86b != (40 : Int))
 (J true w1_16)
 (IfB (t107b != (3 : Int))
 (J true w1_16)
 (IfB t112a
 (J true w1_16)
 (IfB (t112b != (0 : Int))
 (J true w1_16)
 (IfB (t117b != (3 : Int))
 (J true w1_16)
 (IfB (t122b != (1 : Int))
 (J true w1_16)
 (IfB (t127b != (1 : Int))
 (J true w1_16)
 (IfB (t132b != (0 : Int))
 (J true w1_16)
 (IfB (!(t132a.toList == (⟨#[120]⟩ : ByteArray).toList))
 (J true w1_16)
 (Calls prog 27 #[.pointer t64] w1_16 fun en w1_17 =>
 ∃ t182 : Int, en = .returned (.int .i64 t182) ∧
 IfB (t182 != (64 : Int))
 (J true w1_17)
 (Calls prog 15 #[.pointer t64] w1_17 fun en w1_18 =>
 ∃ t187 : Int, en = .returned (.int .i64 t187) ∧
 IfB (t187 != (319 : Int))
 (J true w1_18)
 (Calls prog 26 #[.pointer t64, .int .i64 400] w1_18 fun en w1_19 =>
 ∃ t192 : ByteArray, en = .returned (.string t192) ∧
 IfB (((t192.size : Nat) : Int) != (319 : Int))
 (J true w1_19)
 (Calls prog 26 #[.pointer t64, .int .i64 (-1)] w1_19 fun en w1_20 =>
 ∃ t198 : ByteArray, en = .returned (.string t198) ∧
 IfB (((t198.size : Nat) : Int) != (0 : Int))
 (J true w1_20)
 (Calls prog 14 #[.pointer t64, .int .i64 (-9)] w1_20 fun en w1_21 =>
 ∃ t204 : Sl, en = .returned (.slice t204.a t204.l t204.c) ∧
 IfB (((t204.l : Nat) : Int) != (64 : Int))
 (J true w1_21)
 (Calls prog 14 #[.pointer t64, .int .i64 64] w1_21 fun en w1_22 =>
 ∃ t210 : Sl, en = .returned (.slice t210.a t210.l t210.c) ∧
 IfB (((t210.l : Nat) : Int) != (0 : Int))
 (J true w1_22)
 (Calls prog 25 #[.pointer t64, .int .i64 (-3), .int .i64 1] w1_22 fun en w1_23 =>
 ∃ t216 : Sl, en = .returned (.slice t216.a t216.l t216.c) ∧
 IfB (((t216.l : Nat) : Int) != (1 : Int))
 (J true w1_23)
 (Calls prog 25 #[.pointer t64, .int .i64 1, .int .i64 0] w1_23 fun en w1_24 =>
 ∃ t222 : Sl, en = .returned (.slice t222.a t222.l t222.c) ∧
 J (((t222.l : Nat) : Int) != (0 : Int)) w1_24)))))))))))))))))))) ∧
 (∀ (u_1 : Env) (x225 : Bool) (w1_17 : World), J x225 w1_17 →
 IfB x225
 (Q (.bool false) w1_17)
 (RunT prog .slice (Instr.buildSlice 22 1 #[(0, .int .u8 0)]) w1_17 fun (t227 : Sl) w1_18 =>
 Calls prog 11 #[.slice t227.a t227.l t227.c] w1_18 fun en w1_19 =>
 ∃ t228a : Option Addr, ∃ t228b : Int, en = .returned (.tuple #[.pointer t228a, .int .i64 t228b]) ∧
 RunT prog .slice (Instr.buildSlice 22 2 #[(0, .int .u8 1), (1, .int .u8 0)]) w1_19 fun (t232 : Sl) w1_20 =>
 Calls prog 11 #[.slice t232.a t232.l t232.c] w1_20 fun en w1_21 =>
 ∃ t233a : Option Addr, ∃ t233b : Int, en = .returned (.tuple #[.pointer t233a, .int .i64 t233b]) ∧
 RunT prog .slice (Instr.buildSlice 22 2 #[(0, .int .u8 0), (1, .int .u8 0)]) w1_21 fun (t237 : Sl) w1_22 =>
 Calls prog 11 #[.slice t237.a t237.l t237.c] w1_22 fun en w1_23 =>
 ∃ t238a : Option Addr, ∃ t238b : Int, en = .returned (.tuple #[.pointer t238a, .int .i64 t238b]) ∧
 RunT prog .slice (Instr.buildSlice 22 2 #[(0, .int .u8 128), (1, .int .u8 0)]) w1_23 fun (t242 : Sl) w1_24 =>
 Calls prog 11 #[.slice t242.a t242.l t242.c] w1_24 fun en w1_25 =>
 ∃ t243a : Option Addr, ∃ t243b : Int, en = .returned (.tuple #[.pointer t243a, .int .i64 t243b]) ∧
 RunT prog .slice (Instr.buildSlice 22 3 #[(0, .int .u8 1), (1, .int .u8 2), (2, .int .u8 97)]) w1_25 fun (t247 : Sl) w1_26 =>
 Calls prog 11 #[.slice t247.a t247.l t247.c] w1_26 fun en w1_27 =>
 ∃ t248a : Option Addr, ∃ t248b : Int, en = .returned (.tuple #[.pointer t248a, .int .i64 t248b]) ∧
 RunT prog .slice (Instr.buildSlice 22 1 #[(0, .int .u8 65)]) w1_27 fun (t252 : Sl) w1_28 =>
 Calls prog 11 #[.slice t252.a t252.l t252.c] w1_28 fun en w1_29 =>
 ∃ t253a : Option Addr, ∃ t253b : Int, en = .returned (.tuple #[.pointer t253a, .int .i64 t253b]) ∧
 Calls prog 11 #[.slice none 0 0] w1_29 fun en w1_30 =>
 ∃ t257a : Option Addr, ∃ t257b : Int, en = .returned (.tuple #[.pointer t257a, .int .i64 t257b]) ∧
 ∃ J_1 : Bool → World → Prop, (IfB (t228b != (0 : Int))
 (J_1 true w1_30)
 (Calls prog 27 #[.pointer t228a] w1_30 fun en w1_31 =>
 ∃ t264 : Int, en = .returned (.int .i64 t264) ∧
 IfB (t264 != (0 : Int))
 (J_1 true w1_31)
 (IfB (t233b != (4 : Int))
 (J_1 true w1_31)
 (IfB (t238b != (4 : Int))
 (J_1 true w1_31)
 (IfB (t243b != (4 : Int))
 (J_1 true w1_31)
 (IfB (t248b != (4 : Int))
 (J_1 true w1_31)
 (IfB (t253b != (4 : Int))
 (J_1 true w1_31)
 (J_1 (t257b != (4 : Int)) w1_31)))))))) ∧
 (∀ (u_2 : Env) (x290 : Bool) (w1_31 : World), J_1 x290 w1_31 →
 IfB x290
 (Q (.bool false) w1_31)
 (Calls prog 21 #[.pointer none, .int .i64 0, .string (⟨#[120]⟩ : ByteArray)] w1_31 fun en w1_32 =>
 ∃ t293a : Bool, ∃ t293b : Int, en = .returned (.tuple #[.bool t293a, .int .i64 t293b]) ∧
 Calls prog 30 #[.pointer none, .int .i64 0] w1_32 fun en w1_33 =>
 ∃ t298a : ByteArray, ∃ t298b : Int, en = .returned (.tuple #[.string t298a, .int .i64 t298b]) ∧
 IfB (t293b == (2 : Int))
 (IfB (t298b == (2 : Int))
 (Calls prog 27 #[.pointer none] w1_33 fun en w1_34 =>
 ∃ t309 : Int, en = .returned (.int .i64 t309) ∧
 Calls prog 15 #[.pointer none] w1_34 fun en w1_35 =>
 ∃ t311 : Int, en = .returned (.int .i64 t311) ∧
 Calls prog 14 #[.pointer none, .int .i64 0] w1_35 fun en w1_36 =>
 ∃ t314 : Sl, en = .returned (.slice t314.a t314.l t314.c) ∧
 Calls prog 26 #[.pointer none, .int .i64 9] w1_36 fun en w1_37 =>
 ∃ t318 : ByteArray, en = .returned (.string t318) ∧
 Calls prog 25 #[.pointer none, .int .i64 0, .int .i64 9] w1_37 fun en w1_38 =>
 ∃ t322 : Sl, en = .returned (.slice t322.a t322.l t322.c) ∧
 Calls prog 17 #[.pointer none] w1_38 fun en w1_39 =>
 ∃ t326 : Sl, en = .returned (.slice t326.a t326.l t326.c) ∧
 IfB (IntKind.wrap .i64 ((IntKind.wrap .i64 ((IntKind.wrap .i64 ((IntKind.wrap .i64 ((IntKind.wrap .i64 (t309 + t311)) + ((t314.l : Nat) : Int))) + ((t318.size : Nat) : Int))) + ((t322.l : Nat) : Int))) + ((t326.l : Nat) : Int)) == (0 : Int))
 (Calls prog 28 #[.pointer none] w1_39 fun en w1_40 =>
 ∃ t333 : Option Addr, en = .returned (.pointer t333) ∧
 ∃ b334 : Bool, BinIs prog .eql 23 (.tmp 333) (.const (.pointer none)) (.pointer t333) (.pointer none) b334 ∧
 Q (.bool b334) w1_40)
 (Q (.bool false) w1_39))
 (Q (.bool false) w1_33))
 (Q (.bool false) w1_33)))))))
def an9 : Ann := { cut := fun i => bif Nat.beq i 21 then some [(225, .bool)] else bif Nat.beq i 30 then some [(290, .bool)] else none, loop := fun i => bif Nat.beq i 9 then [(10, .int .i64)] else [] }
theorem eq9 (w : World) (Q : Value → World → Prop) : F9  w Q = vc prog an9 (Try.f9.body.getD .skip) (envOf []) w (retK prog Try.f9 Q) := by kernel_rfl
theorem ok9 : codeOk Try.f9.ntmps (Try.f9.body.getD .skip) = true := by kernel_rfl
theorem W9 {w : World} {Q : Value → World → Prop} (h : F9  w Q) : Calls prog 9 #[] w fun en w' => ∃ v, en = .returned v ∧ Q v w' :=
  calls_of_vc good follows an9 (args := []) Try.func9 (by kernel_rfl) ok9 (of_decide_eq_true (by kernel_rfl)) (Eq.mp (eq9  w Q) h)

/-- (*bastion/bastionref22.Log).Add -/
def F31 (x0 : Option Addr) (x1 : Int) (x2 : ByteArray) (w : World) (Q : Value → World → Prop) : Prop :=
 ∃ J : Bool → World → Prop, (IfB (decide (x1 < (0 : Int)))
 (J true w)
 (J (((x2.size : Nat) : Int) == (0 : Int)) w)) ∧
 (∀ (u : Env) (x14 : Bool) (w1 : World), J x14 w1 →
 IfB x14
 (Q (.tuple #[.bool false, .int .i64 1]) w1)
 (IfB (decide (((x2.size : Nat) : Int) > (256 : Int)))
 (Q (.tuple #[.bool false, .int .i64 40]) w1)
 (∃ p20, x0 = some p20 ∧
 ∃ t22 : Sl, Ld w1 (p20.add 0) (.slice t22.a t22.l t22.c) ∧
 IfB (decide (x1 < ((t22.l : Nat) : Int)))
 (∃ p26, x0 = some p26 ∧
 ∃ t28 : Sl, Ld w1 (p26.add 0) (.slice t28.a t28.l t28.c) ∧
 ∃ p30, t28.a = some p30 ∧ 0 ≤ x1 ∧ x1 < ((t28.l : Nat) : Int) ∧
 ∃ t31 : ByteArray, Ld w1 (p30.add ((x1).toNat * 1)) (.string t31) ∧
 IfB (!(t31.toList == x2.toList))
 (Q (.tuple #[.bool false, .int .i64 6]) w1)
 (Q (.tuple #[.bool false, .int .i64 0]) w1))
 (IfB (decide (x1 ≥ (64 : Int)))
 (Q (.tuple #[.bool false, .int .i64 3]) w1)
 (∃ p38, x0 = some p38 ∧
 ∃ t40 : Sl, Ld w1 (p38.add 0) (.slice t40.a t40.l t40.c) ∧
 IfB (decide (x1 > ((t40.l : Nat) : Int)))
 (Q (.tuple #[.bool false, .int .i64 50]) w1)
 (∃ p45, x0 = some p45 ∧
 ∃ t47 : Sl, Ld w1 (p45.add 0) (.slice t47.a t47.l t47.c) ∧
 RunT prog .slice (Instr.buildSlice 31 1 #[(0, .string x2)]) w1 fun (t49 : Sl) w1_1 =>
 RunT prog .slice (Builtin.append_ #[31, 31] 31 #[.slice t47.a t47.l t47.c, .slice t49.a t49.l t49.c]) w1_1 fun (t50 : Sl) w1_2 =>
 ∃ p51, x0 = some p51 ∧
 Wr w1_2 (p51.add 0) ∧ ∀ w1_3, w1_3 = w1_2.setCell (p51.add 0) (.slice t50.a t50.l t50.c) →
 Q (.tuple #[.bool true, .int .i64 0]) w1_3))))))
def an31 : Ann := { cut := fun i => bif Nat.beq i 2 then some [(14, .bool)] else none, loop := fun i => [] }
theorem eq31 (x0 : Option Addr) (x1 : Int) (x2 : ByteArray) (w : World) (Q : Value → World → Prop) : F31 x0 x1 x2 w Q = vc prog an31 (Try.f31.body.getD .skip) (envOf [.pointer x0, .int .i64 x1, .string x2]) w (retK prog Try.f31 Q) := by kernel_rfl
theorem ok31 : codeOk Try.f31.ntmps (Try.f31.body.getD .skip) = true := by kernel_rfl
theorem W31 {x0 : Option Addr} {x1 : Int} {x2 : ByteArray} {w : World} {Q : Value → World → Prop} (h : F31 x0 x1 x2 w Q) : Calls prog 31 #[.pointer x0, .int .i64 x1, .string x2] w fun en w' => ∃ v, en = .returned v ∧ Q v w' :=
  calls_of_vc good follows an31 (args := [.pointer x0, .int .i64 x1, .string x2]) Try.func31 (by kernel_rfl) ok31 (of_decide_eq_true (by kernel_rfl)) (Eq.mp (eq31 x0 x1 x2 w Q) h)

/-- (*bastion/bastionref22.Log).Copy -/
def F32 (x0 : Option Addr) (w : World) (Q : Value → World → Prop) : Prop :=
 RunT prog .slice (Instr.buildSlice 31 0 #[]) w fun (t3 : Sl) w1 =>
 ∃ p5, x0 = some p5 ∧
 ∃ t7 : Sl, Ld w1 (p5.add 0) (.slice t7.a t7.l t7.c) ∧
 RunT prog .slice (Builtin.append_ #[31, 31] 31 #[.slice t3.a t3.l t3.c, .slice t7.a t7.l t7.c]) w1 fun (t8 : Sl) w1_1 =>
 ∃ t9 : Array Value, BuildIs prog 34 #[(0, .slice t8.a t8.l t8.c)] t9 ∧
 ∀ b10 w1_2, NewB w1_1 (.cells t9 34) b10 w1_2 →
 Q (.pointer (some (⟨b10, 0, none⟩ : Addr))) w1_2
def an32 : Ann := { cut := fun i => none, loop := fun i => [] }
theorem eq32 (x0 : Option Addr) (w : World) (Q : Value → World → Prop) : F32 x0 w Q = vc prog an32 (Try.f32.body.getD .skip) (envOf [.pointer x0]) w (retK prog Try.f32 Q) := by kernel_rfl
theorem ok32 : codeOk Try.f32.ntmps (Try.f32.body.getD .skip) = true := by kernel_rfl
theorem W32 {x0 : Option Addr} {w : World} {Q : Value → World → Prop} (h : F32 x0 w Q) : Calls prog 32 #[.pointer x0] w fun en w' => ∃ v, en = .returned v ∧ Q v w' :=
  calls_of_vc good follows an32 (args := [.pointer x0]) Try.func32 (by kernel_rfl) ok32 (of_decide_eq_true (by kernel_rfl)) (Eq.mp (eq32 x0 w Q) h)

/-- (*bastion/bastionref22.Log).From -/
def F33 (x0 : Option Addr) (x1 : Int) (w : World) (Q : Value → World → Prop) : Prop :=
 ∃ (I : Nat → Sl → Int → World → Prop) (n0 : Nat), I n0 (⟨none, 0, 0⟩ : Sl) (0 : Int) w ∧
 ∀ (n : Nat) (u : Env) (x5 : Sl) (x6 : Int) (w1 : World), I n x5 x6 w1 →
 ∃ p9, x0 = some p9 ∧
 ∃ t11 : Sl, Ld w1 (p9.add 0) (.slice t11.a t11.l t11.c) ∧
 IfB (decide (x6 < ((t11.l : Nat) : Int)))
 (IfB (decide (x6 ≥ x1))
 (∃ p21, x0 = some p21 ∧
 ∃ t23 : Sl, Ld w1 (p21.add 0) (.slice t23.a t23.l t23.c) ∧
 ∃ p25, t23.a = some p25 ∧ 0 ≤ x6 ∧ x6 < ((t23.l : Nat) : Int) ∧
 ∃ t26 : ByteArray, Ld w1 (p25.add ((x6).toNat * 1)) (.string t26) ∧
 RunT prog .slice (Instr.buildSlice 31 1 #[(0, .string t26)]) w1 fun (t27 : Sl) w1_1 =>
 RunT prog .slice (Builtin.append_ #[31, 31] 31 #[.slice x5.a x5.l x5.c, .slice t27.a t27.l t27.c]) w1_1 fun (t28 : Sl) w1_2 =>
 ∃ n', n' < n ∧ I n' t28 (IntKind.wrap .i64 (x6 + (1 : Int))) w1_2)
 (∃ n', n' < n ∧ I n' x5 (IntKind.wrap .i64 (x6 + (1 : Int))) w1))
 (Q (.slice x5.a x5.l x5.c) w1)
def an33 : Ann := { cut := fun i => none, loop := fun i => bif Nat.beq i 3 then [(5, .slice), (6, .int .i64)] else [] }
theorem eq33 (x0 : Option Addr) (x1 : Int) (w : World) (Q : Value → World → Prop) : F33 x0 x1 w Q = vc prog an33 (Try.f33.body.getD .skip) (envOf [.pointer x0, .int .i64 x1]) w (retK prog Try.f33 Q) := by kernel_rfl
theorem ok33 : codeOk Try.f33.ntmps (Try.f33.body.getD .skip) = true := by kernel_rfl
theorem W33 {x0 : Option Addr} {x1 : Int} {w : World} {Q : Value → World → Prop} (h : F33 x0 x1 w Q) : Calls prog 33 #[.pointer x0, .int .i64 x1] w fun en w' => ∃ v, en = .returned v ∧ Q v w' :=
  calls_of_vc good follows an33 (args := [.pointer x0, .int .i64 x1]) Try.func33 (by kernel_rfl) ok33 (of_decide_eq_true (by kernel_rfl)) (Eq.mp (eq33 x0 x1 w Q) h)

/-- (*bastion/bastionref22.Log).Lines -/
def F34 (x0 : Option Addr) (x1 : Int) (x2 : Int) (w : World) (Q : Value → World → Prop) : Prop :=
 Calls prog 16 #[.pointer x0] w fun en w1 =>
 ∃ t14 : ByteArray, en = .returned (.string t14) ∧
 ∃ (I : Nat → Sl → Int → Int → World → Prop) (n0 : Nat), I n0 (⟨none, 0, 0⟩ : Sl) (0 : Int) (0 : Int) w1 ∧
 ∀ (n : Nat) (u : Env) (x8 : Sl) (x9 : Int) (x10 : Int) (w1_1 : World), I n x8 x9 x10 w1_1 →
 IfB (decide (x10 < ((t14.size : Nat) : Int)))
 (0 ≤ x10 ∧ x10 < ((t14.size : Nat) : Int) ∧
 IfB (bt t14 x10 == (10 : Int))
 ((0 ≤ IntKind.wrap .i64 (x10 + (1 : Int)) ∧ IntKind.wrap .i64 (x10 + (1 : Int)) ≤ ((t14.size : Nat) : Int)) ∧
 (0 ≤ x9 ∧ x9 ≤ (((IntKind.wrap .i64 (x10 + (1 : Int))).toNat : Nat) : Int)) ∧
 RunT prog .slice (Instr.buildSlice 31 1 #[(0, .string (t14.extract ((x9).toNat) ((IntKind.wrap .i64 (x10 + (1 : Int))).toNat)))]) w1_1 fun (t31 : Sl) w1_2 =>
 RunT prog .slice (Builtin.append_ #[31, 31] 31 #[.slice x8.a x8.l x8.c, .slice t31.a t31.l t31.c]) w1_2 fun (t32 : Sl) w1_3 =>
 ∃ n', n' < n ∧ I n' t32 (IntKind.wrap .i64 (x10 + (1 : Int))) (IntKind.wrap .i64 (x10 + (1 : Int))) w1_3)
 (∃ n', n' < n ∧ I n' x8 x9 (IntKind.wrap .i64 (x10 + (1 : Int))) w1_1))
 (∃ J : Sl → World → Prop, (IfB (decide (x9 < ((t14.size : Nat) : Int)))
 ((0 ≤ x9 ∧ x9 ≤ ((t14.size : Nat) : Int)) ∧
 RunT prog .slice (Instr.buildSlice 31 1 #[(0, .string (t14.extract ((x9).toNat) t14.size))]) w1_1 fun (t43 : Sl) w1_2 =>
 RunT prog .slice (Builtin.append_ #[31, 31] 31 #[.slice x8.a x8.l x8.c, .slice t43.a t43.l t43.c]) w1_2 fun (t44 : Sl) w1_3 =>
 J t44 w1_3)
 (J x8 w1_1)) ∧
 (∀ (u_1 : Env) (x8_1 : Sl) (w1_2 : World), J x8_1 w1_2 →
 ∃ (I_1 : Nat → Sl → Int → World → Prop) (n0_1 : Nat), I_1 n0_1 (⟨none, 0, 0⟩ : Sl) (0 : Int) w1_2 ∧
 ∀ (n_1 : Nat) (u_2 : Env) (x11 : Sl) (x12 : Int) (w1_3 : World), I_1 n_1 x11 x12 w1_3 →
 IfB (decide (x12 < ((x8_1.l : Nat) : Int)))
 (IfB (decide (x12 ≥ x1))
 (IfB (decide (x12 < x2))
 (∃ p62, x8_1.a = some p62 ∧ 0 ≤ x12 ∧ x12 < ((x8_1.l : Nat) : Int) ∧
 ∃ t63 : ByteArray, Ld w1_3 (p62.add ((x12).toNat * 1)) (.string t63) ∧
 RunT prog .slice (Instr.buildSlice 31 1 #[(0, .string t63)]) w1_3 fun (t64 : Sl) w1_4 =>
 RunT prog .slice (Builtin.append_ #[31, 31] 31 #[.slice x11.a x11.l x11.c, .slice t64.a t64.l t64.c]) w1_4 fun (t65 : Sl) w1_5 =>
 ∃ n', n' < n_1 ∧ I_1 n' t65 (IntKind.wrap .i64 (x12 + (1 : Int))) w1_5)
 (∃ n', n' < n_1 ∧ I_1 n' x11 (IntKind.wrap .i64 (x12 + (1 : Int))) w1_3))
 (∃ n', n' < n_1 ∧ I_1 n' x11 (IntKind.wrap .i64 (x12 + (1 : Int))) w1_3))
 (Q (.slice x11.a x11.l x11.c) w1_3)))
def an34 : Ann := { cut := fun i => bif Nat.beq i 12 then some [(8, .slice)] else none, loop := fun i => bif Nat.beq i 5 then [(8, .slice), (9, .int .i64), (10, .int .i64)] else bif Nat.beq i 14 then [(11, .slice), (12, .int .i64)] else [] }
theorem eq34 (x0 : Option Addr) (x1 : Int) (x2 : Int) (w : World) (Q : Value → World → Prop) : F34 x0 x1 x2 w Q = vc prog an34 (Try.f34.body.getD .skip) (envOf [.pointer x0, .int .i64 x1, .int .i64 x2]) w (retK prog Try.f34 Q) := by kernel_rfl
theorem ok34 : codeOk Try.f34.ntmps (Try.f34.body.getD .skip) = true := by kernel_rfl
theorem W34 {x0 : Option Addr} {x1 : Int} {x2 : Int} {w : World} {Q : Value → World → Prop} (h : F34 x0 x1 x2 w Q) : Calls prog 34 #[.pointer x0, .int .i64 x1, .int .i64 x2] w fun en w' => ∃ v, en = .returned v ∧ Q v w' :=
  calls_of_vc good follows an34 (args := [.pointer x0, .int .i64 x1, .int .i64 x2]) Try.func34 (by kernel_rfl) ok34 (of_decide_eq_true (by kernel_rfl)) (Eq.mp (eq34 x0 x1 x2 w Q) h)

/-- (*bastion/bastionref22.Log).Tail -/
def F35 (x0 : Option Addr) (x1 : Int) (w : World) (Q : Value → World → Prop) : Prop :=
 Calls prog 16 #[.pointer x0] w fun en w1 =>
 ∃ t7 : ByteArray, en = .returned (.string t7) ∧
 IfB (decide (x1 < (1 : Int)))
 (Q (.string (⟨#[]⟩ : ByteArray)) w1)
 (IfB (decide (x1 ≥ ((t7.size : Nat) : Int)))
 (Q (.string t7) w1)
 ((0 ≤ IntKind.wrap .i64 (((t7.size : Nat) : Int) - x1) ∧ IntKind.wrap .i64 (((t7.size : Nat) : Int) - x1) ≤ ((t7.size : Nat) : Int)) ∧
 Q (.string (t7.extract ((IntKind.wrap .i64 (((t7.size : Nat) : Int) - x1)).toNat) t7.size)) w1))
def an35 : Ann := { cut := fun i => none, loop := fun i => [] }
theorem eq35 (x0 : Option Addr) (x1 : Int) (w : World) (Q : Value → World → Prop) : F35 x0 x1 w Q = vc prog an35 (Try.f35.body.getD .skip) (envOf [.pointer x0, .int .i64 x1]) w (retK prog Try.f35 Q) := by kernel_rfl
theorem ok35 : codeOk Try.f35.ntmps (Try.f35.body.getD .skip) = true := by kernel_rfl
theorem W35 {x0 : Option Addr} {x1 : Int} {w : World} {Q : Value → World → Prop} (h : F35 x0 x1 w Q) : Calls prog 35 #[.pointer x0, .int .i64 x1] w fun en w' => ∃ v, en = .returned v ∧ Q v w' :=
  calls_of_vc good follows an35 (args := [.pointer x0, .int .i64 x1]) Try.func35 (by kernel_rfl) ok35 (of_decide_eq_true (by kernel_rfl)) (Eq.mp (eq35 x0 x1 w Q) h)

/-- bastion/bastionref01.behind -/
def F67 (x0 : Sl) (x1 : ByteArray) (w : World) (Q : Value → World → Prop) : Prop :=
 ∃ (I : Nat → Sl → Int → World → Prop) (n0 : Nat), I n0 (⟨none, 0, 0⟩ : Sl) (0 : Int) w ∧
 ∀ (n : Nat) (u : Env) (x5 : Sl) (x6 : Int) (w1 : World), I n x5 x6 w1 →
 IfB (decide (x6 < ((x0.l : Nat) : Int)))
 (∃ p17, x0.a = some p17 ∧ 0 ≤ x6 ∧ x6 < ((x0.l : Nat) : Int) ∧
 ∃ t18 : Int, Ld w1 (p17.add ((x6).toNat * 1)) (.int .u8 t18) ∧
 RunT prog .slice (Instr.buildSlice 22 1 #[(0, .int .u8 t18)]) w1 fun (t19 : Sl) w1_1 =>
 RunT prog .slice (Builtin.append_ #[22, 22] 22 #[.slice x5.a x5.l x5.c, .slice t19.a t19.l t19.c]) w1_1 fun (t20 : Sl) w1_2 =>
 ∃ n', n' < n ∧ I n' t20 (IntKind.wrap .i64 (x6 + (1 : Int))) w1_2)
 (∃ (I_1 : Nat → Sl → Int → World → Prop) (n0_1 : Nat), I_1 n0_1 x5 (0 : Int) w1 ∧
 ∀ (n_1 : Nat) (u_1 : Env) (x5_1 : Sl) (x7 : Int) (w1_1 : World), I_1 n_1 x5_1 x7 w1_1 →
 IfB (decide (x7 < ((x1.size : Nat) : Int)))
 (0 ≤ x7 ∧ x7 < ((x1.size : Nat) : Int) ∧
 RunT prog .slice (Instr.buildSlice 22 1 #[(0, .int .u8 (bt x1 x7))]) w1_1 fun (t31 : Sl) w1_2 =>
 RunT prog .slice (Builtin.append_ #[22, 22] 22 #[.slice x5_1.a x5_1.l x5_1.c, .slice t31.a t31.l t31.c]) w1_2 fun (t32 : Sl) w1_3 =>
 ∃ n', n' < n_1 ∧ I_1 n' t32 (IntKind.wrap .i64 (x7 + (1 : Int))) w1_3)
 (Q (.slice x5_1.a x5_1.l x5_1.c) w1_1))
def an67 : Ann := { cut := fun i => none, loop := fun i => bif Nat.beq i 3 then [(5, .slice), (6, .int .i64)] else bif Nat.beq i 7 then [(5, .slice), (7, .int .i64)] else [] }
theorem eq67 (x0 : Sl) (x1 : ByteArray) (w : World) (Q : Value → World → Prop) : F67 x0 x1 w Q = vc prog an67 (Try.f67.body.getD .skip) (envOf [.slice x0.a x0.l x0.c, .string x1]) w (retK prog Try.f67 Q) := by kernel_rfl
theorem ok67 : codeOk Try.f67.ntmps (Try.f67.body.getD .skip) = true := by kernel_rfl
theorem W67 {x0 : Sl} {x1 : ByteArray} {w : World} {Q : Value → World → Prop} (h : F67 x0 x1 w Q) : Calls prog 67 #[.slice x0.a x0.l x0.c, .string x1] w fun en w' => ∃ v, en = .returned v ∧ Q v w' :=
  calls_of_vc good follows an67 (args := [.slice x0.a x0.l x0.c, .string x1]) Try.func67 (by kernel_rfl) ok67 (of_decide_eq_true (by kernel_rfl)) (Eq.mp (eq67 x0 x1 w Q) h)

/-- bastion/bastionref01.groups -/
def F68 (x0 : Int) (w : World) (Q : Value → World → Prop) : Prop :=
 IfB (decide (x0 < (128 : Int)))
 (RunT prog .slice (Instr.buildSlice 22 1 #[(0, .int .u8 (IntKind.wrap .u8 x0))]) w fun (t7 : Sl) w1 =>
 RunT prog .str (convert 22 9 (.slice t7.a t7.l t7.c)) w1 fun (t8 : ByteArray) w1_1 =>
 Q (.string t8) w1_1)
 ((128 : Int) ≠ 0 ∧
 (128 : Int) ≠ 0 ∧
 (RunT prog .slice (Instr.buildSlice 22 1 #[(0, .int .u8 (IntKind.wrap .u8 (IntKind.wrap .u64 ((128 : Int) + (Int.tmod x0 (128 : Int))))))]) w.drew fun (t13 : Sl) w1 =>
 (RunT prog .str (convert 22 9 (.slice t13.a t13.l t13.c)) w1 fun (t14 : ByteArray) w1_1 =>
 Calls prog 68 #[.int .u64 (IntKind.wrap .u64 (Int.tdiv x0 (128 : Int)))] w1_1 fun en w1_2 =>
 ∃ t17 : ByteArray, en = .returned (.string t17) ∧
 t14.size + t17.size ≤ 9223372036854775807 ∧
 Q (.string (t14 ++ t17)) w1_2) ∧
 (Calls prog 68 #[.int .u64 (IntKind.wrap .u64 (Int.tdiv x0 (128 : Int)))] w1 fun en w1_1 =>
 ∃ t17 : ByteArray, en = .returned (.string t17) ∧
 RunT prog .str (convert 22 9 (.slice t13.a t13.l t13.c)) w1_1 fun (t14 : ByteArray) w1_2 =>
 t14.size + t17.size ≤ 9223372036854775807 ∧
 Q (.string (t14 ++ t17)) w1_2)) ∧
 (Calls prog 68 #[.int .u64 (IntKind.wrap .u64 (Int.tdiv x0 (128 : Int)))] w.drew fun en w1 =>
 ∃ t17 : ByteArray, en = .returned (.string t17) ∧
 RunT prog .slice (Instr.buildSlice 22 1 #[(0, .int .u8 (IntKind.wrap .u8 (IntKind.wrap .u64 ((128 : Int) + (Int.tmod x0 (128 : Int))))))]) w1 fun (t13 : Sl) w1_1 =>
 RunT prog .str (convert 22 9 (.slice t13.a t13.l t13.c)) w1_1 fun (t14 : ByteArray) w1_2 =>
 t14.size + t17.size ≤ 9223372036854775807 ∧
 Q (.string (t14 ++ t17)) w1_2))
def an68 : Ann := { cut := fun i => none, loop := fun i => [] }
theorem eq68 (x0 : Int) (w : World) (Q : Value → World → Prop) : F68 x0 w Q = vc prog an68 (Try.f68.body.getD .skip) (envOf [.int .u64 x0]) w (retK prog Try.f68 Q) := by kernel_rfl
theorem ok68 : codeOk Try.f68.ntmps (Try.f68.body.getD .skip) = true := by kernel_rfl
theorem W68 {x0 : Int} {w : World} {Q : Value → World → Prop} (h : F68 x0 w Q) : Calls prog 68 #[.int .u64 x0] w fun en w' => ∃ v, en = .returned v ∧ Q v w' :=
  calls_of_vc good follows an68 (args := [.int .u64 x0]) Try.func68 (by kernel_rfl) ok68 (of_decide_eq_true (by kernel_rfl)) (Eq.mp (eq68 x0 w Q) h)

/-- bastion/bastionref01.Count -/
def F49 (x0 : Sl) (x1 : Int) (w : World) (Q : Value → World → Prop) : Prop :=
 IfB (decide (x1 < (0 : Int)))
 (Calls prog 67 #[.slice x0.a x0.l x0.c, .string (⟨#[]⟩ : ByteArray)] w fun en w1 =>
 ∃ t12 : Sl, en = .returned (.slice t12.a t12.l t12.c) ∧
 Q (.slice t12.a t12.l t12.c) w1)
 (IfB (decide (x1 > (2147483647 : Int)))
 (Calls prog 67 #[.slice x0.a x0.l x0.c, .string (⟨#[]⟩ : ByteArray)] w fun en w1 =>
 ∃ t12 : Sl, en = .returned (.slice t12.a t12.l t12.c) ∧
 Q (.slice t12.a t12.l t12.c) w1)
 (Calls prog 68 #[.int .u64 (IntKind.wrap .u64 x1)] w fun en w1 =>
 ∃ t16 : ByteArray, en = .returned (.string t16) ∧
 Calls prog 67 #[.slice x0.a x0.l x0.c, .string t16] w1 fun en w1_1 =>
 ∃ t17 : Sl, en = .returned (.slice t17.a t17.l t17.c) ∧
 Q (.slice t17.a t17.l t17.c) w1_1))
def an49 : Ann := { cut := fun i => none, loop := fun i => [] }
theorem eq49 (x0 : Sl) (x1 : Int) (w : World) (Q : Value → World → Prop) : F49 x0 x1 w Q = vc prog an49 (Try.f49.body.getD .skip) (envOf [.slice x0.a x0.l x0.c, .int .i64 x1]) w (retK prog Try.f49 Q) := by kernel_rfl
theorem ok49 : codeOk Try.f49.ntmps (Try.f49.body.getD .skip) = true := by kernel_rfl
theorem W49 {x0 : Sl} {x1 : Int} {w : World} {Q : Value → World → Prop} (h : F49 x0 x1 w Q) : Calls prog 49 #[.slice x0.a x0.l x0.c, .int .i64 x1] w fun en w' => ∃ v, en = .returned v ∧ Q v w' :=
  calls_of_vc good follows an49 (args := [.slice x0.a x0.l x0.c, .int .i64 x1]) Try.func49 (by kernel_rfl) ok49 (of_decide_eq_true (by kernel_rfl)) (Eq.mp (eq49 x0 x1 w Q) h)

/-- bastion/bastionref01.Str -/
def F50 (x0 : Sl) (x1 : ByteArray) (w : World) (Q : Value → World → Prop) : Prop :=
 Calls prog 49 #[.slice x0.a x0.l x0.c, .int .i64 ((x1.size : Nat) : Int)] w fun en w1 =>
 ∃ t8 : Sl, en = .returned (.slice t8.a t8.l t8.c) ∧
 Calls prog 67 #[.slice t8.a t8.l t8.c, .string x1] w1 fun en w1_1 =>
 ∃ t10 : Sl, en = .returned (.slice t10.a t10.l t10.c) ∧
 Q (.slice t10.a t10.l t10.c) w1_1
def an50 : Ann := { cut := fun i => none, loop := fun i => [] }
theorem eq50 (x0 : Sl) (x1 : ByteArray) (w : World) (Q : Value → World → Prop) : F50 x0 x1 w Q = vc prog an50 (Try.f50.body.getD .skip) (envOf [.slice x0.a x0.l x0.c, .string x1]) w (retK prog Try.f50 Q) := by kernel_rfl
theorem ok50 : codeOk Try.f50.ntmps (Try.f50.body.getD .skip) = true := by kernel_rfl
theorem W50 {x0 : Sl} {x1 : ByteArray} {w : World} {Q : Value → World → Prop} (h : F50 x0 x1 w Q) : Calls prog 50 #[.slice x0.a x0.l x0.c, .string x1] w fun en w' => ∃ v, en = .returned v ∧ Q v w' :=
  calls_of_vc good follows an50 (args := [.slice x0.a x0.l x0.c, .string x1]) Try.func50 (by kernel_rfl) ok50 (of_decide_eq_true (by kernel_rfl)) (Eq.mp (eq50 x0 x1 w Q) h)

/-- (*bastion/bastionref22.Log).Save -/
def F36 (x0 : Option Addr) (w : World) (Q : Value → World → Prop) : Prop :=
 ∃ p6, x0 = some p6 ∧
 ∃ t8 : Sl, Ld w (p6.add 0) (.slice t8.a t8.l t8.c) ∧
 Calls prog 49 #[.slice none 0 0, .int .i64 ((t8.l : Nat) : Int)] w fun en w1 =>
 ∃ t10 : Sl, en = .returned (.slice t10.a t10.l t10.c) ∧
 ∃ (I : Nat → Sl → Int → World → Prop) (n0 : Nat), I n0 t10 (0 : Int) w1 ∧
 ∀ (n : Nat) (u : Env) (x3 : Sl) (x4 : Int) (w1_1 : World), I n x3 x4 w1_1 →
 ∃ p13, x0 = some p13 ∧
 ∃ t15 : Sl, Ld w1_1 (p13.add 0) (.slice t15.a t15.l t15.c) ∧
 IfB (decide (x4 < ((t15.l : Nat) : Int)))
 (∃ p22, x0 = some p22 ∧
 ∃ t24 : Sl, Ld w1_1 (p22.add 0) (.slice t24.a t24.l t24.c) ∧
 ∃ p26, t24.a = some p26 ∧ 0 ≤ x4 ∧ x4 < ((t24.l : Nat) : Int) ∧
 ∃ t27 : ByteArray, Ld w1_1 (p26.add ((x4).toNat * 1)) (.string t27) ∧
 Calls prog 50 #[.slice x3.a x3.l x3.c, .string t27] w1_1 fun en w1_2 =>
 ∃ t28 : Sl, en = .returned (.slice t28.a t28.l t28.c) ∧
 ∃ n', n' < n ∧ I n' t28 (IntKind.wrap .i64 (x4 + (1 : Int))) w1_2)
 (Q (.slice x3.a x3.l x3.c) w1_1)
def an36 : Ann := { cut := fun i => none, loop := fun i => bif Nat.beq i 3 then [(3, .slice), (4, .int .i64)] else [] }
theorem eq36 (x0 : Option Addr) (w : World) (Q : Value → World → Prop) : F36 x0 w Q = vc prog an36 (Try.f36.body.getD .skip) (envOf [.pointer x0]) w (retK prog Try.f36 Q) := by kernel_rfl
theorem ok36 : codeOk Try.f36.ntmps (Try.f36.body.getD .skip) = true := by kernel_rfl
theorem W36 {x0 : Option Addr} {w : World} {Q : Value → World → Prop} (h : F36 x0 w Q) : Calls prog 36 #[.pointer x0] w fun en w' => ∃ v, en = .returned v ∧ Q v w' :=
  calls_of_vc good follows an36 (args := [.pointer x0]) Try.func36 (by kernel_rfl) ok36 (of_decide_eq_true (by kernel_rfl)) (Eq.mp (eq36 x0 w Q) h)

/-- bastion/bastionlaw22.LogsPlays -/
def F10 (x0 : Sl) (w : World) (Q : Value → World → Prop) : Prop :=
 Calls prog 23 #[.slice x0.a x0.l x0.c] w fun en w1 =>
 ∃ t23 : Bool, en = .returned (.bool t23) ∧
 IfB t23
 (Q (.bool true) w1)
 (Calls prog 20 #[] w1 fun en w1_1 =>
 ∃ t24 : Option Addr, en = .returned (.pointer t24) ∧
 ∃ t25 : Array Value, BuildIs prog 34 #[] t25 ∧
 ∀ b26 w1_2, NewB w1_1 (.cells t25 34) b26 w1_2 →
 ∃ (I : Nat → Option Addr → Option Addr → Int → World → Prop) (n0 : Nat), I n0 t24 (some (⟨b26, 0, none⟩ : Addr)) (0 : Int) w1_2 ∧
 ∀ (n : Nat) (u : Env) (x3 : Option Addr) (x4 : Option Addr) (x5 : Int) (w1_3 : World), I n x3 x4 x5 w1_3 →
 IfB (decide (x5 < ((x0.l : Nat) : Int)))
 (∃ p35, x0.a = some p35 ∧ 0 ≤ x5 ∧ x5 < ((x0.l : Nat) : Int) ∧
 ∃ t36 : Array Value, LdA w1_3 (p35.add ((x5).toNat * 4)) 4 t36 ∧
 ∀ b6 w1_4, NewB w1_3 (.cells #[.int .i64 0, .int .i64 0, .int .i64 0, .string (⟨#[]⟩ : ByteArray)] 50) b6 w1_4 →
 t36.size = 4 ∧ (∀ u, u ∈ t36.toList → u.oneCell' = true) ∧ WrA w1_4 (⟨b6, 0, none⟩ : Addr) 4 ∧ ∀ w1_5, w1_5 = setAt w1_4 (⟨b6, 0, none⟩ : Addr) t36.toList 0 →
 ∃ J : Option Addr → Option Addr → World → Prop, (∃ t38 : Int, Ld w1_5 ((⟨b6, 0, none⟩ : Addr).add 0) (.int .i64 t38) ∧
 IfB (t38 == (0 : Int))
 (∃ t44 : Int, Ld w1_5 ((⟨b6, 0, none⟩ : Addr).add 1) (.int .i64 t44) ∧
 ∃ t46 : ByteArray, Ld w1_5 ((⟨b6, 0, none⟩ : Addr).add 3) (.string t46) ∧
 Calls prog 21 #[.pointer x3, .int .i64 t44, .string t46] w1_5 fun en w1_6 =>
 ∃ t47a : Bool, ∃ t47b : Int, en = .returned (.tuple #[.bool t47a, .int .i64 t47b]) ∧
 ∃ t53 : Int, Ld w1_6 ((⟨b6, 0, none⟩ : Addr).add 1) (.int .i64 t53) ∧
 ∃ t55 : ByteArray, Ld w1_6 ((⟨b6, 0, none⟩ : Addr).add 3) (.string t55) ∧
 Calls prog 31 #[.pointer x4, .int .i64 t53, .string t55] w1_6 fun en w1_7 =>
 ∃ t56a : Bool, ∃ t56b : Int, en = .returned (.tuple #[.bool t56a, .int .i64 t56b]) ∧
 ∃ J_1 : Bool → World → Prop, (∃ b61 : Bool, BinIs prog .neq 4 (.tmp 59) (.tmp 60) (.bool t47a) (.bool t56a) b61 ∧
 IfB b61
 (J_1 true w1_7)
 (J_1 (t47b != t56b) w1_7)) ∧
 (∀ (u_1 : Env) (x66 : Bool) (w1_8 : World), J_1 x66 w1_8 →
 IfB x66
 (Q (.bool false) w1_8)
 (J x3 x4 w1_8)))
 (IfB (t38 == (1 : Int))
 (Calls prog 28 #[.pointer x3] w1_5 fun en w1_6 =>
 ∃ t70 : Option Addr, en = .returned (.pointer t70) ∧
 Calls prog 27 #[.pointer x3] w1_6 fun en w1_7 =>
 ∃ t73 : Int, en = .returned (.int .i64 t73) ∧
 Calls prog 21 #[.pointer x3, .int .i64 t73, .string (⟨#[103, 111, 110, 101]⟩ : ByteArray)] w1_7 fun en w1_8 =>
 ∃ t74a : Bool, ∃ t74b : Int, en = .returned (.tuple #[.bool t74a, .int .i64 t74b]) ∧
 Calls prog 32 #[.pointer x4] w1_8 fun en w1_9 =>
 ∃ t77 : Option Addr, en = .returned (.pointer t77) ∧
 J t70 t77 w1_9)
 (IfB (t38 == (2 : Int))
 (Calls prog 17 #[.pointer x3] w1_5 fun en w1_6 =>
 ∃ t82 : Sl, en = .returned (.slice t82.a t82.l t82.c) ∧
 Calls prog 11 #[.slice t82.a t82.l t82.c] w1_6 fun en w1_7 =>
 ∃ t83a : Option Addr, ∃ t83b : Int, en = .returned (.tuple #[.pointer t83a, .int .i64 t83b]) ∧
 IfB (t83b != (0 : Int))
 (Q (.bool false) w1_7)
 (J t83a x4 w1_7))
 (J x3 x4 w1_5)))) ∧
 (∀ (u_1 : Env) (x3_1 : Option Addr) (x4_1 : Option Addr) (w1_6 : World), J x3_1 x4_1 w1_6 →
 ∃ t91 : Int, Ld w1_6 ((⟨b6, 0, none⟩ : Addr).add 1) (.int .i64 t91) ∧
 Calls prog 14 #[.pointer x3_1, .int .i64 t91] w1_6 fun en w1_7 =>
 ∃ t92 : Sl, en = .returned (.slice t92.a t92.l t92.c) ∧
 ∃ t95 : Int, Ld w1_7 ((⟨b6, 0, none⟩ : Addr).add 1) (.int .i64 t95) ∧
 ∃ t97 : Int, Ld w1_7 ((⟨b6, 0, none⟩ : Addr).add 2) (.int .i64 t97) ∧
 Calls prog 25 #[.pointer x3_1, .int .i64 t95, .int .i64 t97] w1_7 fun en w1_8 =>
 ∃ t98 : Sl, en = .returned (.slice t98.a t98.l t98.c) ∧
 Calls prog 17 #[.pointer x3_1] w1_8 fun en w1_9 =>
 ∃ t100 : Sl, en = .returned (.slice t100.a t100.l t100.c) ∧
 ∃ J_1 : Bool → World → Prop, (∃ S : World → Prop, S w1_9.drew ∧
 ∃ p104, x4_1 = some p104 ∧
 ∃ t106 : Sl, (∀ w', S w' → Ld w' (p104.add 0) (.slice t106.a t106.l t106.c)) ∧
 Calls prog 27 #[.pointer x3_1] w1_9.drew fun en w1_10 =>
 ∃ t102 : Int, en = .returned (.int .i64 t102) ∧
 ∃ S_1 : World → Prop, (∀ w', S_1 w' → S w') ∧ S_1 w1_10 ∧
 IfB (t102 != ((t106.l : Nat) : Int))
 ((J_1 true w1_10) ∧
 ((J_1 true w1_10) ∧
 (J_1 true w1_10)))
 (Calls prog 15 #[.pointer x3_1] w1_10 fun en w1_11 =>
 ∃ t111 : Int, en = .returned (.int .i64 t111) ∧
 ∃ S_2 : World → Prop, (∀ w', S_2 w' → S_1 w') ∧ S_2 w1_11 ∧
 Calls prog 16 #[.pointer x4_1] w1_11 fun en w1_12 =>
 ∃ t113 : ByteArray, en = .returned (.string t113) ∧
 ∃ S_3 : World → Prop, (∀ w', S_3 w' → S_2 w') ∧ S_3 w1_12 ∧
 IfB (t111 != ((t113.size : Nat) : Int))
 ((J_1 true w1_12) ∧
 ((J_1 true w1_12) ∧
 (J_1 true w1_12)))
 (∃ t121 : Int, (∀ w', S_3 w' → Ld w' ((⟨b6, 0, none⟩ : Addr).add 1) (.int .i64 t121)) ∧
 Calls prog 33 #[.pointer x4_1, .int .i64 t121] w1_12 fun en w1_13 =>
 ∃ t122 : Sl, en = .returned (.slice t122.a t122.l t122.c) ∧
 ∃ S_4 : World → Prop, (∀ w', S_4 w' → S_3 w') ∧ S_4 w1_13 ∧
 Calls prog 13 #[.slice t92.a t92.l t92.c, .slice t122.a t122.l t122.c] w1_13 fun en w1_14 =>
 ∃ t123 : Bool, en = .returned (.bool t123) ∧
 ∃ S_5 : World → Prop, (∀ w', S_5 w' → S_4 w') ∧ S_5 w1_14 ∧
 IfB (!t123)
 ((J_1 true w1_14) ∧
 ((J_1 true w1_14) ∧
 (J_1 true w1_14)))
 (∃ t130 : Int, (∀ w', S_5 w' → Ld w' ((⟨b6, 0, none⟩ : Addr).add 1) (.int .i64 t130)) ∧
 ∃ t132 : Int, (∀ w', S_5 w' → Ld w' ((⟨b6, 0, none⟩ : Addr).add 2) (.int .i64 t132)) ∧
 Calls prog 34 #[.pointer x4_1, .int .i64 t130, .int .i64 t132] w1_14 fun en w1_15 =>
 ∃ t133 : Sl, en = .returned (.slice t133.a t133.l t133.c) ∧
 ∃ S_6 : World → Prop, (∀ w', S_6 w' → S_5 w') ∧ S_6 w1_15 ∧
 Calls prog 13 #[.slice t98.a t98.l t98.c, .slice t133.a t133.l t133.c] w1_15 fun en w1_16 =>
 ∃ t134 : Bool, en = .returned (.bool t134) ∧
 ∃ S_7 : World → Prop, (∀ w', S_7 w' → S_6 w') ∧ S_7 w1_16 ∧
 IfB (!t134)
 ((J_1 true w1_16) ∧
 ((J_1 true w1_16) ∧
 (J_1 true w1_16)))
 (∃ t140 : Int, (∀ w', S_7 w' → Ld w' ((⟨b6, 0, none⟩ : Addr).add 2) (.int .i64 t140)) ∧
 ∃ t144 : Int, (∀ w', S_7 w' → Ld w' ((⟨b6, 0, none⟩ : Addr).add 2) (.int .i64 t144)) ∧
 Calls prog 26 #[.pointer x3_1, .int .i64 t140] w1_16 fun en w1_17 =>
 ∃ t141 : ByteArray, en = .returned (.string t141) ∧
 S_7 w1_17 ∧
 Calls prog 35 #[.pointer x4_1, .int .i64 t144] w1_17 fun en w1_18 =>
 ∃ t145 : ByteArray, en = .returned (.string t145) ∧
 IfB (!(t141.toList == t145.toList))
 ((J_1 true w1_18) ∧
 ((J_1 true w1_18) ∧
 (J_1 true w1_18)))
 ((RunT prog .str (convert 22 9 (.slice t100.a t100.l t100.c)) w1_18 fun (t150 : ByteArray) w1_19 =>
 Calls prog 36 #[.pointer x4_1] w1_19 fun en w1_20 =>
 ∃ t152 : Sl, en = .returned (.slice t152.a t152.l t152.c) ∧
 RunT prog .str (convert 22 9 (.slice t152.a t152.l t152.c)) w1_20 fun (t153 : ByteArray) w1_21 =>
 J_1 (!(t150.toList == t153.toList)) w1_21) ∧
 (Calls prog 36 #[.pointer x4_1] w1_18 fun en w1_19 =>
 ∃ t152 : Sl, en = .returned (.slice t152.a t152.l t152.c) ∧
 (RunT prog .str (convert 22 9 (.slice t100.a t100.l t100.c)) w1_19 fun (t150 : ByteArray) w1_20 =>
 RunT prog .str (convert 22 9 (.slice t152.a t152.l t152.c)) w1_20 fun (t153 : ByteArray) w1_21 =>
 J_1 (!(t150.toList == t153.toList)) w1_21) ∧
 (RunT prog .str (convert 22 9 (.slice t152.a t152.l t152.c)) w1_19 fun (t153 : ByteArray) w1_20 =>
 RunT prog .str (convert 22 9 (.slice t100.a t100.l t100.c)) w1_20 fun (t150 : ByteArray) w1_21 =>
 J_1 (!(t150.toList == t153.toList)) w1_21)))))))) ∧
 (∀ (u_2 : Env) (x155 : Bool) (w1_10 : World), J_1 x155 w1_10 →
 IfB x155
 (Q (.bool false) w1_10)
 (∃ t159 : Int, Ld w1_10 ((⟨b6, 0, none⟩ : Addr).add 1) (.int .i64 t159) ∧
 Calls prog 30 #[.pointer x3_1, .int .i64 t159] w1_10 fun en w1_11 =>
 ∃ t160a : ByteArray, ∃ t160b : Int, en = .returned (.tuple #[.string t160a, .int .i64 t160b]) ∧
 ∃ J_2 : Bool → World → Prop, (∃ t164 : Int, Ld w1_11.drew ((⟨b6, 0, none⟩ : Addr).add 1) (.int .i64 t164) ∧
 IfB (decide (t164 ≥ (0 : Int)))
 (∃ t168 : Int, Ld w1_11.drew ((⟨b6, 0, none⟩ : Addr).add 1) (.int .i64 t168) ∧
 ∃ p170, x4_1 = some p170 ∧
 ∃ t172 : Sl, Ld w1_11.drew (p170.add 0) (.slice t172.a t172.l t172.c) ∧
 IfB (decide (t168 < ((t172.l : Nat) : Int)))
 (IfB (t160b != (0 : Int))
 (J_2 true w1_11.drew)
 (∃ p182, x4_1 = some p182 ∧
 ∃ t184 : Sl, Ld w1_11.drew (p182.add 0) (.slice t184.a t184.l t184.c) ∧
 ∃ t186 : Int, Ld w1_11.drew ((⟨b6, 0, none⟩ : Addr).add 1) (.int .i64 t186) ∧
 ∃ p187, t184.a = some p187 ∧ 0 ≤ t186 ∧ t186 < ((t184.l : Nat) : Int) ∧
 ∃ t188 : ByteArray, Ld w1_11.drew (p187.add ((t186).toNat * 1)) (.string t188) ∧
 IfB (!(t160a.toList == t188.toList))
 (J_2 true w1_11.drew)
 (∃ t194 : Int, Ld w1_11.drew ((⟨b6, 0, none⟩ : Addr).add 1) (.int .i64 t194) ∧
 IfB (decide (t194 < (0 : Int)))
 (IfB (t160b != (1 : Int))
 (J_2 true w1_11.drew)
 (J_2 (!(t160a.toList == (⟨#[]⟩ : ByteArray).toList)) w1_11.drew))
 (∃ t198 : Int, Ld w1_11.drew ((⟨b6, 0, none⟩ : Addr).add 1) (.int .i64 t198) ∧
 ∃ p200, x4_1 = some p200 ∧
 ∃ t202 : Sl, Ld w1_11.drew (p200.add 0) (.slice t202.a t202.l t202.c) ∧
 IfB (decide (t198 ≥ ((t202.l : Nat) : Int)))
 (IfB (t160b != (1 : Int))
 (J_2 true w1_11.drew)
 (J_2 (!(t160a.toList == (⟨#[]⟩ : ByteArray).toList)) w1_11.drew))
 (J_2 false w1_11.drew)))))
 (∃ t194 : Int, Ld w1_11.drew ((⟨b6, 0, none⟩ : Addr).add 1) (.int .i64 t194) ∧
 IfB (decide (t194 < (0 : Int)))
 (IfB (t160b != (1 : Int))
 (J_2 true w1_11.drew)
 (J_2 (!(t160a.toList == (⟨#[]⟩ : ByteArray).toList)) w1_11.drew))
 (∃ t198 : Int, Ld w1_11.drew ((⟨b6, 0, none⟩ : Addr).add 1) (.int .i64 t198) ∧
 ∃ p200, x4_1 = some p200 ∧
 ∃ t202 : Sl, Ld w1_11.drew (p200.add 0) (.slice t202.a t202.l t202.c) ∧
 IfB (decide (t198 ≥ ((t202.l : Nat) : Int)))
 (IfB (t160b != (1 : Int))
 (J_2 true w1_11.drew)
 (J_2 (!(t160a.toList == (⟨#[]⟩ : ByteArray).toList)) w1_11.drew))
 (J_2 false w1_11.drew))))
 (∃ t194 : Int, Ld w1_11.drew ((⟨b6, 0, none⟩ : Addr).add 1) (.int .i64 t194) ∧
 IfB (decide (t194 < (0 : Int)))
 (IfB (t160b != (1 : Int))
 (J_2 true w1_11.drew)
 (J_2 (!(t160a.toList == (⟨#[]⟩ : ByteArray).toList)) w1_11.drew))
 (∃ t198 : Int, Ld w1_11.drew ((⟨b6, 0, none⟩ : Addr).add 1) (.int .i64 t198) ∧
 ∃ p200, x4_1 = some p200 ∧
 ∃ t202 : Sl, Ld w1_11.drew (p200.add 0) (.slice t202.a t202.l t202.c) ∧
 IfB (decide (t198 ≥ ((t202.l : Nat) : Int)))
 (IfB (t160b != (1 : Int))
 (J_2 true w1_11.drew)
 (J_2 (!(t160a.toList == (⟨#[]⟩ : ByteArray).toList)) w1_11.drew))
 (J_2 false w1_11.drew)))) ∧
 (∀ (u_3 : Env) (x214 : Bool) (w1_12 : World), J_2 x214 w1_12 →
 IfB x214
 (Q (.bool false) w1_12)
 (∃ (I_1 : Nat → Int → World → Prop) (n0_1 : Nat), I_1 n0_1 (0 : Int) w1_12 ∧
 ∀ (n_1 : Nat) (u_4 : Env) (x19 : Int) (w1_13 : World), I_1 n_1 x19 w1_13 →
 IfB (decide (x19 < ((t92.l : Nat) : Int)))
 (∃ p223, t92.a = some p223 ∧ 0 ≤ x19 ∧ x19 < ((t92.l : Nat) : Int) ∧
 Wr w1_13 (p223.add ((x19).toNat * 1)) ∧ ∀ w1_14, w1_14 = w1_13.setCell (p223.add ((x19).toNat * 1)) (.string (⟨#[63]⟩ : ByteArray)) →
 ∃ n', n' < n_1 ∧ I_1 n' (IntKind.wrap .i64 (x19 + (1 : Int))) w1_14)
 (∃ (I_2 : Nat → Int → World → Prop) (n0_2 : Nat), I_2 n0_2 (0 : Int) w1_13 ∧
 ∀ (n_2 : Nat) (u_5 : Env) (x20 : Int) (w1_14 : World), I_2 n_2 x20 w1_14 →
 IfB (decide (x20 < ((t98.l : Nat) : Int)))
 (∃ p232, t98.a = some p232 ∧ 0 ≤ x20 ∧ x20 < ((t98.l : Nat) : Int) ∧
 Wr w1_14 (p232.add ((x20).toNat * 1)) ∧ ∀ w1_15, w1_15 = w1_14.setCell (p232.add ((x20).toNat * 1)) (.string (⟨#[63]⟩ : ByteArray)) →
 ∃ n', n' < n_2 ∧ I_2 n' (IntKind.wrap .i64 (x20 + (1 : Int))) w1_15)
 (∃ (I_3 : Nat → Int → World → Prop) (n0_3 : Nat), I_3 n0_3 (0 : Int) w1_14 ∧
 ∀ (n_3 : Nat) (u_6 : Env) (x21 : Int) (w1_15 : World), I_3 n_3 x21 w1_15 →
 IfB (decide (x21 < ((t100.l : Nat) : Int)))
 (∃ p241, t100.a = some p241 ∧ 0 ≤ x21 ∧ x21 < ((t100.l : Nat) : Int) ∧
 Wr w1_15 (p241.add ((x21).toNat * 1)) ∧ ∀ w1_16, w1_16 = w1_15.setCell (p241.add ((x21).toNat * 1)) (.int .u8 255) →
 ∃ n', n' < n_3 ∧ I_3 n' (IntKind.wrap .i64 (x21 + (1 : Int))) w1_16)
 (∃ n', n' < n ∧ I n' x3_1 x4_1 (IntKind.wrap .i64 (x5 + (1 : Int))) w1_15)))))))))
 (∃ S : World → Prop, S w1_3.drew ∧
 ∃ p245, x4 = some p245 ∧
 ∃ t247 : Sl, (∀ w', S w' → Ld w' (p245.add 0) (.slice t247.a t247.l t247.c)) ∧
 Calls prog 14 #[.pointer x3, .int .i64 0] w1_3.drew fun en w1_4 =>
 ∃ t243 : Sl, en = .returned (.slice t243.a t243.l t243.c) ∧
 S w1_4 ∧
 Calls prog 13 #[.slice t243.a t243.l t243.c, .slice t247.a t247.l t247.c] w1_4 fun en w1_5 =>
 ∃ t248 : Bool, en = .returned (.bool t248) ∧
 Q (.bool t248) w1_5))
def an10 : Ann := { cut := fun i => bif Nat.beq i 14 then some [(66, .bool)] else bif Nat.beq i 25 then some [(3, .ptr), (4, .ptr)] else bif Nat.beq i 29 then some [(155, .bool)] else bif Nat.beq i 32 then some [(214, .bool)] else none, loop := fun i => bif Nat.beq i 6 then [(3, .ptr), (4, .ptr), (5, .int .i64)] else bif Nat.beq i 34 then [(19, .int .i64)] else bif Nat.beq i 38 then [(20, .int .i64)] else bif Nat.beq i 42 then [(21, .int .i64)] else [] }
theorem eq10 (x0 : Sl) (w : World) (Q : Value → World → Prop) : F10 x0 w Q = vc prog an10 (Try.f10.body.getD .skip) (envOf [.slice x0.a x0.l x0.c]) w (retK prog Try.f10 Q) := by kernel_rfl
theorem ok10 : codeOk Try.f10.ntmps (Try.f10.body.getD .skip) = true := by kernel_rfl
theorem W10 {x0 : Sl} {w : World} {Q : Value → World → Prop} (h : F10 x0 w Q) : Calls prog 10 #[.slice x0.a x0.l x0.c] w fun en w' => ∃ v, en = .returned v ∧ Q v w' :=
  calls_of_vc good follows an10 (args := [.slice x0.a x0.l x0.c]) Try.func10 (by kernel_rfl) ok10 (of_decide_eq_true (by kernel_rfl)) (Eq.mp (eq10 x0 w Q) h)

/-- (*bastion/code.Reader).Count$1 -/
def F52 (x0 : ByteArray) (x1 : Addr) (w : World) (Q : Value → World → Prop) : Prop :=
 ∃ t6 : Int, Ld w x1 (.int .i64 t6) ∧
 Calls prog 53 #[.string x0, .int .i64 t6] w fun en w1 =>
 ∃ t7a : Int, ∃ t7b : Int, en = .returned (.tuple #[.int .i64 t7a, .int .i64 t7b]) ∧
 Q (.tuple #[.int .i64 t7a, .int .i64 t7b]) w1
def an52 : Ann := { cut := fun i => none, loop := fun i => [] }
theorem eq52 (x0 : ByteArray) (x1 : Addr) (w : World) (Q : Value → World → Prop) : F52 x0 x1 w Q = vc prog an52 (Try.f52.body.getD .skip) (envOf [.string x0, .pointer (some x1)]) w (retK prog Try.f52 Q) := by kernel_rfl
theorem ok52 : codeOk Try.f52.ntmps (Try.f52.body.getD .skip) = true := by kernel_rfl
theorem W52 {x0 : ByteArray} {x1 : Addr} {w : World} {Q : Value → World → Prop} (h : F52 x0 x1 w Q) : Calls prog 52 #[.string x0, .pointer (some x1)] w fun en w' => ∃ v, en = .returned v ∧ Q v w' :=
  calls_of_vc good follows an52 (args := [.string x0, .pointer (some x1)]) Try.func52 (by kernel_rfl) ok52 (of_decide_eq_true (by kernel_rfl)) (Eq.mp (eq52 x0 x1 w Q) h)

/-- (*bastion/code.Reader).Str$1 -/
def F55 (x0 : ByteArray) (x1 : Addr) (w : World) (Q : Value → World → Prop) : Prop :=
 ∃ t9 : Int, Ld w x1 (.int .i64 t9) ∧
 Calls prog 53 #[.string x0, .int .i64 t9] w fun en w1 =>
 ∃ t10a : Int, ∃ t10b : Int, en = .returned (.tuple #[.int .i64 t10a, .int .i64 t10b]) ∧
 IfB (t10b == (0 : Int))
 (Q (.tuple #[.string (⟨#[]⟩ : ByteArray), .int .i64 0]) w1)
 (IfB (decide (t10a > IntKind.wrap .i64 (((x0.size : Nat) : Int) - t10b)))
 (Q (.tuple #[.string (⟨#[]⟩ : ByteArray), .int .i64 0]) w1)
 ((0 ≤ IntKind.wrap .i64 (t10b + t10a) ∧ IntKind.wrap .i64 (t10b + t10a) ≤ ((x0.size : Nat) : Int)) ∧
 (0 ≤ t10b ∧ t10b ≤ (((IntKind.wrap .i64 (t10b + t10a)).toNat : Nat) : Int)) ∧
 Q (.tuple #[.string (x0.extract ((t10b).toNat) ((IntKind.wrap .i64 (t10b + t10a)).toNat)), .int .i64 (IntKind.wrap .i64 (t10b + t10a))]) w1))
def an55 : Ann := { cut := fun i => none, loop := fun i => [] }
theorem eq55 (x0 : ByteArray) (x1 : Addr) (w : World) (Q : Value → World → Prop) : F55 x0 x1 w Q = vc prog an55 (Try.f55.body.getD .skip) (envOf [.string x0, .pointer (some x1)]) w (retK prog Try.f55 Q) := by kernel_rfl
theorem ok55 : codeOk Try.f55.ntmps (Try.f55.body.getD .skip) = true := by kernel_rfl
theorem W55 {x0 : ByteArray} {x1 : Addr} {w : World} {Q : Value → World → Prop} (h : F55 x0 x1 w Q) : Calls prog 55 #[.string x0, .pointer (some x1)] w fun en w' => ∃ v, en = .returned v ∧ Q v w' :=
  calls_of_vc good follows an55 (args := [.string x0, .pointer (some x1)]) Try.func55 (by kernel_rfl) ok55 (of_decide_eq_true (by kernel_rfl)) (Eq.mp (eq55 x0 x1 w Q) h)

/-- (*bastion/code.spot).rest -/
def F70 (x0 : Option Addr) (w : World) (Q : Value → World → Prop) : Prop :=
 ∃ p4, x0 = some p4 ∧
 ∃ t6 : ByteArray, Ld w.drew (p4.add 0) (.string t6) ∧
 ∃ p8, x0 = some p8 ∧
 ∃ t10 : Int, Ld w.drew (p8.add 1) (.int .i64 t10) ∧
 ∃ p12, x0 = some p12 ∧
 ∃ t14 : ByteArray, Ld w.drew (p12.add 0) (.string t14) ∧
 (0 ≤ (if ((t14.size : Nat) : Int) < t10 then ((t14.size : Nat) : Int) else t10) ∧ (if ((t14.size : Nat) : Int) < t10 then ((t14.size : Nat) : Int) else t10) ≤ ((t6.size : Nat) : Int)) ∧
 Q (.string (t6.extract (((if ((t14.size : Nat) : Int) < t10 then ((t14.size : Nat) : Int) else t10)).toNat) t6.size)) w.drew
def an70 : Ann := { cut := fun i => none, loop := fun i => [] }
theorem eq70 (x0 : Option Addr) (w : World) (Q : Value → World → Prop) : F70 x0 w Q = vc prog an70 (Try.f70.body.getD .skip) (envOf [.pointer x0]) w (retK prog Try.f70 Q) := by kernel_rfl
theorem ok70 : codeOk Try.f70.ntmps (Try.f70.body.getD .skip) = true := by kernel_rfl
theorem W70 {x0 : Option Addr} {w : World} {Q : Value → World → Prop} (h : F70 x0 w Q) : Calls prog 70 #[.pointer x0] w fun en w' => ∃ v, en = .returned v ∧ Q v w' :=
  calls_of_vc good follows an70 (args := [.pointer x0]) Try.func70 (by kernel_rfl) ok70 (of_decide_eq_true (by kernel_rfl)) (Eq.mp (eq70 x0 w Q) h)

/-- bastion/code.within -/
def F53 (x0 : ByteArray) (x1 : Int) (w : World) (Q : Value → World → Prop) : Prop :=
 Calls prog 71 #[.string x0] w fun en w1 =>
 ∃ t10a : Int, ∃ t10b : Int, en = .returned (.tuple #[.int .u64 t10a, .int .i64 t10b]) ∧
 IfB (decide (t10a > (2147483647 : Int)))
 (Q (.tuple #[.int .i64 0, .int .i64 0]) w1)
 (IfB (decide (IntKind.wrap .i64 t10a > x1))
 (Q (.tuple #[.int .i64 0, .int .i64 0]) w1)
 (Q (.tuple #[.int .i64 (IntKind.wrap .i64 t10a), .int .i64 t10b]) w1))
def an53 : Ann := { cut := fun i => none, loop := fun i => [] }
theorem eq53 (x0 : ByteArray) (x1 : Int) (w : World) (Q : Value → World → Prop) : F53 x0 x1 w Q = vc prog an53 (Try.f53.body.getD .skip) (envOf [.string x0, .int .i64 x1]) w (retK prog Try.f53 Q) := by kernel_rfl
theorem ok53 : codeOk Try.f53.ntmps (Try.f53.body.getD .skip) = true := by kernel_rfl
theorem W53 {x0 : ByteArray} {x1 : Int} {w : World} {Q : Value → World → Prop} (h : F53 x0 x1 w Q) : Calls prog 53 #[.string x0, .int .i64 x1] w fun en w' => ∃ v, en = .returned v ∧ Q v w' :=
  calls_of_vc good follows an53 (args := [.string x0, .int .i64 x1]) Try.func53 (by kernel_rfl) ok53 (of_decide_eq_true (by kernel_rfl)) (Eq.mp (eq53 x0 x1 w Q) h)

/-- strings.IndexByte -/
def F61 (x0 : ByteArray) (x1 : Int) (w : World) (Q : Value → World → Prop) : Prop :=
 Calls prog 74 #[.string x0, .int .u8 x1] w fun en w1 =>
 ∃ t7 : Int, en = .returned (.int .i64 t7) ∧
 Q (.int .i64 t7) w1
def an61 : Ann := { cut := fun i => none, loop := fun i => [] }
theorem eq61 (x0 : ByteArray) (x1 : Int) (w : World) (Q : Value → World → Prop) : F61 x0 x1 w Q = vc prog an61 (Try.f61.body.getD .skip) (envOf [.string x0, .int .u8 x1]) w (retK prog Try.f61 Q) := by kernel_rfl
theorem ok61 : codeOk Try.f61.ntmps (Try.f61.body.getD .skip) = true := by kernel_rfl
theorem W61 {x0 : ByteArray} {x1 : Int} {w : World} {Q : Value → World → Prop} (h : F61 x0 x1 w Q) : Calls prog 61 #[.string x0, .int .u8 x1] w fun en w' => ∃ v, en = .returned v ∧ Q v w' :=
  calls_of_vc good follows an61 (args := [.string x0, .int .u8 x1]) Try.func61 (by kernel_rfl) ok61 (of_decide_eq_true (by kernel_rfl)) (Eq.mp (eq61 x0 x1 w Q) h)

/-- (*strings.Builder).Reset -/
def F64 (x0 : Option Addr) (w : World) (Q : Value → World → Prop) : Prop :=
 ∃ p3, x0 = some p3 ∧
 Wr w (p3.add 0) ∧ ∀ w1, w1 = w.setCell (p3.add 0) (.pointer none) →
 ∃ p6, x0 = some p6 ∧
 Wr w1 (p6.add 1) ∧ ∀ w1_1, w1_1 = w1.setCell (p6.add 1) (.slice none 0 0) →
 Q (.tuple #[]) w1_1
def an64 : Ann := { cut := fun i => none, loop := fun i => [] }
theorem eq64 (x0 : Option Addr) (w : World) (Q : Value → World → Prop) : F64 x0 w Q = vc prog an64 (Try.f64.body.getD .skip) (envOf [.pointer x0]) w (retK prog Try.f64 Q) := by kernel_rfl
theorem ok64 : codeOk Try.f64.ntmps (Try.f64.body.getD .skip) = true := by kernel_rfl
theorem W64 {x0 : Option Addr} {w : World} {Q : Value → World → Prop} (h : F64 x0 w Q) : Calls prog 64 #[.pointer x0] w fun en w' => ∃ v, en = .returned v ∧ Q v w' :=
  calls_of_vc good follows an64 (args := [.pointer x0]) Try.func64 (by kernel_rfl) ok64 (of_decide_eq_true (by kernel_rfl)) (Eq.mp (eq64 x0 w Q) h)

/-- (*strings.Builder).Len -/
def F65 (x0 : Option Addr) (w : World) (Q : Value → World → Prop) : Prop :=
 ∃ p4, x0 = some p4 ∧
 ∃ t6 : Sl, Ld w (p4.add 1) (.slice t6.a t6.l t6.c) ∧
 Q (.int .i64 ((t6.l : Nat) : Int)) w
def an65 : Ann := { cut := fun i => none, loop := fun i => [] }
theorem eq65 (x0 : Option Addr) (w : World) (Q : Value → World → Prop) : F65 x0 w Q = vc prog an65 (Try.f65.body.getD .skip) (envOf [.pointer x0]) w (retK prog Try.f65 Q) := by kernel_rfl
theorem ok65 : codeOk Try.f65.ntmps (Try.f65.body.getD .skip) = true := by kernel_rfl
theorem W65 {x0 : Option Addr} {w : World} {Q : Value → World → Prop} (h : F65 x0 w Q) : Calls prog 65 #[.pointer x0] w fun en w' => ∃ v, en = .returned v ∧ Q v w' :=
  calls_of_vc good follows an65 (args := [.pointer x0]) Try.func65 (by kernel_rfl) ok65 (of_decide_eq_true (by kernel_rfl)) (Eq.mp (eq65 x0 w Q) h)

/-- bastion/code.number -/
def F71 (x0 : ByteArray) (w : World) (Q : Value → World → Prop) : Prop :=
 ∃ J : Int → World → Prop, (∃ (I : Nat → Int → World → Prop) (n0 : Nat), I n0 (0 : Int) w ∧
 ∀ (n : Nat) (u : Env) (x4 : Int) (w1 : World), I n x4 w1 →
 IfB (decide (x4 < (if (10 : Int) < ((x0.size : Nat) : Int) then (10 : Int) else ((x0.size : Nat) : Int))))
 (0 ≤ x4 ∧ x4 < ((x0.size : Nat) : Int) ∧
 IfB (decide (bt x0 x4 ≥ (128 : Int)))
 (∃ n', n' < n ∧ I n' (IntKind.wrap .i64 (x4 + (1 : Int))) w1)
 (J x4 w1))
 (J x4 w1)) ∧
 (∀ (u : Env) (x4 : Int) (w1 : World), J x4 w1 →
 ∃ J_1 : Bool → World → Prop, (IfB (decide (x4 ≥ ((x0.size : Nat) : Int)))
 (J_1 true w1)
 (IfB (x4 == (10 : Int))
 (J_1 true w1)
 (IfB (x4 == (9 : Int))
 (0 ≤ x4 ∧ x4 < ((x0.size : Nat) : Int) ∧
 J_1 (decide (bt x0 x4 > (1 : Int))) w1)
 (J_1 false w1)))) ∧
 (∀ (u_1 : Env) (x37 : Bool) (w1_1 : World), J_1 x37 w1_1 →
 IfB x37
 (Q (.tuple #[.int .u64 0, .int .i64 0]) w1_1)
 (∃ (I : Nat → Int → Int → World → Prop) (n0 : Nat), I n0 (0 : Int) x4 w1_1 ∧
 ∀ (n : Nat) (u_2 : Env) (x5 : Int) (x6 : Int) (w1_2 : World), I n x5 x6 w1_2 →
 IfB (decide (x6 ≥ (0 : Int)))
 (0 ≤ (7 : Int) ∧
 0 ≤ x6 ∧ x6 < ((x0.size : Nat) : Int) ∧
 ∃ n', n' < n ∧ I n' (bitsI .or .u64 (IntKind.wrap .u64 (x5 * 2 ^ (min 7 64))) (IntKind.wrap .u64 (bitsI .andNot .u8 (bt x0 x6) (128 : Int)))) (IntKind.wrap .i64 (x6 - (1 : Int))) w1_2)
 (Calls prog 73 #[.int .u64 x5] w1_2 fun en w1_3 =>
 ∃ t52 : Int, en = .returned (.int .i64 t52) ∧
 IfB (t52 != IntKind.wrap .i64 (x4 + (1 : Int)))
 (Q (.tuple #[.int .u64 0, .int .i64 0]) w1_3)
 (Q (.tuple #[.int .u64 x5, .int .i64 (IntKind.wrap .i64 (x4 + (1 : Int)))]) w1_3)))))
def an71 : Ann := { cut := fun i => bif Nat.beq i 4 then some [(4, .int .i64)] else bif Nat.beq i 5 then some [(37, .bool)] else none, loop := fun i => bif Nat.beq i 2 then [(4, .int .i64)] else bif Nat.beq i 8 then [(5, .int .u64), (6, .int .i64)] else [] }
theorem eq71 (x0 : ByteArray) (w : World) (Q : Value → World → Prop) : F71 x0 w Q = vc prog an71 (Try.f71.body.getD .skip) (envOf [.string x0]) w (retK prog Try.f71 Q) := by kernel_rfl
theorem ok71 : codeOk Try.f71.ntmps (Try.f71.body.getD .skip) = true := by kernel_rfl
theorem W71 {x0 : ByteArray} {w : World} {Q : Value → World → Prop} (h : F71 x0 w Q) : Calls prog 71 #[.string x0] w fun en w' => ∃ v, en = .returned v ∧ Q v w' :=
  calls_of_vc good follows an71 (args := [.string x0]) Try.func71 (by kernel_rfl) ok71 (of_decide_eq_true (by kernel_rfl)) (Eq.mp (eq71 x0 w Q) h)

/-- internal/stringslite.IndexByte -/
def F74 (x0 : ByteArray) (x1 : Int) (w : World) (Q : Value → World → Prop) : Prop :=
 RunN prog (callFunc 79 #[.string x0, .int .u8 x1]) w fun v7 w1 =>
 ∃ t7 : Int, v7 = (.int .i64 t7) ∧
 Q (.int .i64 t7) w1
def an74 : Ann := { cut := fun i => none, loop := fun i => [] }
theorem eq74 (x0 : ByteArray) (x1 : Int) (w : World) (Q : Value → World → Prop) : F74 x0 x1 w Q = vc prog an74 (Try.f74.body.getD .skip) (envOf [.string x0, .int .u8 x1]) w (retK prog Try.f74 Q) := by kernel_rfl
theorem ok74 : codeOk Try.f74.ntmps (Try.f74.body.getD .skip) = true := by kernel_rfl
theorem W74 {x0 : ByteArray} {x1 : Int} {w : World} {Q : Value → World → Prop} (h : F74 x0 x1 w Q) : Calls prog 74 #[.string x0, .int .u8 x1] w fun en w' => ∃ v, en = .returned v ∧ Q v w' :=
  calls_of_vc good follows an74 (args := [.string x0, .int .u8 x1]) Try.func74 (by kernel_rfl) ok74 (of_decide_eq_true (by kernel_rfl)) (Eq.mp (eq74 x0 x1 w Q) h)
end Go.Proofs.Ytmcdeldjgfapbaa

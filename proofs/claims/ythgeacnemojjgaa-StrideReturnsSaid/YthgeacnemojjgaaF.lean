/-  YthgeacnemojjgaaF: weakest preconditions of functions, by wip/gen/gen.py; each is held against the machine's code by the kernel. -/
import Derived.Test.YthgeacnemojjgaaV
import Derived.Test.YthgeacnemojjgaaProg
import Derived.Test.YthgeacnemojjgaaGood
import Derived.KernelRfl
set_option linter.unusedVariables false
set_option maxRecDepth 1000000
namespace Go.Proofs.Ythgeacnemojjgaa
open Go Go.Proofs.YthgeacnemojjgaaV

/-- bastion/stride.New -/
def F12 (w : World) (Q : Value → World → Prop) : Prop :=
 ∃ t1 : Array Value, BuildIs prog 73 #[] t1 ∧
 ∀ b2 w1, NewB w (.cells t1 73) b2 w1 →
 Q (.pointer (some (⟨b2, 0, none⟩ : Addr))) w1
def an12 : Ann := { cut := fun i => none, loop := fun i => [] }
theorem eq12 (w : World) (Q : Value → World → Prop) : F12  w Q = vc prog an12 (Try.f12.body.getD .skip) (envOf []) w (retK prog Try.f12 Q) := by kernel_rfl
theorem ok12 : codeOk Try.f12.ntmps (Try.f12.body.getD .skip) = true := by kernel_rfl
theorem W12 {w : World} {Q : Value → World → Prop} (h : F12  w Q) : Calls prog 12 #[] w fun en w' => ∃ v, en = .returned v ∧ Q v w' :=
  calls_of_vc good follows an12 (args := []) Try.func12 (by kernel_rfl) ok12 (of_decide_eq_true (by kernel_rfl)) (Eq.mp (eq12  w Q) h)

/-- slices.Index[[]string,string] -/
def F70 (x0 : Sl) (x1 : ByteArray) (w : World) (Q : Value → World → Prop) : Prop :=
 ∃ (I : Nat → Int → World → Prop) (n0 : Nat), I n0 (0 : Int) w ∧
 ∀ (n : Nat) (u : Env) (x8 : Int) (w1 : World), I n x8 w1 →
 IfB (decide (x8 < ((x0.l : Nat) : Int)))
 (∃ p14, x0.a = some p14 ∧ 0 ≤ x8 ∧ x8 < ((x0.l : Nat) : Int) ∧
 ∃ t15 : ByteArray, Ld w1 (p14.add ((x8).toNat * 1)) (.string t15) ∧
 IfB (x1.toList == t15.toList)
 (Q (.int .i64 x8) w1)
 (∃ n', n' < n ∧ I n' (IntKind.wrap .i64 (x8 + (1 : Int))) w1))
 (Q (.int .i64 (-1)) w1)
def an70 : Ann := { cut := fun i => none, loop := fun i => bif Nat.beq i 2 then [(8, .int .i64)] else [] }
theorem eq70 (x0 : Sl) (x1 : ByteArray) (w : World) (Q : Value → World → Prop) : F70 x0 x1 w Q = vc prog an70 (Try.f70.body.getD .skip) (envOf [.slice x0.a x0.l x0.c, .string x1]) w (retK prog Try.f70 Q) := by kernel_rfl
theorem ok70 : codeOk Try.f70.ntmps (Try.f70.body.getD .skip) = true := by kernel_rfl
theorem W70 {x0 : Sl} {x1 : ByteArray} {w : World} {Q : Value → World → Prop} (h : F70 x0 x1 w Q) : Calls prog 70 #[.slice x0.a x0.l x0.c, .string x1] w fun en w' => ∃ v, en = .returned v ∧ Q v w' :=
  calls_of_vc good follows an70 (args := [.slice x0.a x0.l x0.c, .string x1]) Try.func70 (by kernel_rfl) ok70 (of_decide_eq_true (by kernel_rfl)) (Eq.mp (eq70 x0 x1 w Q) h)

/-- slices.Contains[[]string,string] -/
def F38 (x0 : Sl) (x1 : ByteArray) (w : World) (Q : Value → World → Prop) : Prop :=
 Calls prog 70 #[.slice x0.a x0.l x0.c, .string x1] w fun en w1 =>
 ∃ t7 : Int, en = .returned (.int .i64 t7) ∧
 Q (.bool (decide (t7 ≥ (0 : Int)))) w1
def an38 : Ann := { cut := fun i => none, loop := fun i => [] }
theorem eq38 (x0 : Sl) (x1 : ByteArray) (w : World) (Q : Value → World → Prop) : F38 x0 x1 w Q = vc prog an38 (Try.f38.body.getD .skip) (envOf [.slice x0.a x0.l x0.c, .string x1]) w (retK prog Try.f38 Q) := by kernel_rfl
theorem ok38 : codeOk Try.f38.ntmps (Try.f38.body.getD .skip) = true := by kernel_rfl
theorem W38 {x0 : Sl} {x1 : ByteArray} {w : World} {Q : Value → World → Prop} (h : F38 x0 x1 w Q) : Calls prog 38 #[.slice x0.a x0.l x0.c, .string x1] w fun en w' => ∃ v, en = .returned v ∧ Q v w' :=
  calls_of_vc good follows an38 (args := [.slice x0.a x0.l x0.c, .string x1]) Try.func38 (by kernel_rfl) ok38 (of_decide_eq_true (by kernel_rfl)) (Eq.mp (eq38 x0 x1 w Q) h)

/-- (*bastion/stride.Shares).those -/
def F40 (x0 : Option Addr) (x1 : Bool) (x2 : Bool) (w : World) (Q : Value → World → Prop) : Prop :=
 ∀ b3 w1, NewB w (.cells #[.pointer x0] 23) b3 w1 →
 ∀ b4 w1_1, NewB w1 (.cells #[.bool x1] 4) b4 w1_1 →
 ∀ b5 w1_2, NewB w1_1 (.cells #[.bool x2] 4) b5 w1_2 →
 Q (.func (.func 71) #[] #[.pointer (some (⟨b3, 0, none⟩ : Addr)), .pointer (some (⟨b4, 0, none⟩ : Addr)), .pointer (some (⟨b5, 0, none⟩ : Addr))]) w1_2
def an40 : Ann := { cut := fun i => none, loop := fun i => [] }
theorem eq40 (x0 : Option Addr) (x1 : Bool) (x2 : Bool) (w : World) (Q : Value → World → Prop) : F40 x0 x1 x2 w Q = vc prog an40 (Try.f40.body.getD .skip) (envOf [.pointer x0, .bool x1, .bool x2]) w (retK prog Try.f40 Q) := by kernel_rfl
theorem ok40 : codeOk Try.f40.ntmps (Try.f40.body.getD .skip) = true := by kernel_rfl
theorem W40 {x0 : Option Addr} {x1 : Bool} {x2 : Bool} {w : World} {Q : Value → World → Prop} (h : F40 x0 x1 x2 w Q) : Calls prog 40 #[.pointer x0, .bool x1, .bool x2] w fun en w' => ∃ v, en = .returned v ∧ Q v w' :=
  calls_of_vc good follows an40 (args := [.pointer x0, .bool x1, .bool x2]) Try.func40 (by kernel_rfl) ok40 (of_decide_eq_true (by kernel_rfl)) (Eq.mp (eq40 x0 x1 x2 w Q) h)

/-- cmp.isNaN[int] -/
def F93 (x0 : Int) (w : World) (Q : Value → World → Prop) : Prop :=
 Q (.bool (x0 != x0)) w
def an93 : Ann := { cut := fun i => none, loop := fun i => [] }
theorem eq93 (x0 : Int) (w : World) (Q : Value → World → Prop) : F93 x0 w Q = vc prog an93 (Try.f93.body.getD .skip) (envOf [.int .i64 x0]) w (retK prog Try.f93 Q) := by kernel_rfl
theorem ok93 : codeOk Try.f93.ntmps (Try.f93.body.getD .skip) = true := by kernel_rfl
theorem W93 {x0 : Int} {w : World} {Q : Value → World → Prop} (h : F93 x0 w Q) : Calls prog 93 #[.int .i64 x0] w fun en w' => ∃ v, en = .returned v ∧ Q v w' :=
  calls_of_vc good follows an93 (args := [.int .i64 x0]) Try.func93 (by kernel_rfl) ok93 (of_decide_eq_true (by kernel_rfl)) (Eq.mp (eq93 x0 w Q) h)

/-- cmp.Compare[int] -/
def F74 (x0 : Int) (x1 : Int) (w : World) (Q : Value → World → Prop) : Prop :=
 Calls prog 93 #[.int .i64 x0] w fun en w1 =>
 ∃ t8 : Bool, en = .returned (.bool t8) ∧
 Calls prog 93 #[.int .i64 x1] w1 fun en w1_1 =>
 ∃ t10 : Bool, en = .returned (.bool t10) ∧
 IfB t8
 (IfB t10
 (Q (.int .i64 0) w1_1)
 (Q (.int .i64 (-1)) w1_1))
 (IfB t10
 (Q (.int .i64 1) w1_1)
 (IfB (decide (x0 < x1))
 (Q (.int .i64 (-1)) w1_1)
 (IfB (decide (x0 > x1))
 (Q (.int .i64 1) w1_1)
 (Q (.int .i64 0) w1_1))))
def an74 : Ann := { cut := fun i => none, loop := fun i => [] }
theorem eq74 (x0 : Int) (x1 : Int) (w : World) (Q : Value → World → Prop) : F74 x0 x1 w Q = vc prog an74 (Try.f74.body.getD .skip) (envOf [.int .i64 x0, .int .i64 x1]) w (retK prog Try.f74 Q) := by kernel_rfl
theorem ok74 : codeOk Try.f74.ntmps (Try.f74.body.getD .skip) = true := by kernel_rfl
theorem W74 {x0 : Int} {x1 : Int} {w : World} {Q : Value → World → Prop} (h : F74 x0 x1 w Q) : Calls prog 74 #[.int .i64 x0, .int .i64 x1] w fun en w' => ∃ v, en = .returned v ∧ Q v w' :=
  calls_of_vc good follows an74 (args := [.int .i64 x0, .int .i64 x1]) Try.func74 (by kernel_rfl) ok74 (of_decide_eq_true (by kernel_rfl)) (Eq.mp (eq74 x0 x1 w Q) h)

/-- (*bastion/stride.project).ratio -/
def F42 (x0 : Option Addr) (x1 : Option Addr) (w : World) (Q : Value → World → Prop) : Prop :=
 ∃ S : World → Prop, S w.drew ∧
 ∃ p6, x0 = some p6 ∧
 ∃ t8 : Int, (∀ w', S w' → Ld w' (p6.add 2) (.int .i64 t8)) ∧
 ∃ p10, x1 = some p10 ∧
 ∃ t12 : Int, (∀ w', S w' → Ld w' (p10.add 1) (.int .i64 t12)) ∧
 ∃ p15, x1 = some p15 ∧
 ∃ t17 : Int, (∀ w', S w' → Ld w' (p15.add 2) (.int .i64 t17)) ∧
 ∃ p19, x0 = some p19 ∧
 ∃ t21 : Int, (∀ w', S w' → Ld w' (p19.add 1) (.int .i64 t21)) ∧
 Calls prog 74 #[.int .i64 (IntKind.wrap .i64 (t8 * t12)), .int .i64 (IntKind.wrap .i64 (t17 * t21))] w.drew fun en w1 =>
 ∃ t23 : Int, en = .returned (.int .i64 t23) ∧
 Q (.int .i64 t23) w1
def an42 : Ann := { cut := fun i => none, loop := fun i => [] }
theorem eq42 (x0 : Option Addr) (x1 : Option Addr) (w : World) (Q : Value → World → Prop) : F42 x0 x1 w Q = vc prog an42 (Try.f42.body.getD .skip) (envOf [.pointer x0, .pointer x1]) w (retK prog Try.f42 Q) := by kernel_rfl
theorem ok42 : codeOk Try.f42.ntmps (Try.f42.body.getD .skip) = true := by kernel_rfl
theorem W42 {x0 : Option Addr} {x1 : Option Addr} {w : World} {Q : Value → World → Prop} (h : F42 x0 x1 w Q) : Calls prog 42 #[.pointer x0, .pointer x1] w fun en w' => ∃ v, en = .returned v ∧ Q v w' :=
  calls_of_vc good follows an42 (args := [.pointer x0, .pointer x1]) Try.func42 (by kernel_rfl) ok42 (of_decide_eq_true (by kernel_rfl)) (Eq.mp (eq42 x0 x1 w Q) h)

/-- cmp.Or[int] -/
def F72 (x0 : Sl) (w : World) (Q : Value → World → Prop) : Prop :=
 ∃ (I : Nat → Int → World → Prop) (n0 : Nat), I n0 (0 : Int) w ∧
 ∀ (n : Nat) (u : Env) (x8 : Int) (w1 : World), I n x8 w1 →
 IfB (decide (x8 < ((x0.l : Nat) : Int)))
 (∃ p10, x0.a = some p10 ∧ 0 ≤ x8 ∧ x8 < ((x0.l : Nat) : Int) ∧
 ∃ t11 : Int, Ld w1 (p10.add ((x8).toNat * 1)) (.int .i64 t11) ∧
 IfB (t11 != (0 : Int))
 (Q (.int .i64 t11) w1)
 (∃ n', n' < n ∧ I n' (IntKind.wrap .i64 (x8 + (1 : Int))) w1))
 (Q (.int .i64 0) w1)
def an72 : Ann := { cut := fun i => none, loop := fun i => bif Nat.beq i 3 then [(8, .int .i64)] else [] }
theorem eq72 (x0 : Sl) (w : World) (Q : Value → World → Prop) : F72 x0 w Q = vc prog an72 (Try.f72.body.getD .skip) (envOf [.slice x0.a x0.l x0.c]) w (retK prog Try.f72 Q) := by kernel_rfl
theorem ok72 : codeOk Try.f72.ntmps (Try.f72.body.getD .skip) = true := by kernel_rfl
theorem W72 {x0 : Sl} {w : World} {Q : Value → World → Prop} (h : F72 x0 w Q) : Calls prog 72 #[.slice x0.a x0.l x0.c] w fun en w' => ∃ v, en = .returned v ∧ Q v w' :=
  calls_of_vc good follows an72 (args := [.slice x0.a x0.l x0.c]) Try.func72 (by kernel_rfl) ok72 (of_decide_eq_true (by kernel_rfl)) (Eq.mp (eq72 x0 w Q) h)

/-- cmp.isNaN[string] -/
def F92 (x0 : ByteArray) (w : World) (Q : Value → World → Prop) : Prop :=
 Q (.bool (!(x0.toList == x0.toList))) w
def an92 : Ann := { cut := fun i => none, loop := fun i => [] }
theorem eq92 (x0 : ByteArray) (w : World) (Q : Value → World → Prop) : F92 x0 w Q = vc prog an92 (Try.f92.body.getD .skip) (envOf [.string x0]) w (retK prog Try.f92 Q) := by kernel_rfl
theorem ok92 : codeOk Try.f92.ntmps (Try.f92.body.getD .skip) = true := by kernel_rfl
theorem W92 {x0 : ByteArray} {w : World} {Q : Value → World → Prop} (h : F92 x0 w Q) : Calls prog 92 #[.string x0] w fun en w' => ∃ v, en = .returned v ∧ Q v w' :=
  calls_of_vc good follows an92 (args := [.string x0]) Try.func92 (by kernel_rfl) ok92 (of_decide_eq_true (by kernel_rfl)) (Eq.mp (eq92 x0 w Q) h)

/-- cmp.Compare[string] -/
def F73 (x0 : ByteArray) (x1 : ByteArray) (w : World) (Q : Value → World → Prop) : Prop :=
 Calls prog 92 #[.string x0] w fun en w1 =>
 ∃ t8 : Bool, en = .returned (.bool t8) ∧
 Calls prog 92 #[.string x1] w1 fun en w1_1 =>
 ∃ t10 : Bool, en = .returned (.bool t10) ∧
 IfB t8
 (IfB t10
 (Q (.int .i64 0) w1_1)
 (Q (.int .i64 (-1)) w1_1))
 (IfB t10
 (Q (.int .i64 1) w1_1)
 (IfB (Op.bytesLess x0.toList x1.toList)
 (Q (.int .i64 (-1)) w1_1)
 (IfB (!(Op.bytesLess x0.toList x1.toList || x0.toList == x1.toList))
 (Q (.int .i64 1) w1_1)
 (Q (.int .i64 0) w1_1))))
def an73 : Ann := { cut := fun i => none, loop := fun i => [] }
theorem eq73 (x0 : ByteArray) (x1 : ByteArray) (w : World) (Q : Value → World → Prop) : F73 x0 x1 w Q = vc prog an73 (Try.f73.body.getD .skip) (envOf [.string x0, .string x1]) w (retK prog Try.f73 Q) := by kernel_rfl
theorem ok73 : codeOk Try.f73.ntmps (Try.f73.body.getD .skip) = true := by kernel_rfl
theorem W73 {x0 : ByteArray} {x1 : ByteArray} {w : World} {Q : Value → World → Prop} (h : F73 x0 x1 w Q) : Calls prog 73 #[.string x0, .string x1] w fun en w' => ∃ v, en = .returned v ∧ Q v w' :=
  calls_of_vc good follows an73 (args := [.string x0, .string x1]) Try.func73 (by kernel_rfl) ok73 (of_decide_eq_true (by kernel_rfl)) (Eq.mp (eq73 x0 x1 w Q) h)

/-- (*bastion/stride.project).turn -/
def F41 (x0 : Option Addr) (x1 : Option Addr) (w : World) (Q : Value → World → Prop) : Prop :=
 ∃ S : World → Prop, S w.drew ∧
 ∃ p9, x0 = some p9 ∧
 ∃ t11 : ByteArray, (∀ w', S w' → Ld w' (p9.add 0) (.string t11)) ∧
 ∃ p13, x1 = some p13 ∧
 ∃ t15 : ByteArray, (∀ w', S w' → Ld w' (p13.add 0) (.string t15)) ∧
 Calls prog 42 #[.pointer x0, .pointer x1] w.drew fun en w1 =>
 ∃ t7 : Int, en = .returned (.int .i64 t7) ∧
 S w1 ∧
 Calls prog 73 #[.string t11, .string t15] w1 fun en w1_1 =>
 ∃ t16 : Int, en = .returned (.int .i64 t16) ∧
 RunT prog .slice (Instr.buildSlice 59 2 #[(0, .int .i64 t7), (1, .int .i64 t16)]) w1_1 fun (t17 : Sl) w1_2 =>
 Calls prog 72 #[.slice t17.a t17.l t17.c] w1_2 fun en w1_3 =>
 ∃ t18 : Int, en = .returned (.int .i64 t18) ∧
 Q (.int .i64 t18) w1_3
def an41 : Ann := { cut := fun i => none, loop := fun i => [] }
theorem eq41 (x0 : Option Addr) (x1 : Option Addr) (w : World) (Q : Value → World → Prop) : F41 x0 x1 w Q = vc prog an41 (Try.f41.body.getD .skip) (envOf [.pointer x0, .pointer x1]) w (retK prog Try.f41 Q) := by kernel_rfl
theorem ok41 : codeOk Try.f41.ntmps (Try.f41.body.getD .skip) = true := by kernel_rfl
theorem W41 {x0 : Option Addr} {x1 : Option Addr} {w : World} {Q : Value → World → Prop} (h : F41 x0 x1 w Q) : Calls prog 41 #[.pointer x0, .pointer x1] w fun en w' => ∃ v, en = .returned v ∧ Q v w' :=
  calls_of_vc good follows an41 (args := [.pointer x0, .pointer x1]) Try.func41 (by kernel_rfl) ok41 (of_decide_eq_true (by kernel_rfl)) (Eq.mp (eq41 x0 x1 w Q) h)

/-- bastion/stride.scaled -/
def F43 (x0 : Int) (x1 : Int) (x2 : Int) (w : World) (Q : Value → World → Prop) : Prop :=
 x1 ≠ 0 ∧
 Q (.int .i64 (IntKind.wrap .i64 (Int.tdiv (IntKind.wrap .i64 ((IntKind.wrap .i64 ((IntKind.wrap .i64 (x0 * x2)) + x1)) - (1 : Int))) x1))) w
def an43 : Ann := { cut := fun i => none, loop := fun i => [] }
theorem eq43 (x0 : Int) (x1 : Int) (x2 : Int) (w : World) (Q : Value → World → Prop) : F43 x0 x1 x2 w Q = vc prog an43 (Try.f43.body.getD .skip) (envOf [.int .i64 x0, .int .i64 x1, .int .i64 x2]) w (retK prog Try.f43 Q) := by kernel_rfl
theorem ok43 : codeOk Try.f43.ntmps (Try.f43.body.getD .skip) = true := by kernel_rfl
theorem W43 {x0 : Int} {x1 : Int} {x2 : Int} {w : World} {Q : Value → World → Prop} (h : F43 x0 x1 x2 w Q) : Calls prog 43 #[.int .i64 x0, .int .i64 x1, .int .i64 x2] w fun en w' => ∃ v, en = .returned v ∧ Q v w' :=
  calls_of_vc good follows an43 (args := [.int .i64 x0, .int .i64 x1, .int .i64 x2]) Try.func43 (by kernel_rfl) ok43 (of_decide_eq_true (by kernel_rfl)) (Eq.mp (eq43 x0 x1 x2 w Q) h)

/-- bastion/bastionlaw24.two -/
def F14 (w : World) (Q : Value → World → Prop) : Prop :=
 RunT prog .slice (Instr.buildSlice 28 2 #[(0, .string (⟨#[97]⟩ : ByteArray)), (1, .string (⟨#[98]⟩ : ByteArray))]) w fun (t1 : Sl) w1 =>
 Q (.slice t1.a t1.l t1.c) w1
def an14 : Ann := { cut := fun i => none, loop := fun i => [] }
theorem eq14 (w : World) (Q : Value → World → Prop) : F14  w Q = vc prog an14 (Try.f14.body.getD .skip) (envOf []) w (retK prog Try.f14 Q) := by kernel_rfl
theorem ok14 : codeOk Try.f14.ntmps (Try.f14.body.getD .skip) = true := by kernel_rfl
theorem W14 {w : World} {Q : Value → World → Prop} (h : F14  w Q) : Calls prog 14 #[] w fun en w' => ∃ v, en = .returned v ∧ Q v w' :=
  calls_of_vc good follows an14 (args := []) Try.func14 (by kernel_rfl) ok14 (of_decide_eq_true (by kernel_rfl)) (Eq.mp (eq14  w Q) h)

/-- bastion/stride.good -/
def F44 (x0 : ByteArray) (w : World) (Q : Value → World → Prop) : Prop :=
 ∃ J : Bool → World → Prop, (IfB (x0.toList == (⟨#[]⟩ : ByteArray).toList)
 (J true w)
 (IfB (decide (((x0.size : Nat) : Int) > (24 : Int)))
 (J true w)
 (0 ≤ (0 : Int) ∧ (0 : Int) < ((x0.size : Nat) : Int) ∧
 IfB (decide (bt x0 (0 : Int) < (97 : Int)))
 (J true w)
 (0 ≤ (0 : Int) ∧ (0 : Int) < ((x0.size : Nat) : Int) ∧
 J (decide (bt x0 (0 : Int) > (122 : Int))) w)))) ∧
 (∀ (u : Env) (x21 : Bool) (w1 : World), J x21 w1 →
 IfB x21
 (Q (.bool false) w1)
 (∃ (I : Nat → Int → World → Prop) (n0 : Nat), I n0 (0 : Int) w1 ∧
 ∀ (n : Nat) (u_1 : Env) (x24 : Int) (w1_1 : World), I n x24 w1_1 →
 IfB (decide (x24 < ((x0.size : Nat) : Int)))
 (0 ≤ x24 ∧ x24 < ((x0.size : Nat) : Int) ∧
 IfB (decide (bt x0 x24 < (97 : Int)))
 (IfB (decide (bt x0 x24 < (48 : Int)))
 (IfB (bt x0 x24 != (45 : Int))
 (IfB (bt x0 x24 != (95 : Int))
 (Q (.bool false) w1_1)
 (∃ n', n' < n ∧ I n' (IntKind.wrap .i64 (x24 + (1 : Int))) w1_1))
 (∃ n', n' < n ∧ I n' (IntKind.wrap .i64 (x24 + (1 : Int))) w1_1))
 (IfB (decide (bt x0 x24 > (57 : Int)))
 (IfB (bt x0 x24 != (45 : Int))
 (IfB (bt x0 x24 != (95 : Int))
 (Q (.bool false) w1_1)
 (∃ n', n' < n ∧ I n' (IntKind.wrap .i64 (x24 + (1 : Int))) w1_1))
 (∃ n', n' < n ∧ I n' (IntKind.wrap .i64 (x24 + (1 : Int))) w1_1))
 (∃ n', n' < n ∧ I n' (IntKind.wrap .i64 (x24 + (1 : Int))) w1_1)))
 (IfB (decide (bt x0 x24 > (122 : Int)))
 (IfB (decide (bt x0 x24 < (48 : Int)))
 (IfB (bt x0 x24 != (45 : Int))
 (IfB (bt x0 x24 != (95 : Int))
 (Q (.bool false) w1_1)
 (∃ n', n' < n ∧ I n' (IntKind.wrap .i64 (x24 + (1 : Int))) w1_1))
 (∃ n', n' < n ∧ I n' (IntKind.wrap .i64 (x24 + (1 : Int))) w1_1))
 (IfB (decide (bt x0 x24 > (57 : Int)))
 (IfB (bt x0 x24 != (45 : Int))
 (IfB (bt x0 x24 != (95 : Int))
 (Q (.bool false) w1_1)
 (∃ n', n' < n ∧ I n' (IntKind.wrap .i64 (x24 + (1 : Int))) w1_1))
 (∃ n', n' < n ∧ I n' (IntKind.wrap .i64 (x24 + (1 : Int))) w1_1))
 (∃ n', n' < n ∧ I n' (IntKind.wrap .i64 (x24 + (1 : Int))) w1_1)))
 (∃ n', n' < n ∧ I n' (IntKind.wrap .i64 (x24 + (1 : Int))) w1_1)))
 (Q (.bool true) w1_1)))
def an44 : Ann := { cut := fun i => bif Nat.beq i 2 then some [(21, .bool)] else none, loop := fun i => bif Nat.beq i 4 then [(24, .int .i64)] else [] }
theorem eq44 (x0 : ByteArray) (w : World) (Q : Value → World → Prop) : F44 x0 w Q = vc prog an44 (Try.f44.body.getD .skip) (envOf [.string x0]) w (retK prog Try.f44 Q) := by kernel_rfl
theorem ok44 : codeOk Try.f44.ntmps (Try.f44.body.getD .skip) = true := by kernel_rfl
theorem W44 {x0 : ByteArray} {w : World} {Q : Value → World → Prop} (h : F44 x0 w Q) : Calls prog 44 #[.string x0] w fun en w' => ∃ v, en = .returned v ∧ Q v w' :=
  calls_of_vc good follows an44 (args := [.string x0]) Try.func44 (by kernel_rfl) ok44 (of_decide_eq_true (by kernel_rfl)) (Eq.mp (eq44 x0 w Q) h)

/-- slices.BinarySearchFunc[[]*bastion/stride.project,*bastion/stride.project,string] -/
def F75 (x0 : Sl) (x1 : ByteArray) (x2 : Value) (w : World) (Q : Value → World → Prop) : Prop :=
 ∃ (I : Nat → Int → Int → World → Prop) (n0 : Nat), I n0 (0 : Int) ((x0.l : Nat) : Int) w ∧
 ∀ (n : Nat) (u : Env) (x9 : Int) (x10 : Int) (w1 : World), I n x9 x10 w1 →
 IfB (decide (x9 < x10))
 (0 ≤ (1 : Int) ∧
 ∃ p27, x0.a = some p27 ∧ 0 ≤ IntKind.wrap .i64 (Int.fdiv (IntKind.wrap .u64 (IntKind.wrap .i64 (x9 + x10))) (2 ^ (min 1 64))) ∧ IntKind.wrap .i64 (Int.fdiv (IntKind.wrap .u64 (IntKind.wrap .i64 (x9 + x10))) (2 ^ (min 1 64))) < ((x0.l : Nat) : Int) ∧
 ∃ t28 : Option Addr, Ld w1 (p27.add ((IntKind.wrap .i64 (Int.fdiv (IntKind.wrap .u64 (IntKind.wrap .i64 (x9 + x10))) (2 ^ (min 1 64)))).toNat * 1)) (.pointer t28) ∧
 CallV prog x2 #[.pointer t28, .string x1] w1 fun v30 w1_1 =>
 ∃ t30 : Int, v30 = (.int .i64 t30) ∧
 IfB (decide (t30 < (0 : Int)))
 (∃ n', n' < n ∧ I n' (IntKind.wrap .i64 ((IntKind.wrap .i64 (Int.fdiv (IntKind.wrap .u64 (IntKind.wrap .i64 (x9 + x10))) (2 ^ (min 1 64)))) + (1 : Int))) x10 w1_1)
 (∃ n', n' < n ∧ I n' x9 (IntKind.wrap .i64 (Int.fdiv (IntKind.wrap .u64 (IntKind.wrap .i64 (x9 + x10))) (2 ^ (min 1 64)))) w1_1))
 (IfB (decide (x9 < ((x0.l : Nat) : Int)))
 (∃ p43, x0.a = some p43 ∧ 0 ≤ x9 ∧ x9 < ((x0.l : Nat) : Int) ∧
 ∃ t44 : Option Addr, Ld w1 (p43.add ((x9).toNat * 1)) (.pointer t44) ∧
 CallV prog x2 #[.pointer t44, .string x1] w1 fun v46 w1_1 =>
 ∃ t46 : Int, v46 = (.int .i64 t46) ∧
 Q (.tuple #[.int .i64 x9, .bool (t46 == (0 : Int))]) w1_1)
 (Q (.tuple #[.int .i64 x9, .bool false]) w1))
def an75 : Ann := { cut := fun i => none, loop := fun i => bif Nat.beq i 3 then [(9, .int .i64), (10, .int .i64)] else [] }
theorem eq75 (x0 : Sl) (x1 : ByteArray) (x2 : Value) (w : World) (Q : Value → World → Prop) : F75 x0 x1 x2 w Q = vc prog an75 (Try.f75.body.getD .skip) (envOf [.slice x0.a x0.l x0.c, .string x1, x2]) w (retK prog Try.f75 Q) := by kernel_rfl
theorem ok75 : codeOk Try.f75.ntmps (Try.f75.body.getD .skip) = true := by kernel_rfl
theorem W75 {x0 : Sl} {x1 : ByteArray} {x2 : Value} {w : World} {Q : Value → World → Prop} (h : F75 x0 x1 x2 w Q) : Calls prog 75 #[.slice x0.a x0.l x0.c, .string x1, x2] w fun en w' => ∃ v, en = .returned v ∧ Q v w' :=
  calls_of_vc good follows an75 (args := [.slice x0.a x0.l x0.c, .string x1, x2]) Try.func75 (by kernel_rfl) ok75 (of_decide_eq_true (by kernel_rfl)) (Eq.mp (eq75 x0 x1 x2 w Q) h)

/-- (*bastion/stride.Shares).find -/
def F45 (x0 : Option Addr) (x1 : ByteArray) (w : World) (Q : Value → World → Prop) : Prop :=
 ∃ p7, x0 = some p7 ∧
 ∃ t9 : Sl, Ld w (p7.add 0) (.slice t9.a t9.l t9.c) ∧
 Calls prog 75 #[.slice t9.a t9.l t9.c, .string x1, .func (.func 76) #[] #[]] w fun en w1 =>
 ∃ t11a : Int, ∃ t11b : Bool, en = .returned (.tuple #[.int .i64 t11a, .bool t11b]) ∧
 Q (.tuple #[.int .i64 t11a, .bool t11b]) w1
def an45 : Ann := { cut := fun i => none, loop := fun i => [] }
theorem eq45 (x0 : Option Addr) (x1 : ByteArray) (w : World) (Q : Value → World → Prop) : F45 x0 x1 w Q = vc prog an45 (Try.f45.body.getD .skip) (envOf [.pointer x0, .string x1]) w (retK prog Try.f45 Q) := by kernel_rfl
theorem ok45 : codeOk Try.f45.ntmps (Try.f45.body.getD .skip) = true := by kernel_rfl
theorem W45 {x0 : Option Addr} {x1 : ByteArray} {w : World} {Q : Value → World → Prop} (h : F45 x0 x1 w Q) : Calls prog 45 #[.pointer x0, .string x1] w fun en w' => ∃ v, en = .returned v ∧ Q v w' :=
  calls_of_vc good follows an45 (args := [.pointer x0, .string x1]) Try.func45 (by kernel_rfl) ok45 (of_decide_eq_true (by kernel_rfl)) (Eq.mp (eq45 x0 x1 w Q) h)

/-- slices.Reverse[[]*bastion/stride.project,*bastion/stride.project] -/
def F100 (x0 : Sl) (w : World) (Q : Value → World → Prop) : Prop :=
 ∃ (I : Nat → Int → Int → World → Prop) (n0 : Nat), I n0 (0 : Int) (IntKind.wrap .i64 (((x0.l : Nat) : Int) - (1 : Int))) w ∧
 ∀ (n : Nat) (u : Env) (x2 : Int) (x3 : Int) (w1 : World), I n x2 x3 w1 →
 IfB (decide (x2 < x3))
 (∃ S : World → Prop, S w1.drew ∧
 ∃ p20, x0.a = some p20 ∧ 0 ≤ x3 ∧ x3 < ((x0.l : Nat) : Int) ∧
 ∃ t21 : Option Addr, (∀ w', S w' → Ld w' (p20.add ((x3).toNat * 1)) (.pointer t21)) ∧
 ∃ p24, x0.a = some p24 ∧ 0 ≤ x2 ∧ x2 < ((x0.l : Nat) : Int) ∧
 ∃ t25 : Option Addr, (∀ w', S w' → Ld w' (p24.add ((x2).toNat * 1)) (.pointer t25)) ∧
 ∃ p26, x0.a = some p26 ∧ 0 ≤ x2 ∧ x2 < ((x0.l : Nat) : Int) ∧
 Wr w1.drew (p26.add ((x2).toNat * 1)) ∧ ∀ w1_1, w1_1 = w1.drew.setCell (p26.add ((x2).toNat * 1)) (.pointer t21) →
 ∃ p27, x0.a = some p27 ∧ 0 ≤ x3 ∧ x3 < ((x0.l : Nat) : Int) ∧
 Wr w1_1 (p27.add ((x3).toNat * 1)) ∧ ∀ w1_2, w1_2 = w1_1.setCell (p27.add ((x3).toNat * 1)) (.pointer t25) →
 ∃ n', n' < n ∧ I n' (IntKind.wrap .i64 (x2 + (1 : Int))) (IntKind.wrap .i64 (x3 - (1 : Int))) w1_2)
 (Q (.tuple #[]) w1)
def an100 : Ann := { cut := fun i => none, loop := fun i => bif Nat.beq i 1 then [(2, .int .i64), (3, .int .i64)] else [] }
theorem eq100 (x0 : Sl) (w : World) (Q : Value → World → Prop) : F100 x0 w Q = vc prog an100 (Try.f100.body.getD .skip) (envOf [.slice x0.a x0.l x0.c]) w (retK prog Try.f100 Q) := by kernel_rfl
theorem ok100 : codeOk Try.f100.ntmps (Try.f100.body.getD .skip) = true := by kernel_rfl
theorem W100 {x0 : Sl} {w : World} {Q : Value → World → Prop} (h : F100 x0 w Q) : Calls prog 100 #[.slice x0.a x0.l x0.c] w fun en w' => ∃ v, en = .returned v ∧ Q v w' :=
  calls_of_vc good follows an100 (args := [.slice x0.a x0.l x0.c]) Try.func100 (by kernel_rfl) ok100 (of_decide_eq_true (by kernel_rfl)) (Eq.mp (eq100 x0 w Q) h)

/-- slices.rotateLeft[*bastion/stride.project] -/
def F94 (x0 : Sl) (x1 : Int) (w : World) (Q : Value → World → Prop) : Prop :=
 (0 ≤ x1 ∧ x1 ≤ ((x0.c : Nat) : Int)) ∧
 Calls prog 100 #[.slice (slA x0.a 0 x0.c 1) ((x1).toNat - 0) (x0.c - 0)] w fun en w1 =>
 en = .returned (.tuple #[]) ∧
 (0 ≤ x1 ∧ x1 ≤ ((x0.l : Nat) : Int)) ∧
 Calls prog 100 #[.slice (slA x0.a ((x1).toNat) x0.c 1) (x0.l - ((x1).toNat)) (x0.c - ((x1).toNat))] w1 fun en w1_1 =>
 en = .returned (.tuple #[]) ∧
 Calls prog 100 #[.slice x0.a x0.l x0.c] w1_1 fun en w1_2 =>
 en = .returned (.tuple #[]) ∧
 Q (.tuple #[]) w1_2
def an94 : Ann := { cut := fun i => none, loop := fun i => [] }
theorem eq94 (x0 : Sl) (x1 : Int) (w : World) (Q : Value → World → Prop) : F94 x0 x1 w Q = vc prog an94 (Try.f94.body.getD .skip) (envOf [.slice x0.a x0.l x0.c, .int .i64 x1]) w (retK prog Try.f94 Q) := by kernel_rfl
theorem ok94 : codeOk Try.f94.ntmps (Try.f94.body.getD .skip) = true := by kernel_rfl
theorem W94 {x0 : Sl} {x1 : Int} {w : World} {Q : Value → World → Prop} (h : F94 x0 x1 w Q) : Calls prog 94 #[.slice x0.a x0.l x0.c, .int .i64 x1] w fun en w' => ∃ v, en = .returned v ∧ Q v w' :=
  calls_of_vc good follows an94 (args := [.slice x0.a x0.l x0.c, .int .i64 x1]) Try.func94 (by kernel_rfl) ok94 (of_decide_eq_true (by kernel_rfl)) (Eq.mp (eq94 x0 x1 w Q) h)

/-- slices.rotateRight[*bastion/stride.project] -/
def F78 (x0 : Sl) (x1 : Int) (w : World) (Q : Value → World → Prop) : Prop :=
 Calls prog 94 #[.slice x0.a x0.l x0.c, .int .i64 (IntKind.wrap .i64 (((x0.l : Nat) : Int) - x1))] w fun en w1 =>
 en = .returned (.tuple #[]) ∧
 Q (.tuple #[]) w1
def an78 : Ann := { cut := fun i => none, loop := fun i => [] }
theorem eq78 (x0 : Sl) (x1 : Int) (w : World) (Q : Value → World → Prop) : F78 x0 x1 w Q = vc prog an78 (Try.f78.body.getD .skip) (envOf [.slice x0.a x0.l x0.c, .int .i64 x1]) w (retK prog Try.f78 Q) := by kernel_rfl
theorem ok78 : codeOk Try.f78.ntmps (Try.f78.body.getD .skip) = true := by kernel_rfl
theorem W78 {x0 : Sl} {x1 : Int} {w : World} {Q : Value → World → Prop} (h : F78 x0 x1 w Q) : Calls prog 78 #[.slice x0.a x0.l x0.c, .int .i64 x1] w fun en w' => ∃ v, en = .returned v ∧ Q v w' :=
  calls_of_vc good follows an78 (args := [.slice x0.a x0.l x0.c, .int .i64 x1]) Try.func78 (by kernel_rfl) ok78 (of_decide_eq_true (by kernel_rfl)) (Eq.mp (eq78 x0 x1 w Q) h)

/-- internal/stringslite.Clone -/
def F79 (x0 : ByteArray) (w : World) (Q : Value → World → Prop) : Prop :=
 IfB (((x0.size : Nat) : Int) == (0 : Int))
 (Q (.string (⟨#[]⟩ : ByteArray)) w)
 (RunT prog .slice (Instr.makeSlice 31 (.int .i64 ((x0.size : Nat) : Int)) (.int .i64 ((x0.size : Nat) : Int))) w fun (t9 : Sl) w1 =>
 RunT prog (.int .i64) (Builtin.copy_ #[31, 9] 3 #[.slice t9.a t9.l t9.c, .string x0]) w1 fun (t12 : Int) w1_1 =>
 ∃ p14, t9.a = some p14 ∧ 0 ≤ (0 : Int) ∧ (0 : Int) < ((t9.l : Nat) : Int) ∧
 RunT prog .str (Builtin.unsafeString_ #[129, 3] 9 #[.pointer (some (p14.add (0 * 1))), .int .i64 ((t9.l : Nat) : Int)]) w1_1 fun (t17 : ByteArray) w1_2 =>
 Q (.string t17) w1_2)
def an79 : Ann := { cut := fun i => none, loop := fun i => [] }
theorem eq79 (x0 : ByteArray) (w : World) (Q : Value → World → Prop) : F79 x0 w Q = vc prog an79 (Try.f79.body.getD .skip) (envOf [.string x0]) w (retK prog Try.f79 Q) := by kernel_rfl
theorem ok79 : codeOk Try.f79.ntmps (Try.f79.body.getD .skip) = true := by kernel_rfl
theorem W79 {x0 : ByteArray} {w : World} {Q : Value → World → Prop} (h : F79 x0 w Q) : Calls prog 79 #[.string x0] w fun en w' => ∃ v, en = .returned v ∧ Q v w' :=
  calls_of_vc good follows an79 (args := [.string x0]) Try.func79 (by kernel_rfl) ok79 (of_decide_eq_true (by kernel_rfl)) (Eq.mp (eq79 x0 w Q) h)

/-- strings.Clone -/
def F47 (x0 : ByteArray) (w : World) (Q : Value → World → Prop) : Prop :=
 Calls prog 79 #[.string x0] w fun en w1 =>
 ∃ t4 : ByteArray, en = .returned (.string t4) ∧
 Q (.string t4) w1
def an47 : Ann := { cut := fun i => none, loop := fun i => [] }
theorem eq47 (x0 : ByteArray) (w : World) (Q : Value → World → Prop) : F47 x0 w Q = vc prog an47 (Try.f47.body.getD .skip) (envOf [.string x0]) w (retK prog Try.f47 Q) := by kernel_rfl
theorem ok47 : codeOk Try.f47.ntmps (Try.f47.body.getD .skip) = true := by kernel_rfl
theorem W47 {x0 : ByteArray} {w : World} {Q : Value → World → Prop} (h : F47 x0 w Q) : Calls prog 47 #[.string x0] w fun en w' => ∃ v, en = .returned v ∧ Q v w' :=
  calls_of_vc good follows an47 (args := [.string x0]) Try.func47 (by kernel_rfl) ok47 (of_decide_eq_true (by kernel_rfl)) (Eq.mp (eq47 x0 w Q) h)

/-- (*bastion/stride.Shares).Set -/
def F15 (x0 : Option Addr) (x1 : ByteArray) (x2 : Int) (w : World) (Q : Value → World → Prop) : Prop :=
 ∃ b12 : Bool, BinIs prog .eql 23 (.tmp 11) (.const (.pointer none)) (.pointer x0) (.pointer none) b12 ∧
 IfB b12
 (Q (.int .i64 2) w)
 (Calls prog 44 #[.string x1] w fun en w1 =>
 ∃ t14 : Bool, en = .returned (.bool t14) ∧
 IfB (!t14)
 (Q (.int .i64 63) w1)
 (∃ J : Bool → World → Prop, (IfB (decide (x2 < (1 : Int)))
 (J true w1)
 (J (decide (x2 > (1000 : Int))) w1)) ∧
 (∀ (u : Env) (x21 : Bool) (w1_1 : World), J x21 w1_1 →
 IfB x21
 (Q (.int .i64 1) w1_1)
 (Calls prog 45 #[.pointer x0, .string x1] w1_1 fun en w1_2 =>
 ∃ t25a : Int, ∃ t25b : Bool, en = .returned (.tuple #[.int .i64 t25a, .bool t25b]) ∧
 IfB (!t25b)
 (∃ p31, x0 = some p31 ∧
 ∃ t33 : Sl, Ld w1_2 (p31.add 0) (.slice t33.a t33.l t33.c) ∧
 IfB (decide (((t33.l : Nat) : Int) ≥ (4 : Int)))
 (Q (.int .i64 3) w1_2)
 (∃ S : World → Prop, S w1_2.drew ∧
 ∃ p38, x0 = some p38 ∧
 ∃ t40 : Sl, (∀ w', S w' → Ld w' (p38.add 0) (.slice t40.a t40.l t40.c)) ∧
 Calls prog 47 #[.string x1] w1_2.drew fun en w1_3 =>
 ∃ t43 : ByteArray, en = .returned (.string t43) ∧
 S w1_3 ∧
 ∃ t45 : Array Value, BuildIs prog 77 #[(0, .string t43), (1, .int .i64 x2)] t45 ∧
 ∀ b46 w1_4, NewB w1_3 (.cells t45 77) b46 w1_4 →
 S w1_4 ∧
 RunT prog .slice (Instr.buildSlice 71 1 #[(0, .pointer (some (⟨b46, 0, none⟩ : Addr)))]) w1_4 fun (t47 : Sl) w1_5 =>
 S w1_5 ∧
 Calls prog 46 #[.slice t40.a t40.l t40.c, .int .i64 t25a, .slice t47.a t47.l t47.c] w1_5 fun en w1_6 =>
 ∃ t48 : Sl, en = .returned (.slice t48.a t48.l t48.c) ∧
 ∃ p49, x0 = some p49 ∧
 Wr w1_6 (p49.add 0) ∧ ∀ w1_7, w1_7 = w1_6.setCell (p49.add 0) (.slice t48.a t48.l t48.c) →
 Q (.int .i64 0) w1_7))
 (∃ p52, x0 = some p52 ∧
 ∃ t54 : Sl, Ld w1_2 (p52.add 0) (.slice t54.a t54.l t54.c) ∧
 ∃ p56, t54.a = some p56 ∧ 0 ≤ t25a ∧ t25a < ((t54.l : Nat) : Int) ∧
 ∃ t57 : Option Addr, Ld w1_2 (p56.add ((t25a).toNat * 1)) (.pointer t57) ∧
 ∃ S : World → Prop, S w1_2.drew ∧
 ∃ p59, t57 = some p59 ∧
 ∃ t61 : Int, (∀ w', S w' → Ld w' (p59.add 2) (.int .i64 t61)) ∧
 ∃ p63, t57 = some p63 ∧
 ∃ t65 : Int, (∀ w', S w' → Ld w' (p63.add 1) (.int .i64 t65)) ∧
 Calls prog 43 #[.int .i64 t61, .int .i64 t65, .int .i64 x2] w1_2.drew fun en w1_3 =>
 ∃ t67 : Int, en = .returned (.int .i64 t67) ∧
 IfB (decide (t67 > (2147483647 : Int)))
 (Q (.int .i64 70) w1_3)
 (∃ p74, t57 = some p74 ∧
 Wr w1_3 (p74.add 1) ∧ ∀ w1_4, w1_4 = w1_3.setCell (p74.add 1) (.int .i64 x2) →
 ∃ p76, t57 = some p76 ∧
 Wr w1_4 (p76.add 2) ∧ ∀ w1_5, w1_5 = w1_4.setCell (p76.add 2) (.int .i64 t67) →
 Q (.int .i64 0) w1_5))))))
def an15 : Ann := { cut := fun i => bif Nat.beq i 6 then some [(21, .bool)] else none, loop := fun i => [] }
theorem eq15 (x0 : Option Addr) (x1 : ByteArray) (x2 : Int) (w : World) (Q : Value → World → Prop) : F15 x0 x1 x2 w Q = vc prog an15 (Try.f15.body.getD .skip) (envOf [.pointer x0, .string x1, .int .i64 x2]) w (retK prog Try.f15 Q) := by kernel_rfl
theorem ok15 : codeOk Try.f15.ntmps (Try.f15.body.getD .skip) = true := by kernel_rfl
theorem W15 {x0 : Option Addr} {x1 : ByteArray} {x2 : Int} {w : World} {Q : Value → World → Prop} (h : F15 x0 x1 x2 w Q) : Calls prog 15 #[.pointer x0, .string x1, .int .i64 x2] w fun en w' => ∃ v, en = .returned v ∧ Q v w' :=
  calls_of_vc good follows an15 (args := [.pointer x0, .string x1, .int .i64 x2]) Try.func15 (by kernel_rfl) ok15 (of_decide_eq_true (by kernel_rfl)) (Eq.mp (eq15 x0 x1 x2 w Q) h)

/-- (*bastion/stride.Shares).Charge -/
def F18 (x0 : Option Addr) (x1 : ByteArray) (x2 : Int) (w : World) (Q : Value → World → Prop) : Prop :=
 ∃ b10 : Bool, BinIs prog .eql 23 (.tmp 9) (.const (.pointer none)) (.pointer x0) (.pointer none) b10 ∧
 IfB b10
 (Q (.int .i64 2) w)
 (Calls prog 45 #[.pointer x0, .string x1] w fun en w1 =>
 ∃ t14a : Int, ∃ t14b : Bool, en = .returned (.tuple #[.int .i64 t14a, .bool t14b]) ∧
 IfB (!t14b)
 (Q (.int .i64 5) w1)
 (IfB (decide (x2 < (0 : Int)))
 (Q (.int .i64 1) w1)
 (∃ p26, x0 = some p26 ∧
 ∃ t28 : Sl, Ld w1 (p26.add 0) (.slice t28.a t28.l t28.c) ∧
 ∃ p30, t28.a = some p30 ∧ 0 ≤ t14a ∧ t14a < ((t28.l : Nat) : Int) ∧
 ∃ t31 : Option Addr, Ld w1 (p30.add ((t14a).toNat * 1)) (.pointer t31) ∧
 ∃ p32, t31 = some p32 ∧
 ∃ t34 : Int, Ld w1 (p32.add 2) (.int .i64 t34) ∧
 IfB (decide (x2 > IntKind.wrap .i64 ((2147483647 : Int) - t34)))
 (Q (.int .i64 70) w1)
 (∃ p38, x0 = some p38 ∧
 ∃ t40 : Sl, Ld w1 (p38.add 0) (.slice t40.a t40.l t40.c) ∧
 ∃ p42, t40.a = some p42 ∧ 0 ≤ t14a ∧ t14a < ((t40.l : Nat) : Int) ∧
 ∃ t43 : Option Addr, Ld w1 (p42.add ((t14a).toNat * 1)) (.pointer t43) ∧
 ∃ p44, t43 = some p44 ∧
 ∃ t46 : Int, Ld w1 (p44.add 2) (.int .i64 t46) ∧
 ∃ p49, t43 = some p49 ∧
 Wr w1 (p49.add 2) ∧ ∀ w1_1, w1_1 = w1.setCell (p49.add 2) (.int .i64 (IntKind.wrap .i64 (t46 + x2))) →
 Q (.int .i64 0) w1_1))))
def an18 : Ann := { cut := fun i => none, loop := fun i => [] }
theorem eq18 (x0 : Option Addr) (x1 : ByteArray) (x2 : Int) (w : World) (Q : Value → World → Prop) : F18 x0 x1 x2 w Q = vc prog an18 (Try.f18.body.getD .skip) (envOf [.pointer x0, .string x1, .int .i64 x2]) w (retK prog Try.f18 Q) := by kernel_rfl
theorem ok18 : codeOk Try.f18.ntmps (Try.f18.body.getD .skip) = true := by kernel_rfl
theorem W18 {x0 : Option Addr} {x1 : ByteArray} {x2 : Int} {w : World} {Q : Value → World → Prop} (h : F18 x0 x1 x2 w Q) : Calls prog 18 #[.pointer x0, .string x1, .int .i64 x2] w fun en w' => ∃ v, en = .returned v ∧ Q v w' :=
  calls_of_vc good follows an18 (args := [.pointer x0, .string x1, .int .i64 x2]) Try.func18 (by kernel_rfl) ok18 (of_decide_eq_true (by kernel_rfl)) (Eq.mp (eq18 x0 x1 x2 w Q) h)

/-- (*bastion/stride.Shares).Had -/
def F19 (x0 : Option Addr) (x1 : ByteArray) (w : World) (Q : Value → World → Prop) : Prop :=
 ∃ b10 : Bool, BinIs prog .eql 23 (.tmp 9) (.const (.pointer none)) (.pointer x0) (.pointer none) b10 ∧
 IfB b10
 (Q (.tuple #[.int .i64 0, .int .i64 0, .bool false]) w)
 (Calls prog 45 #[.pointer x0, .string x1] w fun en w1 =>
 ∃ t14a : Int, ∃ t14b : Bool, en = .returned (.tuple #[.int .i64 t14a, .bool t14b]) ∧
 IfB (!t14b)
 (Q (.tuple #[.int .i64 0, .int .i64 0, .bool false]) w1)
 (∃ p20, x0 = some p20 ∧
 ∃ t22 : Sl, Ld w1.drew (p20.add 0) (.slice t22.a t22.l t22.c) ∧
 ∃ p24, t22.a = some p24 ∧ 0 ≤ t14a ∧ t14a < ((t22.l : Nat) : Int) ∧
 ∃ t25 : Option Addr, Ld w1.drew (p24.add ((t14a).toNat * 1)) (.pointer t25) ∧
 ∃ p26, t25 = some p26 ∧
 ∃ t28 : Int, Ld w1.drew (p26.add 1) (.int .i64 t28) ∧
 ∃ p30, x0 = some p30 ∧
 ∃ t32 : Sl, Ld w1.drew (p30.add 0) (.slice t32.a t32.l t32.c) ∧
 ∃ p34, t32.a = some p34 ∧ 0 ≤ t14a ∧ t14a < ((t32.l : Nat) : Int) ∧
 ∃ t35 : Option Addr, Ld w1.drew (p34.add ((t14a).toNat * 1)) (.pointer t35) ∧
 ∃ p36, t35 = some p36 ∧
 ∃ t38 : Int, Ld w1.drew (p36.add 2) (.int .i64 t38) ∧
 Q (.tuple #[.int .i64 t28, .int .i64 t38, .bool true]) w1.drew))
def an19 : Ann := { cut := fun i => none, loop := fun i => [] }
theorem eq19 (x0 : Option Addr) (x1 : ByteArray) (w : World) (Q : Value → World → Prop) : F19 x0 x1 w Q = vc prog an19 (Try.f19.body.getD .skip) (envOf [.pointer x0, .string x1]) w (retK prog Try.f19 Q) := by kernel_rfl
theorem ok19 : codeOk Try.f19.ntmps (Try.f19.body.getD .skip) = true := by kernel_rfl
theorem W19 {x0 : Option Addr} {x1 : ByteArray} {w : World} {Q : Value → World → Prop} (h : F19 x0 x1 w Q) : Calls prog 19 #[.pointer x0, .string x1] w fun en w' => ∃ v, en = .returned v ∧ Q v w' :=
  calls_of_vc good follows an19 (args := [.pointer x0, .string x1]) Try.func19 (by kernel_rfl) ok19 (of_decide_eq_true (by kernel_rfl)) (Eq.mp (eq19 x0 x1 w Q) h)

/-- bastion/bastionlaw24.works -/
def F11 (w : World) (Q : Value → World → Prop) : Prop :=
 Calls prog 12 #[] w fun en w1 =>
 ∃ t26 : Option Addr, en = .returned (.pointer t26) ∧
 ∃ J : Bool → World → Prop, (Calls prog 15 #[.pointer t26, .string (⟨#[97]⟩ : ByteArray), .int .i64 1] w1 fun en w1_1 =>
 ∃ t28 : Int, en = .returned (.int .i64 t28) ∧
 IfB (t28 != (0 : Int))
 (J true w1_1)
 (Calls prog 15 #[.pointer t26, .string (⟨#[98]⟩ : ByteArray), .int .i64 2] w1_1 fun en w1_2 =>
 ∃ t32 : Int, en = .returned (.int .i64 t32) ∧
 J (t32 != (0 : Int)) w1_2)) ∧
 (∀ (u : Env) (x34 : Bool) (w1_1 : World), J x34 w1_1 →
 IfB x34
 (Q (.bool false) w1_1)
 (Calls prog 14 #[] w1_1 fun en w1_2 =>
 ∃ t37 : Sl, en = .returned (.slice t37.a t37.l t37.c) ∧
 Calls prog 13 #[.pointer t26, .slice t37.a t37.l t37.c] w1_2 fun en w1_3 =>
 ∃ t38a : ByteArray, ∃ t38b : Int, en = .returned (.tuple #[.string t38a, .int .i64 t38b]) ∧
 Calls prog 18 #[.pointer t26, .string (⟨#[97]⟩ : ByteArray), .int .i64 6] w1_3 fun en w1_4 =>
 ∃ t42 : Int, en = .returned (.int .i64 t42) ∧
 RunT prog .slice (Instr.buildSlice 28 2 #[(0, .string (⟨#[98]⟩ : ByteArray)), (1, .string (⟨#[97]⟩ : ByteArray))]) w1_4 fun (t45 : Sl) w1_5 =>
 Calls prog 13 #[.pointer t26, .slice t45.a t45.l t45.c] w1_5 fun en w1_6 =>
 ∃ t46a : ByteArray, ∃ t46b : Int, en = .returned (.tuple #[.string t46a, .int .i64 t46b]) ∧
 Calls prog 18 #[.pointer t26, .string (⟨#[98]⟩ : ByteArray), .int .i64 6] w1_6 fun en w1_7 =>
 ∃ t50 : Int, en = .returned (.int .i64 t50) ∧
 Calls prog 14 #[] w1_7 fun en w1_8 =>
 ∃ t53 : Sl, en = .returned (.slice t53.a t53.l t53.c) ∧
 Calls prog 13 #[.pointer t26, .slice t53.a t53.l t53.c] w1_8 fun en w1_9 =>
 ∃ t54a : ByteArray, ∃ t54b : Int, en = .returned (.tuple #[.string t54a, .int .i64 t54b]) ∧
 Calls prog 18 #[.pointer t26, .string (⟨#[98]⟩ : ByteArray), .int .i64 6] w1_9 fun en w1_10 =>
 ∃ t58 : Int, en = .returned (.int .i64 t58) ∧
 Calls prog 14 #[] w1_10 fun en w1_11 =>
 ∃ t61 : Sl, en = .returned (.slice t61.a t61.l t61.c) ∧
 Calls prog 13 #[.pointer t26, .slice t61.a t61.l t61.c] w1_11 fun en w1_12 =>
 ∃ t62a : ByteArray, ∃ t62b : Int, en = .returned (.tuple #[.string t62a, .int .i64 t62b]) ∧
 ∃ J_1 : Bool → World → Prop, (IfB (!(t38a.toList == (⟨#[97]⟩ : ByteArray).toList))
 (J_1 true w1_12)
 (IfB (!(t46a.toList == (⟨#[98]⟩ : ByteArray).toList))
 (J_1 true w1_12)
 (IfB (!(t54a.toList == (⟨#[98]⟩ : ByteArray).toList))
 (J_1 true w1_12)
 (IfB (!(t62a.toList == (⟨#[97]⟩ : ByteArray).toList))
 (J_1 true w1_12)
 (J_1 (IntKind.wrap .i64 ((IntKind.wrap .i64 ((IntKind.wrap .i64 ((IntKind.wrap .i64 ((IntKind.wrap .i64 ((IntKind.wrap .i64 (t38b + t42)) + t46b)) + t50)) + t54b)) + t58)) + t62b) != (0 : Int)) w1_12))))) ∧
 (∀ (u_1 : Env) (x94 : Bool) (w1_13 : World), J_1 x94 w1_13 →
 IfB x94
 (Q (.bool false) w1_13)
 (Calls prog 15 #[.pointer t26, .string (⟨#[99]⟩ : ByteArray), .int .i64 3] w1_13 fun en w1_14 =>
 ∃ t96 : Int, en = .returned (.int .i64 t96) ∧
 IfB (t96 != (0 : Int))
 (Q (.bool false) w1_14)
 (RunT prog .slice (Instr.buildSlice 28 3 #[(0, .string (⟨#[99]⟩ : ByteArray)), (1, .string (⟨#[97]⟩ : ByteArray)), (2, .string (⟨#[98]⟩ : ByteArray))]) w1_14 fun (t100 : Sl) w1_15 =>
 Calls prog 13 #[.pointer t26, .slice t100.a t100.l t100.c] w1_15 fun en w1_16 =>
 ∃ t101a : ByteArray, ∃ t101b : Int, en = .returned (.tuple #[.string t101a, .int .i64 t101b]) ∧
 Calls prog 19 #[.pointer t26, .string (⟨#[99]⟩ : ByteArray)] w1_16 fun en w1_17 =>
 ∃ t106a : Int, ∃ t106b : Int, ∃ t106c : Bool, en = .returned (.tuple #[.int .i64 t106a, .int .i64 t106b, .bool t106c]) ∧
 ∃ J_2 : Bool → World → Prop, (IfB (!(t101a.toList == (⟨#[97]⟩ : ByteArray).toList))
 (J_2 true w1_17)
 (IfB (t101b != (0 : Int))
 (J_2 true w1_17)
 (IfB (t106b != (18 : Int))
 (J_2 true w1_17)
 (IfB (!t106c)
 (J_2 true w1_17)
 (Calls prog 15 #[.pointer t26, .string (⟨#[98]⟩ : ByteArray), .int .i64 1] w1_17 fun en w1_18 =>
 ∃ t126 : Int, en = .returned (.int .i64 t126) ∧
 J_2 (t126 != (0 : Int)) w1_18))))) ∧
 (∀ (u_2 : Env) (x128 : Bool) (w1_18 : World), J_2 x128 w1_18 →
 IfB x128
 (Q (.bool false) w1_18)
 (Calls prog 19 #[.pointer t26, .string (⟨#[98]⟩ : ByteArray)] w1_18 fun en w1_19 =>
 ∃ t131a : Int, ∃ t131b : Int, ∃ t131c : Bool, en = .returned (.tuple #[.int .i64 t131a, .int .i64 t131b, .bool t131c]) ∧
 ∃ J_3 : Bool → World → Prop, (IfB (t131b != (6 : Int))
 (J_3 true w1_19)
 (Calls prog 15 #[.pointer t26, .string (⟨#[98]⟩ : ByteArray), .int .i64 4] w1_19 fun en w1_20 =>
 ∃ t139 : Int, en = .returned (.int .i64 t139) ∧
 J_3 (t139 != (0 : Int)) w1_20)) ∧
 (∀ (u_3 : Env) (x141 : Bool) (w1_20 : World), J_3 x141 w1_20 →
 IfB x141
 (Q (.bool false) w1_20)
 (RunT prog .slice (Instr.buildSlice 28 1 #[(0, .string (⟨#[122]⟩ : ByteArray))]) w1_20 fun (t144 : Sl) w1_21 =>
 Calls prog 13 #[.pointer t26, .slice t144.a t144.l t144.c] w1_21 fun en w1_22 =>
 ∃ t145a : ByteArray, ∃ t145b : Int, en = .returned (.tuple #[.string t145a, .int .i64 t145b]) ∧
 RunT prog .slice (Instr.buildSlice 28 1 #[(0, .string (⟨#[98]⟩ : ByteArray))]) w1_22 fun (t150 : Sl) w1_23 =>
 Calls prog 13 #[.pointer t26, .slice t150.a t150.l t150.c] w1_23 fun en w1_24 =>
 ∃ t151a : ByteArray, ∃ t151b : Int, en = .returned (.tuple #[.string t151a, .int .i64 t151b]) ∧
 Calls prog 18 #[.pointer t26, .string (⟨#[98]⟩ : ByteArray), .int .i64 4] w1_24 fun en w1_25 =>
 ∃ t155 : Int, en = .returned (.int .i64 t155) ∧
 Calls prog 14 #[] w1_25 fun en w1_26 =>
 ∃ t158 : Sl, en = .returned (.slice t158.a t158.l t158.c) ∧
 Calls prog 13 #[.pointer t26, .slice t158.a t158.l t158.c] w1_26 fun en w1_27 =>
 ∃ t159a : ByteArray, ∃ t159b : Int, en = .returned (.tuple #[.string t159a, .int .i64 t159b]) ∧
 Calls prog 19 #[.pointer t26, .string (⟨#[97]⟩ : ByteArray)] w1_27 fun en w1_28 =>
 ∃ t164a : Int, ∃ t164b : Int, ∃ t164c : Bool, en = .returned (.tuple #[.int .i64 t164a, .int .i64 t164b, .bool t164c]) ∧
 IfB (t145b == (5 : Int))
 (IfB (t151a.toList == (⟨#[98]⟩ : ByteArray).toList)
 (IfB (IntKind.wrap .i64 ((IntKind.wrap .i64 (t151b + t155)) + t159b) == (0 : Int))
 (IfB (t159a.toList == (⟨#[97]⟩ : ByteArray).toList)
 (Q (.bool (t164b == (7 : Int))) w1_28)
 (Q (.bool false) w1_28))
 (Q (.bool false) w1_28))
 (Q (.bool false) w1_28))
 (Q (.bool false) w1_28))))))))))
def an11 : Ann := { cut := fun i => bif Nat.beq i 3 then some [(34, .bool)] else bif Nat.beq i 12 then some [(94, .bool)] else bif Nat.beq i 18 then some [(128, .bool)] else bif Nat.beq i 21 then some [(141, .bool)] else none, loop := fun i => [] }
theorem eq11 (w : World) (Q : Value → World → Prop) : F11  w Q = vc prog an11 (Try.f11.body.getD .skip) (envOf []) w (retK prog Try.f11 Q) := by kernel_rfl
theorem ok11 : codeOk Try.f11.ntmps (Try.f11.body.getD .skip) = true := by kernel_rfl
theorem W11 {w : World} {Q : Value → World → Prop} (h : F11  w Q) : Calls prog 11 #[] w fun en w' => ∃ v, en = .returned v ∧ Q v w' :=
  calls_of_vc good follows an11 (args := []) Try.func11 (by kernel_rfl) ok11 (of_decide_eq_true (by kernel_rfl)) (Eq.mp (eq11  w Q) h)

/-- bastion/code.none -/
def F80 (x0 : Sl) (w : World) (Q : Value → World → Prop) : Prop :=
 RunT prog .slice (Instr.buildSlice 31 0 #[]) w fun (t3 : Sl) w1 =>
 RunT prog .slice (Builtin.append_ #[31, 31] 31 #[.slice t3.a t3.l t3.c, .slice x0.a x0.l x0.c]) w1 fun (t5 : Sl) w1_1 =>
 Q (.slice t5.a t5.l t5.c) w1_1
def an80 : Ann := { cut := fun i => none, loop := fun i => [] }
theorem eq80 (x0 : Sl) (w : World) (Q : Value → World → Prop) : F80 x0 w Q = vc prog an80 (Try.f80.body.getD .skip) (envOf [.slice x0.a x0.l x0.c]) w (retK prog Try.f80 Q) := by kernel_rfl
theorem ok80 : codeOk Try.f80.ntmps (Try.f80.body.getD .skip) = true := by kernel_rfl
theorem W80 {x0 : Sl} {w : World} {Q : Value → World → Prop} (h : F80 x0 w Q) : Calls prog 80 #[.slice x0.a x0.l x0.c] w fun en w' => ∃ v, en = .returned v ∧ Q v w' :=
  calls_of_vc good follows an80 (args := [.slice x0.a x0.l x0.c]) Try.func80 (by kernel_rfl) ok80 (of_decide_eq_true (by kernel_rfl)) (Eq.mp (eq80 x0 w Q) h)

/-- bastion/code.groups -/
def F95 (x0 : Int) (w : World) (Q : Value → World → Prop) : Prop :=
 Calls prog 101 #[.int .u64 x0] w fun en w1 =>
 ∃ t4 : Int, en = .returned (.int .i64 t4) ∧
 (7 : Int) ≠ 0 ∧
 Q (.int .i64 (if IntKind.wrap .i64 (Int.tdiv (IntKind.wrap .i64 ((IntKind.wrap .i64 (t4 + (7 : Int))) - (1 : Int))) (7 : Int)) > (1 : Int) then IntKind.wrap .i64 (Int.tdiv (IntKind.wrap .i64 ((IntKind.wrap .i64 (t4 + (7 : Int))) - (1 : Int))) (7 : Int)) else (1 : Int))) w1
def an95 : Ann := { cut := fun i => none, loop := fun i => [] }
theorem eq95 (x0 : Int) (w : World) (Q : Value → World → Prop) : F95 x0 w Q = vc prog an95 (Try.f95.body.getD .skip) (envOf [.int .u64 x0]) w (retK prog Try.f95 Q) := by kernel_rfl
theorem ok95 : codeOk Try.f95.ntmps (Try.f95.body.getD .skip) = true := by kernel_rfl
theorem W95 {x0 : Int} {w : World} {Q : Value → World → Prop} (h : F95 x0 w Q) : Calls prog 95 #[.int .u64 x0] w fun en w' => ∃ v, en = .returned v ∧ Q v w' :=
  calls_of_vc good follows an95 (args := [.int .u64 x0]) Try.func95 (by kernel_rfl) ok95 (of_decide_eq_true (by kernel_rfl)) (Eq.mp (eq95 x0 w Q) h)

/-- bastion/code.lay -/
def F81 (x0 : Sl) (x1 : Int) (x2 : ByteArray) (w : World) (Q : Value → World → Prop) : Prop :=
 Calls prog 95 #[.int .u64 x1] w fun en w1 =>
 ∃ t12 : Int, en = .returned (.int .i64 t12) ∧
 RunT prog .slice (Instr.makeSlice 31 (.int .i64 0) (.int .i64 (IntKind.wrap .i64 ((IntKind.wrap .i64 (((x0.l : Nat) : Int) + t12)) + ((x2.size : Nat) : Int))))) w1 fun (t20 : Sl) w1_1 =>
 RunT prog .slice (Builtin.append_ #[31, 31] 31 #[.slice t20.a t20.l t20.c, .slice x0.a x0.l x0.c]) w1_1 fun (t23 : Sl) w1_2 =>
 ∃ (I : Nat → Sl → Int → World → Prop) (n0 : Nat), I n0 t23 (0 : Int) w1_2 ∧
 ∀ (n : Nat) (u : Env) (x8 : Sl) (x25 : Int) (w1_3 : World), I n x8 x25 w1_3 →
 IfB (decide (x25 < t12))
 (0 ≤ IntKind.wrap .i64 ((7 : Int) * x25) ∧
 IfB (x25 == IntKind.wrap .i64 (t12 - (1 : Int)))
 (RunT prog .slice (Instr.buildSlice 31 1 #[(0, .int .u8 (bitsI .andNot .u8 (bitsI .or .u8 (IntKind.wrap .u8 (Int.fdiv x1 (2 ^ (min ((IntKind.wrap .i64 ((7 : Int) * x25)).toNat) 64)))) (128 : Int)) (128 : Int)))]) w1_3 fun (t42 : Sl) w1_4 =>
 RunT prog .slice (Builtin.append_ #[31, 31] 31 #[.slice x8.a x8.l x8.c, .slice t42.a t42.l t42.c]) w1_4 fun (t43 : Sl) w1_5 =>
 ∃ n', n' < n ∧ I n' t43 (IntKind.wrap .i64 (x25 + (1 : Int))) w1_5)
 (RunT prog .slice (Instr.buildSlice 31 1 #[(0, .int .u8 (bitsI .or .u8 (IntKind.wrap .u8 (Int.fdiv x1 (2 ^ (min ((IntKind.wrap .i64 ((7 : Int) * x25)).toNat) 64)))) (128 : Int)))]) w1_3 fun (t42 : Sl) w1_4 =>
 RunT prog .slice (Builtin.append_ #[31, 31] 31 #[.slice x8.a x8.l x8.c, .slice t42.a t42.l t42.c]) w1_4 fun (t43 : Sl) w1_5 =>
 ∃ n', n' < n ∧ I n' t43 (IntKind.wrap .i64 (x25 + (1 : Int))) w1_5))
 (RunT prog .slice (Builtin.append_ #[31, 9] 31 #[.slice x8.a x8.l x8.c, .string x2]) w1_3 fun (t47 : Sl) w1_4 =>
 Q (.slice t47.a t47.l t47.c) w1_4)
def an81 : Ann := { cut := fun i => none, loop := fun i => bif Nat.beq i 5 then [(8, .slice), (25, .int .i64)] else [] }
theorem eq81 (x0 : Sl) (x1 : Int) (x2 : ByteArray) (w : World) (Q : Value → World → Prop) : F81 x0 x1 x2 w Q = vc prog an81 (Try.f81.body.getD .skip) (envOf [.slice x0.a x0.l x0.c, .int .u64 x1, .string x2]) w (retK prog Try.f81 Q) := by kernel_rfl
theorem ok81 : codeOk Try.f81.ntmps (Try.f81.body.getD .skip) = true := by kernel_rfl
theorem W81 {x0 : Sl} {x1 : Int} {x2 : ByteArray} {w : World} {Q : Value → World → Prop} (h : F81 x0 x1 x2 w Q) : Calls prog 81 #[.slice x0.a x0.l x0.c, .int .u64 x1, .string x2] w fun en w' => ∃ v, en = .returned v ∧ Q v w' :=
  calls_of_vc good follows an81 (args := [.slice x0.a x0.l x0.c, .int .u64 x1, .string x2]) Try.func81 (by kernel_rfl) ok81 (of_decide_eq_true (by kernel_rfl)) (Eq.mp (eq81 x0 x1 x2 w Q) h)

/-- bastion/code.Count -/
def F48 (x0 : Sl) (x1 : Int) (w : World) (Q : Value → World → Prop) : Prop :=
 IfB (decide (x1 < (0 : Int)))
 (Calls prog 80 #[.slice x0.a x0.l x0.c] w fun en w1 =>
 ∃ t12 : Sl, en = .returned (.slice t12.a t12.l t12.c) ∧
 Q (.slice t12.a t12.l t12.c) w1)
 (IfB (decide (x1 > (2147483647 : Int)))
 (Calls prog 80 #[.slice x0.a x0.l x0.c] w fun en w1 =>
 ∃ t12 : Sl, en = .returned (.slice t12.a t12.l t12.c) ∧
 Q (.slice t12.a t12.l t12.c) w1)
 (Calls prog 81 #[.slice x0.a x0.l x0.c, .int .u64 (IntKind.wrap .u64 x1), .string (⟨#[]⟩ : ByteArray)] w fun en w1 =>
 ∃ t16 : Sl, en = .returned (.slice t16.a t16.l t16.c) ∧
 Q (.slice t16.a t16.l t16.c) w1))
def an48 : Ann := { cut := fun i => none, loop := fun i => [] }
theorem eq48 (x0 : Sl) (x1 : Int) (w : World) (Q : Value → World → Prop) : F48 x0 x1 w Q = vc prog an48 (Try.f48.body.getD .skip) (envOf [.slice x0.a x0.l x0.c, .int .i64 x1]) w (retK prog Try.f48 Q) := by kernel_rfl
theorem ok48 : codeOk Try.f48.ntmps (Try.f48.body.getD .skip) = true := by kernel_rfl
theorem W48 {x0 : Sl} {x1 : Int} {w : World} {Q : Value → World → Prop} (h : F48 x0 x1 w Q) : Calls prog 48 #[.slice x0.a x0.l x0.c, .int .i64 x1] w fun en w' => ∃ v, en = .returned v ∧ Q v w' :=
  calls_of_vc good follows an48 (args := [.slice x0.a x0.l x0.c, .int .i64 x1]) Try.func48 (by kernel_rfl) ok48 (of_decide_eq_true (by kernel_rfl)) (Eq.mp (eq48 x0 x1 w Q) h)

/-- bastion/code.Flag -/
def F49 (x0 : Sl) (x1 : Bool) (w : World) (Q : Value → World → Prop) : Prop :=
 IfB x1
 (Calls prog 81 #[.slice x0.a x0.l x0.c, .int .u64 1, .string (⟨#[]⟩ : ByteArray)] w fun en w1 =>
 ∃ t7 : Sl, en = .returned (.slice t7.a t7.l t7.c) ∧
 Q (.slice t7.a t7.l t7.c) w1)
 (Calls prog 81 #[.slice x0.a x0.l x0.c, .int .u64 0, .string (⟨#[]⟩ : ByteArray)] w fun en w1 =>
 ∃ t9 : Sl, en = .returned (.slice t9.a t9.l t9.c) ∧
 Q (.slice t9.a t9.l t9.c) w1)
def an49 : Ann := { cut := fun i => none, loop := fun i => [] }
theorem eq49 (x0 : Sl) (x1 : Bool) (w : World) (Q : Value → World → Prop) : F49 x0 x1 w Q = vc prog an49 (Try.f49.body.getD .skip) (envOf [.slice x0.a x0.l x0.c, .bool x1]) w (retK prog Try.f49 Q) := by kernel_rfl
theorem ok49 : codeOk Try.f49.ntmps (Try.f49.body.getD .skip) = true := by kernel_rfl
theorem W49 {x0 : Sl} {x1 : Bool} {w : World} {Q : Value → World → Prop} (h : F49 x0 x1 w Q) : Calls prog 49 #[.slice x0.a x0.l x0.c, .bool x1] w fun en w' => ∃ v, en = .returned v ∧ Q v w' :=
  calls_of_vc good follows an49 (args := [.slice x0.a x0.l x0.c, .bool x1]) Try.func49 (by kernel_rfl) ok49 (of_decide_eq_true (by kernel_rfl)) (Eq.mp (eq49 x0 x1 w Q) h)

/-- bastion/code.Str -/
def F50 (x0 : Sl) (x1 : ByteArray) (w : World) (Q : Value → World → Prop) : Prop :=
 IfB (decide (((x1.size : Nat) : Int) > (2147483647 : Int)))
 (Calls prog 80 #[.slice x0.a x0.l x0.c] w fun en w1 =>
 ∃ t9 : Sl, en = .returned (.slice t9.a t9.l t9.c) ∧
 Q (.slice t9.a t9.l t9.c) w1)
 (Calls prog 81 #[.slice x0.a x0.l x0.c, .int .u64 (IntKind.wrap .u64 ((x1.size : Nat) : Int)), .string x1] w fun en w1 =>
 ∃ t15 : Sl, en = .returned (.slice t15.a t15.l t15.c) ∧
 Q (.slice t15.a t15.l t15.c) w1)
def an50 : Ann := { cut := fun i => none, loop := fun i => [] }
theorem eq50 (x0 : Sl) (x1 : ByteArray) (w : World) (Q : Value → World → Prop) : F50 x0 x1 w Q = vc prog an50 (Try.f50.body.getD .skip) (envOf [.slice x0.a x0.l x0.c, .string x1]) w (retK prog Try.f50 Q) := by kernel_rfl
theorem ok50 : codeOk Try.f50.ntmps (Try.f50.body.getD .skip) = true := by kernel_rfl
theorem W50 {x0 : Sl} {x1 : ByteArray} {w : World} {Q : Value → World → Prop} (h : F50 x0 x1 w Q) : Calls prog 50 #[.slice x0.a x0.l x0.c, .string x1] w fun en w' => ∃ v, en = .returned v ∧ Q v w' :=
  calls_of_vc good follows an50 (args := [.slice x0.a x0.l x0.c, .string x1]) Try.func50 (by kernel_rfl) ok50 (of_decide_eq_true (by kernel_rfl)) (Eq.mp (eq50 x0 x1 w Q) h)

/-- (*bastion/stride.Shares).Save -/
def F16 (x0 : Option Addr) (w : World) (Q : Value → World → Prop) : Prop :=
 ∃ b7 : Bool, BinIs prog .eql 23 (.tmp 6) (.const (.pointer none)) (.pointer x0) (.pointer none) b7 ∧
 IfB b7
 (Q (.slice none 0 0) w)
 (∃ p9, x0 = some p9 ∧
 ∃ t11 : Sl, Ld w (p9.add 0) (.slice t11.a t11.l t11.c) ∧
 Calls prog 48 #[.slice none 0 0, .int .i64 ((t11.l : Nat) : Int)] w fun en w1 =>
 ∃ t13 : Sl, en = .returned (.slice t13.a t13.l t13.c) ∧
 ∃ p15, x0 = some p15 ∧
 ∃ t17 : Sl, Ld w1 (p15.add 0) (.slice t17.a t17.l t17.c) ∧
 ∃ (I : Nat → Sl → Int → World → Prop) (n0 : Nat), I n0 t13 (0 : Int) w1 ∧
 ∀ (n : Nat) (u : Env) (x3 : Sl) (x19 : Int) (w1_1 : World), I n x3 x19 w1_1 →
 IfB (decide (x19 < ((t17.l : Nat) : Int)))
 (∃ p21, t17.a = some p21 ∧ 0 ≤ x19 ∧ x19 < ((t17.l : Nat) : Int) ∧
 ∃ t22 : Option Addr, Ld w1_1 (p21.add ((x19).toNat * 1)) (.pointer t22) ∧
 ∃ S : World → Prop, S w1_1.drew ∧
 ∃ p25, t22 = some p25 ∧
 ∃ t27 : ByteArray, (∀ w', S w' → Ld w' (p25.add 0) (.string t27)) ∧
 ∃ p30, t22 = some p30 ∧
 ∃ t32 : Int, (∀ w', S w' → Ld w' (p30.add 1) (.int .i64 t32)) ∧
 ∃ p35, t22 = some p35 ∧
 ∃ t37 : Int, (∀ w', S w' → Ld w' (p35.add 2) (.int .i64 t37)) ∧
 ∃ p40, t22 = some p40 ∧
 ∃ t42 : Bool, (∀ w', S w' → Ld w' (p40.add 3) (.bool t42)) ∧
 Calls prog 50 #[.slice x3.a x3.l x3.c, .string t27] w1_1.drew fun en w1_2 =>
 ∃ t28 : Sl, en = .returned (.slice t28.a t28.l t28.c) ∧
 S w1_2 ∧
 Calls prog 48 #[.slice t28.a t28.l t28.c, .int .i64 t32] w1_2 fun en w1_3 =>
 ∃ t33 : Sl, en = .returned (.slice t33.a t33.l t33.c) ∧
 S w1_3 ∧
 Calls prog 48 #[.slice t33.a t33.l t33.c, .int .i64 t37] w1_3 fun en w1_4 =>
 ∃ t38 : Sl, en = .returned (.slice t38.a t38.l t38.c) ∧
 S w1_4 ∧
 Calls prog 49 #[.slice t38.a t38.l t38.c, .bool t42] w1_4 fun en w1_5 =>
 ∃ t43 : Sl, en = .returned (.slice t43.a t43.l t43.c) ∧
 ∃ n', n' < n ∧ I n' t43 (IntKind.wrap .i64 (x19 + (1 : Int))) w1_5)
 (Q (.slice x3.a x3.l x3.c) w1_1))
def an16 : Ann := { cut := fun i => none, loop := fun i => bif Nat.beq i 5 then [(3, .slice), (19, .int .i64)] else [] }
theorem eq16 (x0 : Option Addr) (w : World) (Q : Value → World → Prop) : F16 x0 w Q = vc prog an16 (Try.f16.body.getD .skip) (envOf [.pointer x0]) w (retK prog Try.f16 Q) := by kernel_rfl
theorem ok16 : codeOk Try.f16.ntmps (Try.f16.body.getD .skip) = true := by kernel_rfl
theorem W16 {x0 : Option Addr} {w : World} {Q : Value → World → Prop} (h : F16 x0 w Q) : Calls prog 16 #[.pointer x0] w fun en w' => ∃ v, en = .returned v ∧ Q v w' :=
  calls_of_vc good follows an16 (args := [.pointer x0]) Try.func16 (by kernel_rfl) ok16 (of_decide_eq_true (by kernel_rfl)) (Eq.mp (eq16 x0 w Q) h)

/-- slices.Delete[[]*bastion/stride.project,*bastion/stride.project] -/
def F51 (x0 : Sl) (x1 : Int) (x2 : Int) (w : World) (Q : Value → World → Prop) : Prop :=
 (0 ≤ ((x0.l : Nat) : Int) ∧ ((x0.l : Nat) : Int) ≤ ((x0.c : Nat) : Int)) ∧
 (0 ≤ x2 ∧ x2 ≤ (((((x0.l : Nat) : Int)).toNat : Nat) : Int)) ∧
 (0 ≤ x1 ∧ x1 ≤ (((x2).toNat : Nat) : Int)) ∧
 IfB (x1 == x2)
 (Q (.slice x0.a x0.l x0.c) w)
 ((0 ≤ x1 ∧ x1 ≤ ((x0.c : Nat) : Int)) ∧
 (0 ≤ x2 ∧ x2 ≤ ((x0.l : Nat) : Int)) ∧
 RunT prog .slice (Builtin.append_ #[71, 71] 71 #[.slice (slA x0.a 0 x0.c 1) ((x1).toNat - 0) (x0.c - 0), .slice (slA x0.a ((x2).toNat) x0.c 1) (x0.l - ((x2).toNat)) (x0.c - ((x2).toNat))]) w.drew fun (t26 : Sl) w1 =>
 (0 ≤ ((x0.l : Nat) : Int) ∧ ((x0.l : Nat) : Int) ≤ ((t26.c : Nat) : Int)) ∧
 (0 ≤ ((t26.l : Nat) : Int) ∧ ((t26.l : Nat) : Int) ≤ (((((x0.l : Nat) : Int)).toNat : Nat) : Int)) ∧
 RunT prog .val (Builtin.clear_ #[71] 0 #[.slice (slA t26.a ((((t26.l : Nat) : Int)).toNat) t26.c 1) ((((x0.l : Nat) : Int)).toNat - ((((t26.l : Nat) : Int)).toNat)) (t26.c - ((((t26.l : Nat) : Int)).toNat))]) w1 fun (t_ : Value) w1_1 =>
 Q (.slice t26.a t26.l t26.c) w1_1)
def an51 : Ann := { cut := fun i => none, loop := fun i => [] }
theorem eq51 (x0 : Sl) (x1 : Int) (x2 : Int) (w : World) (Q : Value → World → Prop) : F51 x0 x1 x2 w Q = vc prog an51 (Try.f51.body.getD .skip) (envOf [.slice x0.a x0.l x0.c, .int .i64 x1, .int .i64 x2]) w (retK prog Try.f51 Q) := by kernel_rfl
theorem ok51 : codeOk Try.f51.ntmps (Try.f51.body.getD .skip) = true := by kernel_rfl
theorem W51 {x0 : Sl} {x1 : Int} {x2 : Int} {w : World} {Q : Value → World → Prop} (h : F51 x0 x1 x2 w Q) : Calls prog 51 #[.slice x0.a x0.l x0.c, .int .i64 x1, .int .i64 x2] w fun en w' => ∃ v, en = .returned v ∧ Q v w' :=
  calls_of_vc good follows an51 (args := [.slice x0.a x0.l x0.c, .int .i64 x1, .int .i64 x2]) Try.func51 (by kernel_rfl) ok51 (of_decide_eq_true (by kernel_rfl)) (Eq.mp (eq51 x0 x1 x2 w Q) h)

/-- (*bastion/stride.Shares).Drop -/
def F17 (x0 : Option Addr) (x1 : ByteArray) (w : World) (Q : Value → World → Prop) : Prop :=
 ∃ b8 : Bool, BinIs prog .eql 23 (.tmp 7) (.const (.pointer none)) (.pointer x0) (.pointer none) b8 ∧
 IfB b8
 (Q (.int .i64 2) w)
 (Calls prog 45 #[.pointer x0, .string x1] w fun en w1 =>
 ∃ t12a : Int, ∃ t12b : Bool, en = .returned (.tuple #[.int .i64 t12a, .bool t12b]) ∧
 IfB (!t12b)
 (Q (.int .i64 5) w1)
 (∃ p19, x0 = some p19 ∧
 ∃ t21 : Sl, Ld w1 (p19.add 0) (.slice t21.a t21.l t21.c) ∧
 Calls prog 51 #[.slice t21.a t21.l t21.c, .int .i64 t12a, .int .i64 (IntKind.wrap .i64 (t12a + (1 : Int)))] w1 fun en w1_1 =>
 ∃ t25 : Sl, en = .returned (.slice t25.a t25.l t25.c) ∧
 ∃ p26, x0 = some p26 ∧
 Wr w1_1 (p26.add 0) ∧ ∀ w1_2, w1_2 = w1_1.setCell (p26.add 0) (.slice t25.a t25.l t25.c) →
 Q (.int .i64 0) w1_2))
def an17 : Ann := { cut := fun i => none, loop := fun i => [] }
theorem eq17 (x0 : Option Addr) (x1 : ByteArray) (w : World) (Q : Value → World → Prop) : F17 x0 x1 w Q = vc prog an17 (Try.f17.body.getD .skip) (envOf [.pointer x0, .string x1]) w (retK prog Try.f17 Q) := by kernel_rfl
theorem ok17 : codeOk Try.f17.ntmps (Try.f17.body.getD .skip) = true := by kernel_rfl
theorem W17 {x0 : Option Addr} {x1 : ByteArray} {w : World} {Q : Value → World → Prop} (h : F17 x0 x1 w Q) : Calls prog 17 #[.pointer x0, .string x1] w fun en w' => ∃ v, en = .returned v ∧ Q v w' :=
  calls_of_vc good follows an17 (args := [.pointer x0, .string x1]) Try.func17 (by kernel_rfl) ok17 (of_decide_eq_true (by kernel_rfl)) (Eq.mp (eq17 x0 x1 w Q) h)

/-- bastion/code.NewReader -/
def F52 (x0 : Sl) (w : World) (Q : Value → World → Prop) : Prop :=
 RunT prog .str (convert 31 9 (.slice x0.a x0.l x0.c)) w fun (t4 : ByteArray) w1 =>
 ∃ t5 : Array Value, BuildIs prog 115 #[(0, .string t4)] t5 ∧
 ∃ t6 : Array Value, BuildIs prog 117 #[(0, .agg t5)] t6 ∧
 ∀ b7 w1_1, NewB w1 (.cells t6 117) b7 w1_1 →
 Q (.pointer (some (⟨b7, 0, none⟩ : Addr))) w1_1
def an52 : Ann := { cut := fun i => none, loop := fun i => [] }
theorem eq52 (x0 : Sl) (w : World) (Q : Value → World → Prop) : F52 x0 w Q = vc prog an52 (Try.f52.body.getD .skip) (envOf [.slice x0.a x0.l x0.c]) w (retK prog Try.f52 Q) := by kernel_rfl
theorem ok52 : codeOk Try.f52.ntmps (Try.f52.body.getD .skip) = true := by kernel_rfl
theorem W52 {x0 : Sl} {w : World} {Q : Value → World → Prop} (h : F52 x0 w Q) : Calls prog 52 #[.slice x0.a x0.l x0.c] w fun en w' => ∃ v, en = .returned v ∧ Q v w' :=
  calls_of_vc good follows an52 (args := [.slice x0.a x0.l x0.c]) Try.func52 (by kernel_rfl) ok52 (of_decide_eq_true (by kernel_rfl)) (Eq.mp (eq52 x0 w Q) h)

/-- (*bastion/code.spot).OK -/
def F102 (x0 : Option Addr) (w : World) (Q : Value → World → Prop) : Prop :=
 ∃ p4, x0 = some p4 ∧
 ∃ t6 : Int, Ld w.drew (p4.add 1) (.int .i64 t6) ∧
 ∃ p8, x0 = some p8 ∧
 ∃ t10 : ByteArray, Ld w.drew (p8.add 0) (.string t10) ∧
 Q (.bool (decide (t6 ≤ ((t10.size : Nat) : Int)))) w.drew
def an102 : Ann := { cut := fun i => none, loop := fun i => [] }
theorem eq102 (x0 : Option Addr) (w : World) (Q : Value → World → Prop) : F102 x0 w Q = vc prog an102 (Try.f102.body.getD .skip) (envOf [.pointer x0]) w (retK prog Try.f102 Q) := by kernel_rfl
theorem ok102 : codeOk Try.f102.ntmps (Try.f102.body.getD .skip) = true := by kernel_rfl
theorem W102 {x0 : Option Addr} {w : World} {Q : Value → World → Prop} (h : F102 x0 w Q) : Calls prog 102 #[.pointer x0] w fun en w' => ∃ v, en = .returned v ∧ Q v w' :=
  calls_of_vc good follows an102 (args := [.pointer x0]) Try.func102 (by kernel_rfl) ok102 (of_decide_eq_true (by kernel_rfl)) (Eq.mp (eq102 x0 w Q) h)

/-- (*bastion/code.Reader).OK -/
def F96 (x0 : Option Addr) (w : World) (Q : Value → World → Prop) : Prop :=
 ∃ b4 : Bool, BinIs prog .neq 94 (.tmp 3) (.const (.pointer none)) (.pointer x0) (.pointer none) b4 ∧
 IfB b4
 (∃ p7, x0 = some p7 ∧
 Calls prog 102 #[.pointer (some (p7.add 0))] w fun en w1 =>
 ∃ t9 : Bool, en = .returned (.bool t9) ∧
 Q (.bool t9) w1)
 (Q (.bool false) w)
def an96 : Ann := { cut := fun i => none, loop := fun i => [] }
theorem eq96 (x0 : Option Addr) (w : World) (Q : Value → World → Prop) : F96 x0 w Q = vc prog an96 (Try.f96.body.getD .skip) (envOf [.pointer x0]) w (retK prog Try.f96 Q) := by kernel_rfl
theorem ok96 : codeOk Try.f96.ntmps (Try.f96.body.getD .skip) = true := by kernel_rfl
theorem W96 {x0 : Option Addr} {w : World} {Q : Value → World → Prop} (h : F96 x0 w Q) : Calls prog 96 #[.pointer x0] w fun en w' => ∃ v, en = .returned v ∧ Q v w' :=
  calls_of_vc good follows an96 (args := [.pointer x0]) Try.func96 (by kernel_rfl) ok96 (of_decide_eq_true (by kernel_rfl)) (Eq.mp (eq96 x0 w Q) h)

/-- bastion/code.off[int] -/
def F82 (x0 : Option Addr) (x1 : Value) (w : World) (Q : Value → World → Prop) : Prop :=
 Calls prog 96 #[.pointer x0] w fun en w1 =>
 ∃ t9 : Bool, en = .returned (.bool t9) ∧
 IfB (!t9)
 (Q (.int .i64 0) w1)
 (∃ p15, x0 = some p15 ∧
 Calls prog 97 #[.pointer (some (p15.add 0))] w1 fun en w1_1 =>
 ∃ t17 : ByteArray, en = .returned (.string t17) ∧
 CallV prog x1 #[.string t17] w1_1 fun v18 w1_2 =>
 ∃ t18a : Int, ∃ t18b : Int, v18 = (.tuple #[.int .i64 t18a, .int .i64 t18b]) ∧
 IfB (t18b == (0 : Int))
 (∃ p25, x0 = some p25 ∧
 ∃ t28 : ByteArray, Ld w1_2 ((p25.add 0).add 0) (.string t28) ∧
 ∃ p31, x0 = some p31 ∧
 Wr w1_2 ((p31.add 0).add 1) ∧ ∀ w1_3, w1_3 = w1_2.setCell ((p31.add 0).add 1) (.int .i64 (IntKind.wrap .i64 (((t28.size : Nat) : Int) + (1 : Int)))) →
 Q (.int .i64 0) w1_3)
 (∃ p36, x0 = some p36 ∧
 ∃ t39 : Int, Ld w1_2 ((p36.add 0).add 1) (.int .i64 t39) ∧
 ∃ p42, x0 = some p42 ∧
 Wr w1_2 ((p42.add 0).add 1) ∧ ∀ w1_3, w1_3 = w1_2.setCell ((p42.add 0).add 1) (.int .i64 (IntKind.wrap .i64 (t39 + t18b))) →
 Q (.int .i64 t18a) w1_3))
def an82 : Ann := { cut := fun i => none, loop := fun i => [] }
theorem eq82 (x0 : Option Addr) (x1 : Value) (w : World) (Q : Value → World → Prop) : F82 x0 x1 w Q = vc prog an82 (Try.f82.body.getD .skip) (envOf [.pointer x0, x1]) w (retK prog Try.f82 Q) := by kernel_rfl
theorem ok82 : codeOk Try.f82.ntmps (Try.f82.body.getD .skip) = true := by kernel_rfl
theorem W82 {x0 : Option Addr} {x1 : Value} {w : World} {Q : Value → World → Prop} (h : F82 x0 x1 w Q) : Calls prog 82 #[.pointer x0, x1] w fun en w' => ∃ v, en = .returned v ∧ Q v w' :=
  calls_of_vc good follows an82 (args := [.pointer x0, x1]) Try.func82 (by kernel_rfl) ok82 (of_decide_eq_true (by kernel_rfl)) (Eq.mp (eq82 x0 x1 w Q) h)

/-- (*bastion/code.Reader).Count -/
def F53 (x0 : Option Addr) (x1 : Int) (w : World) (Q : Value → World → Prop) : Prop :=
 ∀ b3 w1, NewB w (.cells #[.int .i64 x1] 3) b3 w1 →
 Calls prog 82 #[.pointer x0, .func (.func 83) #[] #[.pointer (some (⟨b3, 0, none⟩ : Addr))]] w1 fun en w1_1 =>
 ∃ t7 : Int, en = .returned (.int .i64 t7) ∧
 Q (.int .i64 t7) w1_1
def an53 : Ann := { cut := fun i => none, loop := fun i => [] }
theorem eq53 (x0 : Option Addr) (x1 : Int) (w : World) (Q : Value → World → Prop) : F53 x0 x1 w Q = vc prog an53 (Try.f53.body.getD .skip) (envOf [.pointer x0, .int .i64 x1]) w (retK prog Try.f53 Q) := by kernel_rfl
theorem ok53 : codeOk Try.f53.ntmps (Try.f53.body.getD .skip) = true := by kernel_rfl
theorem W53 {x0 : Option Addr} {x1 : Int} {w : World} {Q : Value → World → Prop} (h : F53 x0 x1 w Q) : Calls prog 53 #[.pointer x0, .int .i64 x1] w fun en w' => ∃ v, en = .returned v ∧ Q v w' :=
  calls_of_vc good follows an53 (args := [.pointer x0, .int .i64 x1]) Try.func53 (by kernel_rfl) ok53 (of_decide_eq_true (by kernel_rfl)) (Eq.mp (eq53 x0 x1 w Q) h)

/-- bastion/code.off[string] -/
def F85 (x0 : Option Addr) (x1 : Value) (w : World) (Q : Value → World → Prop) : Prop :=
 Calls prog 96 #[.pointer x0] w fun en w1 =>
 ∃ t9 : Bool, en = .returned (.bool t9) ∧
 IfB (!t9)
 (Q (.string (⟨#[]⟩ : ByteArray)) w1)
 (∃ p15, x0 = some p15 ∧
 Calls prog 97 #[.pointer (some (p15.add 0))] w1 fun en w1_1 =>
 ∃ t17 : ByteArray, en = .returned (.string t17) ∧
 CallV prog x1 #[.string t17] w1_1 fun v18 w1_2 =>
 ∃ t18a : ByteArray, ∃ t18b : Int, v18 = (.tuple #[.string t18a, .int .i64 t18b]) ∧
 IfB (t18b == (0 : Int))
 (∃ p25, x0 = some p25 ∧
 ∃ t28 : ByteArray, Ld w1_2 ((p25.add 0).add 0) (.string t28) ∧
 ∃ p31, x0 = some p31 ∧
 Wr w1_2 ((p31.add 0).add 1) ∧ ∀ w1_3, w1_3 = w1_2.setCell ((p31.add 0).add 1) (.int .i64 (IntKind.wrap .i64 (((t28.size : Nat) : Int) + (1 : Int)))) →
 Q (.string (⟨#[]⟩ : ByteArray)) w1_3)
 (∃ p36, x0 = some p36 ∧
 ∃ t39 : Int, Ld w1_2 ((p36.add 0).add 1) (.int .i64 t39) ∧
 ∃ p42, x0 = some p42 ∧
 Wr w1_2 ((p42.add 0).add 1) ∧ ∀ w1_3, w1_3 = w1_2.setCell ((p42.add 0).add 1) (.int .i64 (IntKind.wrap .i64 (t39 + t18b))) →
 Q (.string t18a) w1_3))
def an85 : Ann := { cut := fun i => none, loop := fun i => [] }
theorem eq85 (x0 : Option Addr) (x1 : Value) (w : World) (Q : Value → World → Prop) : F85 x0 x1 w Q = vc prog an85 (Try.f85.body.getD .skip) (envOf [.pointer x0, x1]) w (retK prog Try.f85 Q) := by kernel_rfl
theorem ok85 : codeOk Try.f85.ntmps (Try.f85.body.getD .skip) = true := by kernel_rfl
theorem W85 {x0 : Option Addr} {x1 : Value} {w : World} {Q : Value → World → Prop} (h : F85 x0 x1 w Q) : Calls prog 85 #[.pointer x0, x1] w fun en w' => ∃ v, en = .returned v ∧ Q v w' :=
  calls_of_vc good follows an85 (args := [.pointer x0, x1]) Try.func85 (by kernel_rfl) ok85 (of_decide_eq_true (by kernel_rfl)) (Eq.mp (eq85 x0 x1 w Q) h)

/-- (*bastion/code.Reader).Str -/
def F54 (x0 : Option Addr) (x1 : Int) (w : World) (Q : Value → World → Prop) : Prop :=
 ∀ b3 w1, NewB w (.cells #[.int .i64 x1] 3) b3 w1 →
 Calls prog 85 #[.pointer x0, .func (.func 86) #[] #[.pointer (some (⟨b3, 0, none⟩ : Addr))]] w1 fun en w1_1 =>
 ∃ t7 : ByteArray, en = .returned (.string t7) ∧
 Q (.string t7) w1_1
def an54 : Ann := { cut := fun i => none, loop := fun i => [] }
theorem eq54 (x0 : Option Addr) (x1 : Int) (w : World) (Q : Value → World → Prop) : F54 x0 x1 w Q = vc prog an54 (Try.f54.body.getD .skip) (envOf [.pointer x0, .int .i64 x1]) w (retK prog Try.f54 Q) := by kernel_rfl
theorem ok54 : codeOk Try.f54.ntmps (Try.f54.body.getD .skip) = true := by kernel_rfl
theorem W54 {x0 : Option Addr} {x1 : Int} {w : World} {Q : Value → World → Prop} (h : F54 x0 x1 w Q) : Calls prog 54 #[.pointer x0, .int .i64 x1] w fun en w' => ∃ v, en = .returned v ∧ Q v w' :=
  calls_of_vc good follows an54 (args := [.pointer x0, .int .i64 x1]) Try.func54 (by kernel_rfl) ok54 (of_decide_eq_true (by kernel_rfl)) (Eq.mp (eq54 x0 x1 w Q) h)

/-- (*bastion/code.Reader).Flag -/
def F55 (x0 : Option Addr) (w : World) (Q : Value → World → Prop) : Prop :=
 Calls prog 53 #[.pointer x0, .int .i64 1] w fun en w1 =>
 ∃ t4 : Int, en = .returned (.int .i64 t4) ∧
 Q (.bool (t4 == (1 : Int))) w1
def an55 : Ann := { cut := fun i => none, loop := fun i => [] }
theorem eq55 (x0 : Option Addr) (w : World) (Q : Value → World → Prop) : F55 x0 w Q = vc prog an55 (Try.f55.body.getD .skip) (envOf [.pointer x0]) w (retK prog Try.f55 Q) := by kernel_rfl
theorem ok55 : codeOk Try.f55.ntmps (Try.f55.body.getD .skip) = true := by kernel_rfl
theorem W55 {x0 : Option Addr} {w : World} {Q : Value → World → Prop} (h : F55 x0 w Q) : Calls prog 55 #[.pointer x0] w fun en w' => ∃ v, en = .returned v ∧ Q v w' :=
  calls_of_vc good follows an55 (args := [.pointer x0]) Try.func55 (by kernel_rfl) ok55 (of_decide_eq_true (by kernel_rfl)) (Eq.mp (eq55 x0 w Q) h)

/-- (*bastion/code.spot).Done -/
def F87 (x0 : Option Addr) (w : World) (Q : Value → World → Prop) : Prop :=
 ∃ p4, x0 = some p4 ∧
 ∃ t6 : Int, Ld w.drew (p4.add 1) (.int .i64 t6) ∧
 ∃ p8, x0 = some p8 ∧
 ∃ t10 : ByteArray, Ld w.drew (p8.add 0) (.string t10) ∧
 Q (.bool (t6 == ((t10.size : Nat) : Int))) w.drew
def an87 : Ann := { cut := fun i => none, loop := fun i => [] }
theorem eq87 (x0 : Option Addr) (w : World) (Q : Value → World → Prop) : F87 x0 w Q = vc prog an87 (Try.f87.body.getD .skip) (envOf [.pointer x0]) w (retK prog Try.f87 Q) := by kernel_rfl
theorem ok87 : codeOk Try.f87.ntmps (Try.f87.body.getD .skip) = true := by kernel_rfl
theorem W87 {x0 : Option Addr} {w : World} {Q : Value → World → Prop} (h : F87 x0 w Q) : Calls prog 87 #[.pointer x0] w fun en w' => ∃ v, en = .returned v ∧ Q v w' :=
  calls_of_vc good follows an87 (args := [.pointer x0]) Try.func87 (by kernel_rfl) ok87 (of_decide_eq_true (by kernel_rfl)) (Eq.mp (eq87 x0 w Q) h)

/-- (*bastion/code.Reader).Done -/
def F56 (x0 : Option Addr) (w : World) (Q : Value → World → Prop) : Prop :=
 ∃ b4 : Bool, BinIs prog .neq 94 (.tmp 3) (.const (.pointer none)) (.pointer x0) (.pointer none) b4 ∧
 IfB b4
 (∃ p7, x0 = some p7 ∧
 Calls prog 87 #[.pointer (some (p7.add 0))] w fun en w1 =>
 ∃ t9 : Bool, en = .returned (.bool t9) ∧
 Q (.bool t9) w1)
 (Q (.bool false) w)
def an56 : Ann := { cut := fun i => none, loop := fun i => [] }
theorem eq56 (x0 : Option Addr) (w : World) (Q : Value → World → Prop) : F56 x0 w Q = vc prog an56 (Try.f56.body.getD .skip) (envOf [.pointer x0]) w (retK prog Try.f56 Q) := by kernel_rfl
theorem ok56 : codeOk Try.f56.ntmps (Try.f56.body.getD .skip) = true := by kernel_rfl
theorem W56 {x0 : Option Addr} {w : World} {Q : Value → World → Prop} (h : F56 x0 w Q) : Calls prog 56 #[.pointer x0] w fun en w' => ∃ v, en = .returned v ∧ Q v w' :=
  calls_of_vc good follows an56 (args := [.pointer x0]) Try.func56 (by kernel_rfl) ok56 (of_decide_eq_true (by kernel_rfl)) (Eq.mp (eq56 x0 w Q) h)

/-- bastion/stride.Load -/
def F20 (x0 : Sl) (w : World) (Q : Value → World → Prop) : Prop :=
 Calls prog 52 #[.slice x0.a x0.l x0.c] w fun en w1 =>
 ∃ t10 : Option Addr, en = .returned (.pointer t10) ∧
 ∃ t11 : Array Value, BuildIs prog 73 #[] t11 ∧
 ∀ b12 w1_1, NewB w1 (.cells t11 73) b12 w1_1 →
 Calls prog 53 #[.pointer t10, .int .i64 4] w1_1 fun en w1_2 =>
 ∃ t14 : Int, en = .returned (.int .i64 t14) ∧
 ∃ (I : Nat → Int → World → Prop) (n0 : Nat), I n0 (0 : Int) w1_2 ∧
 ∀ (n : Nat) (u : Env) (x15 : Int) (w1_3 : World), I n x15 w1_3 →
 IfB (decide (x15 < t14))
 (Calls prog 54 #[.pointer t10, .int .i64 24] w1_3 fun en w1_4 =>
 ∃ t18 : ByteArray, en = .returned (.string t18) ∧
 Calls prog 53 #[.pointer t10, .int .i64 1000] w1_4 fun en w1_5 =>
 ∃ t20 : Int, en = .returned (.int .i64 t20) ∧
 Calls prog 53 #[.pointer t10, .int .i64 2147483647] w1_5 fun en w1_6 =>
 ∃ t22 : Int, en = .returned (.int .i64 t22) ∧
 Calls prog 55 #[.pointer t10] w1_6 fun en w1_7 =>
 ∃ t24 : Bool, en = .returned (.bool t24) ∧
 ∃ t25 : Array Value, BuildIs prog 77 #[(0, .string t18), (1, .int .i64 t20), (2, .int .i64 t22), (3, .bool t24)] t25 ∧
 ∀ b26 w1_8, NewB w1_7 (.cells t25 77) b26 w1_8 →
 ∃ p30, some (⟨b26, 0, none⟩ : Addr) = some p30 ∧
 ∃ t32 : ByteArray, Ld w1_8 (p30.add 0) (.string t32) ∧
 Calls prog 45 #[.pointer (some (⟨b12, 0, none⟩ : Addr)), .string t32] w1_8 fun en w1_9 =>
 ∃ t33a : Int, ∃ t33b : Bool, en = .returned (.tuple #[.int .i64 t33a, .bool t33b]) ∧
 ∃ J : Bool → World → Prop, (IfB t33b
 (J true w1_9)
 (∃ p40, some (⟨b12, 0, none⟩ : Addr) = some p40 ∧
 ∃ t42 : Sl, Ld w1_9 (p40.add 0) (.slice t42.a t42.l t42.c) ∧
 IfB (decide (t33a < ((t42.l : Nat) : Int)))
 (J true w1_9)
 (∃ p48, some (⟨b26, 0, none⟩ : Addr) = some p48 ∧
 ∃ t50 : ByteArray, Ld w1_9 (p48.add 0) (.string t50) ∧
 Calls prog 44 #[.string t50] w1_9 fun en w1_10 =>
 ∃ t51 : Bool, en = .returned (.bool t51) ∧
 IfB (!t51)
 (J true w1_10)
 (∃ p56, some (⟨b26, 0, none⟩ : Addr) = some p56 ∧
 ∃ t58 : Int, Ld w1_10 (p56.add 1) (.int .i64 t58) ∧
 J (decide (t58 < (1 : Int))) w1_10)))) ∧
 (∀ (u_1 : Env) (x60 : Bool) (w1_10 : World), J x60 w1_10 →
 IfB x60
 (Q (.tuple #[.pointer none, .int .i64 4]) w1_10)
 (∃ p63, some (⟨b12, 0, none⟩ : Addr) = some p63 ∧
 ∃ t65 : Sl, Ld w1_10 (p63.add 0) (.slice t65.a t65.l t65.c) ∧
 RunT prog .slice (Instr.buildSlice 71 1 #[(0, .pointer (some (⟨b26, 0, none⟩ : Addr)))]) w1_10 fun (t67 : Sl) w1_11 =>
 RunT prog .slice (Builtin.append_ #[71, 71] 71 #[.slice t65.a t65.l t65.c, .slice t67.a t67.l t67.c]) w1_11 fun (t68 : Sl) w1_12 =>
 ∃ p69, some (⟨b12, 0, none⟩ : Addr) = some p69 ∧
 Wr w1_12 (p69.add 0) ∧ ∀ w1_13, w1_13 = w1_12.setCell (p69.add 0) (.slice t68.a t68.l t68.c) →
 ∃ n', n' < n ∧ I n' (IntKind.wrap .i64 (x15 + (1 : Int))) w1_13)))
 (Calls prog 56 #[.pointer t10] w1_3 fun en w1_4 =>
 ∃ t73 : Bool, en = .returned (.bool t73) ∧
 IfB (!t73)
 (Q (.tuple #[.pointer none, .int .i64 4]) w1_4)
 (Q (.tuple #[.pointer (some (⟨b12, 0, none⟩ : Addr)), .int .i64 0]) w1_4))
def an20 : Ann := { cut := fun i => bif Nat.beq i 8 then some [(60, .bool)] else none, loop := fun i => bif Nat.beq i 4 then [(15, .int .i64)] else [] }
theorem eq20 (x0 : Sl) (w : World) (Q : Value → World → Prop) : F20 x0 w Q = vc prog an20 (Try.f20.body.getD .skip) (envOf [.slice x0.a x0.l x0.c]) w (retK prog Try.f20 Q) := by kernel_rfl
theorem ok20 : codeOk Try.f20.ntmps (Try.f20.body.getD .skip) = true := by kernel_rfl
theorem W20 {x0 : Sl} {w : World} {Q : Value → World → Prop} (h : F20 x0 w Q) : Calls prog 20 #[.slice x0.a x0.l x0.c] w fun en w' => ∃ v, en = .returned v ∧ Q v w' :=
  calls_of_vc good follows an20 (args := [.slice x0.a x0.l x0.c]) Try.func20 (by kernel_rfl) ok20 (of_decide_eq_true (by kernel_rfl)) (Eq.mp (eq20 x0 w Q) h)

/-- (*bastion/stride.Shares).Names -/
def F21 (x0 : Option Addr) (w : World) (Q : Value → World → Prop) : Prop :=
 ∃ b7 : Bool, BinIs prog .eql 23 (.tmp 6) (.const (.pointer none)) (.pointer x0) (.pointer none) b7 ∧
 IfB b7
 (Q (.slice none 0 0) w)
 (∃ p9, x0 = some p9 ∧
 ∃ t11 : Sl, Ld w (p9.add 0) (.slice t11.a t11.l t11.c) ∧
 ∃ (I : Nat → Sl → Int → World → Prop) (n0 : Nat), I n0 (⟨none, 0, 0⟩ : Sl) (0 : Int) w ∧
 ∀ (n : Nat) (u : Env) (x3 : Sl) (x13 : Int) (w1 : World), I n x3 x13 w1 →
 IfB (decide (x13 < ((t11.l : Nat) : Int)))
 (∃ p15, t11.a = some p15 ∧ 0 ≤ x13 ∧ x13 < ((t11.l : Nat) : Int) ∧
 ∃ t16 : Option Addr, Ld w1 (p15.add ((x13).toNat * 1)) (.pointer t16) ∧
 ∃ p19, t16 = some p19 ∧
 ∃ t21 : ByteArray, Ld w1 (p19.add 0) (.string t21) ∧
 RunT prog .slice (Instr.buildSlice 28 1 #[(0, .string t21)]) w1 fun (t22 : Sl) w1_1 =>
 RunT prog .slice (Builtin.append_ #[28, 28] 28 #[.slice x3.a x3.l x3.c, .slice t22.a t22.l t22.c]) w1_1 fun (t23 : Sl) w1_2 =>
 ∃ n', n' < n ∧ I n' t23 (IntKind.wrap .i64 (x13 + (1 : Int))) w1_2)
 (Q (.slice x3.a x3.l x3.c) w1))
def an21 : Ann := { cut := fun i => none, loop := fun i => bif Nat.beq i 5 then [(3, .slice), (13, .int .i64)] else [] }
theorem eq21 (x0 : Option Addr) (w : World) (Q : Value → World → Prop) : F21 x0 w Q = vc prog an21 (Try.f21.body.getD .skip) (envOf [.pointer x0]) w (retK prog Try.f21 Q) := by kernel_rfl
theorem ok21 : codeOk Try.f21.ntmps (Try.f21.body.getD .skip) = true := by kernel_rfl
theorem W21 {x0 : Option Addr} {w : World} {Q : Value → World → Prop} (h : F21 x0 w Q) : Calls prog 21 #[.pointer x0] w fun en w' => ∃ v, en = .returned v ∧ Q v w' :=
  calls_of_vc good follows an21 (args := [.pointer x0]) Try.func21 (by kernel_rfl) ok21 (of_decide_eq_true (by kernel_rfl)) (Eq.mp (eq21 x0 w Q) h)

/-- bastion/bastionlaw24.StrideNames -/
def F3 (w : World) (Q : Value → World → Prop) : Prop :=
 Calls prog 11 #[] w fun en w1 =>
 ∃ t33 : Bool, en = .returned (.bool t33) ∧
 IfB (!t33)
 (Q (.bool false) w1)
 (Calls prog 12 #[] w1 fun en w1_1 =>
 ∃ t55 : Option Addr, en = .returned (.pointer t55) ∧
 Calls prog 14 #[] w1_1 fun en w1_2 =>
 ∃ t58 : Sl, en = .returned (.slice t58.a t58.l t58.c) ∧
 Calls prog 13 #[.pointer t55, .slice t58.a t58.l t58.c] w1_2 fun en w1_3 =>
 ∃ t59a : ByteArray, ∃ t59b : Int, en = .returned (.tuple #[.string t59a, .int .i64 t59b]) ∧
 ∃ J : Bool → World → Prop, (IfB (t59b != (5 : Int))
 (J true w1_3)
 (Calls prog 15 #[.pointer t55, .string (⟨#[]⟩ : ByteArray), .int .i64 0] w1_3 fun en w1_4 =>
 ∃ t66 : Int, en = .returned (.int .i64 t66) ∧
 IfB (t66 != (63 : Int))
 (J true w1_4)
 (Calls prog 15 #[.pointer t55, .string (⟨#[65]⟩ : ByteArray), .int .i64 1] w1_4 fun en w1_5 =>
 ∃ t71 : Int, en = .returned (.int .i64 t71) ∧
 IfB (t71 != (63 : Int))
 (J true w1_5)
 (Calls prog 15 #[.pointer t55, .string (⟨#[49]⟩ : ByteArray), .int .i64 1] w1_5 fun en w1_6 =>
 ∃ t76 : Int, en = .returned (.int .i64 t76) ∧
 IfB (t76 != (63 : Int))
 (J true w1_6)
 (Calls prog 15 #[.pointer t55, .string (⟨#[97, 46, 98]⟩ : ByteArray), .int .i64 1] w1_6 fun en w1_7 =>
 ∃ t81 : Int, en = .returned (.int .i64 t81) ∧
 IfB (t81 != (63 : Int))
 (J true w1_7)
 (Calls prog 15 #[.pointer t55, .string (⟨#[97, 98, 99, 100, 101, 102, 103, 104, 105, 106, 107, 108, 109, 110, 111, 112, 113, 114, 115, 116, 117, 118, 119, 120, 121]⟩ : ByteArray), .int .i64 1] w1_7 fun en w1_8 =>
 ∃ t86 : Int, en = .returned (.int .i64 t86) ∧
 IfB (t86 != (63 : Int))
 (J true w1_8)
 (Calls prog 15 #[.pointer t55, .string (⟨#[97, 98, 99, 100, 101, 102, 103, 104, 105, 106, 107, 108, 109, 110, 111, 112, 113, 114, 115, 116, 117, 118, 119, 120]⟩ : ByteArray), .int .i64 1] w1_8 fun en w1_9 =>
 ∃ t91 : Int, en = .returned (.int .i64 t91) ∧
 IfB (t91 != (0 : Int))
 (J true w1_9)
 (Calls prog 15 #[.pointer t55, .string (⟨#[97, 45, 95, 57]⟩ : ByteArray), .int .i64 1000] w1_9 fun en w1_10 =>
 ∃ t96 : Int, en = .returned (.int .i64 t96) ∧
 IfB (t96 != (0 : Int))
 (J true w1_10)
 (Calls prog 15 #[.pointer t55, .string (⟨#[98]⟩ : ByteArray), .int .i64 0] w1_10 fun en w1_11 =>
 ∃ t101 : Int, en = .returned (.int .i64 t101) ∧
 IfB (t101 != (1 : Int))
 (J true w1_11)
 (Calls prog 15 #[.pointer t55, .string (⟨#[98]⟩ : ByteArray), .int .i64 1001] w1_11 fun en w1_12 =>
 ∃ t106 : Int, en = .returned (.int .i64 t106) ∧
 IfB (t106 != (1 : Int))
 (J true w1_12)
 (Calls prog 15 #[.pointer t55, .string (⟨#[98]⟩ : ByteArray), .int .i64 (-1)] w1_12 fun en w1_13 =>
 ∃ t111 : Int, en = .returned (.int .i64 t111) ∧
 J (t111 != (1 : Int)) w1_13))))))))))) ∧
 (∀ (u : Env) (x113 : Bool) (w1_4 : World), J x113 w1_4 →
 IfB x113
 (Q (.bool false) w1_4)
 (∃ J_1 : Bool → World → Prop, (Calls prog 15 #[.pointer t55, .string (⟨#[98]⟩ : ByteArray), .int .i64 1] w1_4 fun en w1_5 =>
 ∃ t115 : Int, en = .returned (.int .i64 t115) ∧
 IfB (t115 != (0 : Int))
 (J_1 true w1_5)
 (Calls prog 16 #[.pointer t55] w1_5 fun en w1_6 =>
 ∃ t119 : Sl, en = .returned (.slice t119.a t119.l t119.c) ∧
 (0 ≤ (4 : Int) ∧ (4 : Int) ≤ ((t119.c : Nat) : Int)) ∧
 RunT prog .str (convert 31 9 (.slice (slA t119.a 0 t119.c 1) (4 - 0) (t119.c - 0))) w1_6 fun (t121 : ByteArray) w1_7 =>
 IfB (!(t121.toList == (⟨#[3, 4, 97, 45]⟩ : ByteArray).toList))
 (J_1 true w1_7)
 (Calls prog 15 #[.pointer t55, .string (⟨#[99]⟩ : ByteArray), .int .i64 1] w1_7 fun en w1_8 =>
 ∃ t126 : Int, en = .returned (.int .i64 t126) ∧
 IfB (t126 != (0 : Int))
 (J_1 true w1_8)
 (Calls prog 15 #[.pointer t55, .string (⟨#[100]⟩ : ByteArray), .int .i64 1] w1_8 fun en w1_9 =>
 ∃ t131 : Int, en = .returned (.int .i64 t131) ∧
 IfB (t131 != (3 : Int))
 (J_1 true w1_9)
 (Calls prog 15 #[.pointer t55, .string (⟨#[100]⟩ : ByteArray), .int .i64 0] w1_9 fun en w1_10 =>
 ∃ t136 : Int, en = .returned (.int .i64 t136) ∧
 IfB (t136 != (1 : Int))
 (J_1 true w1_10)
 (Calls prog 17 #[.pointer t55, .string (⟨#[100]⟩ : ByteArray)] w1_10 fun en w1_11 =>
 ∃ t141 : Int, en = .returned (.int .i64 t141) ∧
 IfB (t141 != (5 : Int))
 (J_1 true w1_11)
 (Calls prog 17 #[.pointer t55, .string (⟨#[99]⟩ : ByteArray)] w1_11 fun en w1_12 =>
 ∃ t146 : Int, en = .returned (.int .i64 t146) ∧
 IfB (t146 != (0 : Int))
 (J_1 true w1_12)
 (Calls prog 17 #[.pointer t55, .string (⟨#[99]⟩ : ByteArray)] w1_12 fun en w1_13 =>
 ∃ t151 : Int, en = .returned (.int .i64 t151) ∧
 IfB (t151 != (5 : Int))
 (J_1 true w1_13)
 (Calls prog 18 #[.pointer t55, .string (⟨#[99]⟩ : ByteArray), .int .i64 (-1)] w1_13 fun en w1_14 =>
 ∃ t156 : Int, en = .returned (.int .i64 t156) ∧
 IfB (t156 != (5 : Int))
 (J_1 true w1_14)
 (Calls prog 18 #[.pointer t55, .string (⟨#[98]⟩ : ByteArray), .int .i64 (-1)] w1_14 fun en w1_15 =>
 ∃ t161 : Int, en = .returned (.int .i64 t161) ∧
 IfB (t161 != (1 : Int))
 (J_1 true w1_15)
 (Calls prog 18 #[.pointer t55, .string (⟨#[98]⟩ : ByteArray), .int .i64 2147483648] w1_15 fun en w1_16 =>
 ∃ t166 : Int, en = .returned (.int .i64 t166) ∧
 IfB (t166 != (70 : Int))
 (J_1 true w1_16)
 (Calls prog 18 #[.pointer t55, .string (⟨#[98]⟩ : ByteArray), .int .i64 2147483647] w1_16 fun en w1_17 =>
 ∃ t171 : Int, en = .returned (.int .i64 t171) ∧
 IfB (t171 != (0 : Int))
 (J_1 true w1_17)
 (Calls prog 18 #[.pointer t55, .string (⟨#[98]⟩ : ByteArray), .int .i64 1] w1_17 fun en w1_18 =>
 ∃ t176 : Int, en = .returned (.int .i64 t176) ∧
 IfB (t176 != (70 : Int))
 (J_1 true w1_18)
 (Calls prog 18 #[.pointer t55, .string (⟨#[98]⟩ : ByteArray), .int .i64 0] w1_18 fun en w1_19 =>
 ∃ t181 : Int, en = .returned (.int .i64 t181) ∧
 IfB (t181 != (0 : Int))
 (J_1 true w1_19)
 (Calls prog 15 #[.pointer t55, .string (⟨#[98]⟩ : ByteArray), .int .i64 2] w1_19 fun en w1_20 =>
 ∃ t186 : Int, en = .returned (.int .i64 t186) ∧
 IfB (t186 != (70 : Int))
 (J_1 true w1_20)
 (Calls prog 15 #[.pointer t55, .string (⟨#[98]⟩ : ByteArray), .int .i64 1] w1_20 fun en w1_21 =>
 ∃ t191 : Int, en = .returned (.int .i64 t191) ∧
 J_1 (t191 != (0 : Int)) w1_21)))))))))))))))) ∧
 (∀ (u_1 : Env) (x193 : Bool) (w1_5 : World), J_1 x193 w1_5 →
 IfB x193
 (Q (.bool false) w1_5)
 (RunT prog .slice (Instr.buildSlice 28 1 #[(0, .string (⟨#[98]⟩ : ByteArray))]) w1_5 fun (t196 : Sl) w1_6 =>
 Calls prog 13 #[.pointer t55, .slice t196.a t196.l t196.c] w1_6 fun en w1_7 =>
 ∃ t197a : ByteArray, ∃ t197b : Int, en = .returned (.tuple #[.string t197a, .int .i64 t197b]) ∧
 RunT prog .slice (Instr.buildSlice 28 2 #[(0, .string (⟨#[98]⟩ : ByteArray)), (1, .string (⟨#[97, 45, 95, 57]⟩ : ByteArray))]) w1_7 fun (t202 : Sl) w1_8 =>
 Calls prog 13 #[.pointer t55, .slice t202.a t202.l t202.c] w1_8 fun en w1_9 =>
 ∃ t203a : ByteArray, ∃ t203b : Int, en = .returned (.tuple #[.string t203a, .int .i64 t203b]) ∧
 Calls prog 19 #[.pointer t55, .string (⟨#[97, 45, 95, 57]⟩ : ByteArray)] w1_9 fun en w1_10 =>
 ∃ t208a : Int, ∃ t208b : Int, ∃ t208c : Bool, en = .returned (.tuple #[.int .i64 t208a, .int .i64 t208b, .bool t208c]) ∧
 ∃ J_2 : Bool → World → Prop, (IfB (!(t197a.toList == (⟨#[98]⟩ : ByteArray).toList))
 (J_2 true w1_10)
 (IfB (!(t203a.toList == (⟨#[97, 45, 95, 57]⟩ : ByteArray).toList))
 (J_2 true w1_10)
 (IfB (IntKind.wrap .i64 (t197b + t203b) != (0 : Int))
 (J_2 true w1_10)
 (IfB (t208b != (2147483647 : Int))
 (J_2 true w1_10)
 (J_2 (!t208c) w1_10))))) ∧
 (∀ (u_2 : Env) (x231 : Bool) (w1_11 : World), J_2 x231 w1_11 →
 IfB x231
 (Q (.bool false) w1_11)
 (RunT prog .slice (Instr.buildSlice 31 6 #[(0, .int .u8 1), (1, .int .u8 1), (2, .int .u8 97), (3, .int .u8 1), (4, .int .u8 0), (5, .int .u8 0)]) w1_11 fun (t233 : Sl) w1_12 =>
 Calls prog 20 #[.slice t233.a t233.l t233.c] w1_12 fun en w1_13 =>
 ∃ t234a : Option Addr, ∃ t234b : Int, en = .returned (.tuple #[.pointer t234a, .int .i64 t234b]) ∧
 RunT prog .slice (Instr.buildSlice 31 6 #[(0, .int .u8 1), (1, .int .u8 1), (2, .int .u8 97), (3, .int .u8 0), (4, .int .u8 0), (5, .int .u8 0)]) w1_13 fun (t238 : Sl) w1_14 =>
 Calls prog 20 #[.slice t238.a t238.l t238.c] w1_14 fun en w1_15 =>
 ∃ t239a : Option Addr, ∃ t239b : Int, en = .returned (.tuple #[.pointer t239a, .int .i64 t239b]) ∧
 RunT prog .slice (Instr.buildSlice 31 6 #[(0, .int .u8 1), (1, .int .u8 1), (2, .int .u8 65), (3, .int .u8 1), (4, .int .u8 0), (5, .int .u8 0)]) w1_15 fun (t243 : Sl) w1_16 =>
 Calls prog 20 #[.slice t243.a t243.l t243.c] w1_16 fun en w1_17 =>
 ∃ t244a : Option Addr, ∃ t244b : Int, en = .returned (.tuple #[.pointer t244a, .int .i64 t244b]) ∧
 RunT prog .slice (Instr.buildSlice 31 11 #[(0, .int .u8 2), (1, .int .u8 1), (2, .int .u8 98), (3, .int .u8 1), (4, .int .u8 0), (5, .int .u8 0), (6, .int .u8 1), (7, .int .u8 97), (8, .int .u8 1), (9, .int .u8 0), (10, .int .u8 0)]) w1_17 fun (t248 : Sl) w1_18 =>
 Calls prog 20 #[.slice t248.a t248.l t248.c] w1_18 fun en w1_19 =>
 ∃ t249a : Option Addr, ∃ t249b : Int, en = .returned (.tuple #[.pointer t249a, .int .i64 t249b]) ∧
 RunT prog .slice (Instr.buildSlice 31 11 #[(0, .int .u8 2), (1, .int .u8 1), (2, .int .u8 97), (3, .int .u8 1), (4, .int .u8 0), (5, .int .u8 0), (6, .int .u8 1), (7, .int .u8 97), (8, .int .u8 1), (9, .int .u8 0), (10, .int .u8 0)]) w1_19 fun (t253 : Sl) w1_20 =>
 Calls prog 20 #[.slice t253.a t253.l t253.c] w1_20 fun en w1_21 =>
 ∃ t254a : Option Addr, ∃ t254b : Int, en = .returned (.tuple #[.pointer t254a, .int .i64 t254b]) ∧
 RunT prog .slice (Instr.buildSlice 31 6 #[(0, .int .u8 1), (1, .int .u8 1), (2, .int .u8 97), (3, .int .u8 1), (4, .int .u8 0), (5, .int .u8 2)]) w1_21 fun (t258 : Sl) w1_22 =>
 Calls prog 20 #[.slice t258.a t258.l t258.c] w1_22 fun en w1_23 =>
 ∃ t259a : Option Addr, ∃ t259b : Int, en = .returned (.tuple #[.pointer t259a, .int .i64 t259b]) ∧
 RunT prog .slice (Instr.buildSlice 31 1 #[(0, .int .u8 5)]) w1_23 fun (t263 : Sl) w1_24 =>
 Calls prog 20 #[.slice t263.a t263.l t263.c] w1_24 fun en w1_25 =>
 ∃ t264a : Option Addr, ∃ t264b : Int, en = .returned (.tuple #[.pointer t264a, .int .i64 t264b]) ∧
 Calls prog 20 #[.slice none 0 0] w1_25 fun en w1_26 =>
 ∃ t268a : Option Addr, ∃ t268b : Int, en = .returned (.tuple #[.pointer t268a, .int .i64 t268b]) ∧
 ∃ J_3 : Bool → World → Prop, (IfB (t234b != (0 : Int))
 (J_3 true w1_26)
 (Calls prog 21 #[.pointer t234a] w1_26 fun en w1_27 =>
 ∃ t275 : Sl, en = .returned (.slice t275.a t275.l t275.c) ∧
 IfB (((t275.l : Nat) : Int) != (1 : Int))
 (J_3 true w1_27)
 (IfB (t239b != (4 : Int))
 (J_3 true w1_27)
 (IfB (t244b != (4 : Int))
 (J_3 true w1_27)
 (IfB (t249b != (4 : Int))
 (J_3 true w1_27)
 (IfB (t254b != (4 : Int))
 (J_3 true w1_27)
 (IfB (t259b != (4 : Int))
 (J_3 true w1_27)
 (IfB (t264b != (4 : Int))
 (J_3 true w1_27)
 (J_3 (t268b != (4 : Int)) w1_27))))))))) ∧
 (∀ (u_3 : Env) (x306 : Bool) (w1_27 : World), J_3 x306 w1_27 →
 IfB x306
 (Q (.bool false) w1_27)
 (Calls prog 14 #[] w1_27 fun en w1_28 =>
 ∃ t309 : Sl, en = .returned (.slice t309.a t309.l t309.c) ∧
 Calls prog 13 #[.pointer none, .slice t309.a t309.l t309.c] w1_28 fun en w1_29 =>
 ∃ t310a : ByteArray, ∃ t310b : Int, en = .returned (.tuple #[.string t310a, .int .i64 t310b]) ∧
 Calls prog 19 #[.pointer none, .string (⟨#[97]⟩ : ByteArray)] w1_29 fun en w1_30 =>
 ∃ t315a : Int, ∃ t315b : Int, ∃ t315c : Bool, en = .returned (.tuple #[.int .i64 t315a, .int .i64 t315b, .bool t315c]) ∧
 IfB (t310b == (2 : Int))
 (IfB (!t315c)
 (Calls prog 15 #[.pointer none, .string (⟨#[97]⟩ : ByteArray), .int .i64 1] w1_30 fun en w1_31 =>
 ∃ t327 : Int, en = .returned (.int .i64 t327) ∧
 IfB (t327 == (2 : Int))
 (Calls prog 17 #[.pointer none, .string (⟨#[97]⟩ : ByteArray)] w1_31 fun en w1_32 =>
 ∃ t332 : Int, en = .returned (.int .i64 t332) ∧
 IfB (t332 == (2 : Int))
 (Calls prog 18 #[.pointer none, .string (⟨#[97]⟩ : ByteArray), .int .i64 1] w1_32 fun en w1_33 =>
 ∃ t337 : Int, en = .returned (.int .i64 t337) ∧
 IfB (t337 == (2 : Int))
 (Calls prog 21 #[.pointer none] w1_33 fun en w1_34 =>
 ∃ t342 : Sl, en = .returned (.slice t342.a t342.l t342.c) ∧
 Calls prog 16 #[.pointer none] w1_34 fun en w1_35 =>
 ∃ t345 : Sl, en = .returned (.slice t345.a t345.l t345.c) ∧
 Q (.bool (IntKind.wrap .i64 (((t342.l : Nat) : Int) + ((t345.l : Nat) : Int)) == (0 : Int))) w1_35)
 (Q (.bool false) w1_33))
 (Q (.bool false) w1_32))
 (Q (.bool false) w1_31))
 (Q (.bool false) w1_30))
 (Q (.bool false) w1_30))))))))))
def an3 : Ann := { cut := fun i => bif Nat.beq i 6 then some [(113, .bool)] else bif Nat.beq i 8 then some [(193, .bool)] else bif Nat.beq i 13 then some [(231, .bool)] else bif Nat.beq i 23 then some [(306, .bool)] else none, loop := fun i => [] }
theorem eq3 (w : World) (Q : Value → World → Prop) : F3  w Q = vc prog an3 (Try.f3.body.getD .skip) (envOf []) w (retK prog Try.f3 Q) := by kernel_rfl
theorem ok3 : codeOk Try.f3.ntmps (Try.f3.body.getD .skip) = true := by kernel_rfl
theorem W3 {w : World} {Q : Value → World → Prop} (h : F3  w Q) : Calls prog 3 #[] w fun en w' => ∃ v, en = .returned v ∧ Q v w' :=
  calls_of_vc good follows an3 (args := []) Try.func3 (by kernel_rfl) ok3 (of_decide_eq_true (by kernel_rfl)) (Eq.mp (eq3  w Q) h)

/-- bastion/bastionlaw24.large -/
def F22 (x0 : Sl) (w : World) (Q : Value → World → Prop) : Prop :=
 ∃ (I : Nat → Int → Int → World → Prop) (n0 : Nat), I n0 ((x0.l : Nat) : Int) (0 : Int) w ∧
 ∀ (n : Nat) (u : Env) (x3 : Int) (x4 : Int) (w1 : World), I n x3 x4 w1 →
 IfB (decide (x4 < ((x0.l : Nat) : Int)))
 (IfB (decide (x3 < (4000 : Int)))
 (∃ p20, x0.a = some p20 ∧ 0 ≤ x4 ∧ x4 < ((x0.l : Nat) : Int) ∧
 ∃ t22 : Sl, Ld w1 ((p20.add ((x4).toNat * 4)).add 3) (.slice t22.a t22.l t22.c) ∧
 ∃ n', n' < n ∧ I n' (IntKind.wrap .i64 (x3 + (if (4000 : Int) < ((t22.l : Nat) : Int) then (4000 : Int) else ((t22.l : Nat) : Int)))) (IntKind.wrap .i64 (x4 + (1 : Int))) w1)
 (Q (.bool (decide (x3 ≥ (4000 : Int)))) w1))
 (Q (.bool (decide (x3 ≥ (4000 : Int)))) w1)
def an22 : Ann := { cut := fun i => none, loop := fun i => bif Nat.beq i 3 then [(3, .int .i64), (4, .int .i64)] else [] }
theorem eq22 (x0 : Sl) (w : World) (Q : Value → World → Prop) : F22 x0 w Q = vc prog an22 (Try.f22.body.getD .skip) (envOf [.slice x0.a x0.l x0.c]) w (retK prog Try.f22 Q) := by kernel_rfl
theorem ok22 : codeOk Try.f22.ntmps (Try.f22.body.getD .skip) = true := by kernel_rfl
theorem W22 {x0 : Sl} {w : World} {Q : Value → World → Prop} (h : F22 x0 w Q) : Calls prog 22 #[.slice x0.a x0.l x0.c] w fun en w' => ∃ v, en = .returned v ∧ Q v w' :=
  calls_of_vc good follows an22 (args := [.slice x0.a x0.l x0.c]) Try.func22 (by kernel_rfl) ok22 (of_decide_eq_true (by kernel_rfl)) (Eq.mp (eq22 x0 w Q) h)

/-- (*bastion/bastionref24.Shares).At -/
def F31 (x0 : Option Addr) (x1 : ByteArray) (w : World) (Q : Value → World → Prop) : Prop :=
 ∃ (I : Nat → Int → World → Prop) (n0 : Nat), I n0 (0 : Int) w ∧
 ∀ (n : Nat) (u : Env) (x5 : Int) (w1 : World), I n x5 w1 →
 ∃ p8, x0 = some p8 ∧
 ∃ t10 : Sl, Ld w1 (p8.add 0) (.slice t10.a t10.l t10.c) ∧
 IfB (decide (x5 < ((t10.l : Nat) : Int)))
 (∃ p16, x0 = some p16 ∧
 ∃ t18 : Sl, Ld w1 (p16.add 0) (.slice t18.a t18.l t18.c) ∧
 ∃ p20, t18.a = some p20 ∧ 0 ≤ x5 ∧ x5 < ((t18.l : Nat) : Int) ∧
 ∃ t22 : ByteArray, Ld w1 ((p20.add ((x5).toNat * 4)).add 0) (.string t22) ∧
 IfB (t22.toList == x1.toList)
 (Q (.int .i64 x5) w1)
 (∃ n', n' < n ∧ I n' (IntKind.wrap .i64 (x5 + (1 : Int))) w1))
 (Q (.int .i64 (-1)) w1)
def an31 : Ann := { cut := fun i => none, loop := fun i => bif Nat.beq i 2 then [(5, .int .i64)] else [] }
theorem eq31 (x0 : Option Addr) (x1 : ByteArray) (w : World) (Q : Value → World → Prop) : F31 x0 x1 w Q = vc prog an31 (Try.f31.body.getD .skip) (envOf [.pointer x0, .string x1]) w (retK prog Try.f31 Q) := by kernel_rfl
theorem ok31 : codeOk Try.f31.ntmps (Try.f31.body.getD .skip) = true := by kernel_rfl
theorem W31 {x0 : Option Addr} {x1 : ByteArray} {w : World} {Q : Value → World → Prop} (h : F31 x0 x1 w Q) : Calls prog 31 #[.pointer x0, .string x1] w fun en w' => ∃ v, en = .returned v ∧ Q v w' :=
  calls_of_vc good follows an31 (args := [.pointer x0, .string x1]) Try.func31 (by kernel_rfl) ok31 (of_decide_eq_true (by kernel_rfl)) (Eq.mp (eq31 x0 x1 w Q) h)

/-- bastion/bastionref24.Name -/
def F57 (x0 : ByteArray) (w : World) (Q : Value → World → Prop) : Prop :=
 ∃ J : Bool → World → Prop, (IfB (decide (((x0.size : Nat) : Int) < (1 : Int)))
 (J true w)
 (J (decide (((x0.size : Nat) : Int) > (24 : Int))) w)) ∧
 (∀ (u : Env) (x13 : Bool) (w1 : World), J x13 w1 →
 IfB x13
 (Q (.bool false) w1)
 (∃ (I : Nat → Int → World → Prop) (n0 : Nat), I n0 (0 : Int) w1 ∧
 ∀ (n : Nat) (u_1 : Env) (x3 : Int) (w1_1 : World), I n x3 w1_1 →
 IfB (decide (x3 < ((x0.size : Nat) : Int)))
 (∃ J_1 : Bool → World → Prop, (0 ≤ x3 ∧ x3 < ((x0.size : Nat) : Int) ∧
 IfB (decide (bt x0 x3 ≥ (97 : Int)))
 (0 ≤ x3 ∧ x3 < ((x0.size : Nat) : Int) ∧
 J_1 (decide (bt x0 x3 ≤ (122 : Int))) w1_1)
 (J_1 false w1_1)) ∧
 (∀ (u_2 : Env) (x4 : Bool) (w1_2 : World), J_1 x4 w1_2 →
 ∃ J_2 : Bool → World → Prop, (0 ≤ x3 ∧ x3 < ((x0.size : Nat) : Int) ∧
 IfB (decide (bt x0 x3 ≥ (48 : Int)))
 (0 ≤ x3 ∧ x3 < ((x0.size : Nat) : Int) ∧
 IfB (decide (bt x0 x3 ≤ (57 : Int)))
 (J_2 true w1_2)
 (0 ≤ x3 ∧ x3 < ((x0.size : Nat) : Int) ∧
 IfB (bt x0 x3 == (45 : Int))
 (J_2 true w1_2)
 (0 ≤ x3 ∧ x3 < ((x0.size : Nat) : Int) ∧
 J_2 (bt x0 x3 == (95 : Int)) w1_2)))
 (0 ≤ x3 ∧ x3 < ((x0.size : Nat) : Int) ∧
 IfB (bt x0 x3 == (45 : Int))
 (J_2 true w1_2)
 (0 ≤ x3 ∧ x3 < ((x0.size : Nat) : Int) ∧
 J_2 (bt x0 x3 == (95 : Int)) w1_2))) ∧
 (∀ (u_3 : Env) (x5 : Bool) (w1_3 : World), J_2 x5 w1_3 →
 IfB (!x4)
 (IfB (x3 == (0 : Int))
 (Q (.bool false) w1_3)
 (IfB (!x5)
 (Q (.bool false) w1_3)
 (∃ n', n' < n ∧ I n' (IntKind.wrap .i64 (x3 + (1 : Int))) w1_3)))
 (∃ n', n' < n ∧ I n' (IntKind.wrap .i64 (x3 + (1 : Int))) w1_3))))
 (Q (.bool true) w1_1)))
def an57 : Ann := { cut := fun i => bif Nat.beq i 2 then some [(13, .bool)] else bif Nat.beq i 7 then some [(4, .bool)] else bif Nat.beq i 8 then some [(5, .bool)] else none, loop := fun i => bif Nat.beq i 4 then [(3, .int .i64)] else [] }
theorem eq57 (x0 : ByteArray) (w : World) (Q : Value → World → Prop) : F57 x0 w Q = vc prog an57 (Try.f57.body.getD .skip) (envOf [.string x0]) w (retK prog Try.f57 Q) := by kernel_rfl
theorem ok57 : codeOk Try.f57.ntmps (Try.f57.body.getD .skip) = true := by kernel_rfl
theorem W57 {x0 : ByteArray} {w : World} {Q : Value → World → Prop} (h : F57 x0 w Q) : Calls prog 57 #[.string x0] w fun en w' => ∃ v, en = .returned v ∧ Q v w' :=
  calls_of_vc good follows an57 (args := [.string x0]) Try.func57 (by kernel_rfl) ok57 (of_decide_eq_true (by kernel_rfl)) (Eq.mp (eq57 x0 w Q) h)

/-- bastion/bastionref24.scaled -/
def F58 (x0 : Int) (x1 : Int) (x2 : Int) (w : World) (Q : Value → World → Prop) : Prop :=
 x1 ≠ 0 ∧
 IfB (decide (IntKind.wrap .i64 ((IntKind.wrap .i64 (Int.tdiv (IntKind.wrap .i64 (x0 * x2)) x1)) * x1) < IntKind.wrap .i64 (x0 * x2)))
 (Q (.int .i64 (IntKind.wrap .i64 ((IntKind.wrap .i64 (Int.tdiv (IntKind.wrap .i64 (x0 * x2)) x1)) + (1 : Int)))) w)
 (Q (.int .i64 (IntKind.wrap .i64 (Int.tdiv (IntKind.wrap .i64 (x0 * x2)) x1))) w)
def an58 : Ann := { cut := fun i => none, loop := fun i => [] }
theorem eq58 (x0 : Int) (x1 : Int) (x2 : Int) (w : World) (Q : Value → World → Prop) : F58 x0 x1 x2 w Q = vc prog an58 (Try.f58.body.getD .skip) (envOf [.int .i64 x0, .int .i64 x1, .int .i64 x2]) w (retK prog Try.f58 Q) := by kernel_rfl
theorem ok58 : codeOk Try.f58.ntmps (Try.f58.body.getD .skip) = true := by kernel_rfl
theorem W58 {x0 : Int} {x1 : Int} {x2 : Int} {w : World} {Q : Value → World → Prop} (h : F58 x0 x1 x2 w Q) : Calls prog 58 #[.int .i64 x0, .int .i64 x1, .int .i64 x2] w fun en w' => ∃ v, en = .returned v ∧ Q v w' :=
  calls_of_vc good follows an58 (args := [.int .i64 x0, .int .i64 x1, .int .i64 x2]) Try.func58 (by kernel_rfl) ok58 (of_decide_eq_true (by kernel_rfl)) (Eq.mp (eq58 x0 x1 x2 w Q) h)

/-- (*bastion/bastionref24.Shares).Set -/
def F23 (x0 : Option Addr) (x1 : ByteArray) (x2 : Int) (w : World) (Q : Value → World → Prop) : Prop :=
 Calls prog 57 #[.string x1] w fun en w1 =>
 ∃ t13 : Bool, en = .returned (.bool t13) ∧
 IfB (!t13)
 (Q (.int .i64 63) w1)
 (∃ J : Bool → World → Prop, (IfB (decide (x2 < (1 : Int)))
 (J true w1)
 (J (decide (x2 > (1000 : Int))) w1)) ∧
 (∀ (u : Env) (x20 : Bool) (w1_1 : World), J x20 w1_1 →
 IfB x20
 (Q (.int .i64 1) w1_1)
 (Calls prog 31 #[.pointer x0, .string x1] w1_1 fun en w1_2 =>
 ∃ t23 : Int, en = .returned (.int .i64 t23) ∧
 IfB (decide (t23 ≥ (0 : Int)))
 (∃ S : World → Prop, S w1_2.drew ∧
 ∃ p27, x0 = some p27 ∧
 ∃ t29 : Sl, (∀ w', S w' → Ld w' (p27.add 0) (.slice t29.a t29.l t29.c)) ∧
 ∃ p31, t29.a = some p31 ∧ 0 ≤ t23 ∧ t23 < ((t29.l : Nat) : Int) ∧
 ∃ t33 : Int, (∀ w', S w' → Ld w' ((p31.add ((t23).toNat * 4)).add 2) (.int .i64 t33)) ∧
 ∃ p35, x0 = some p35 ∧
 ∃ t37 : Sl, (∀ w', S w' → Ld w' (p35.add 0) (.slice t37.a t37.l t37.c)) ∧
 ∃ p39, t37.a = some p39 ∧ 0 ≤ t23 ∧ t23 < ((t37.l : Nat) : Int) ∧
 ∃ t41 : Int, (∀ w', S w' → Ld w' ((p39.add ((t23).toNat * 4)).add 1) (.int .i64 t41)) ∧
 Calls prog 58 #[.int .i64 t33, .int .i64 t41, .int .i64 x2] w1_2.drew fun en w1_3 =>
 ∃ t43 : Int, en = .returned (.int .i64 t43) ∧
 IfB (decide (t43 > (2147483647 : Int)))
 (Q (.int .i64 70) w1_3)
 (∃ p47, x0 = some p47 ∧
 ∃ t49 : Sl, Ld w1_3 (p47.add 0) (.slice t49.a t49.l t49.c) ∧
 ∃ p52, t49.a = some p52 ∧ 0 ≤ t23 ∧ t23 < ((t49.l : Nat) : Int) ∧
 Wr w1_3 ((p52.add ((t23).toNat * 4)).add 2) ∧ ∀ w1_4, w1_4 = w1_3.setCell ((p52.add ((t23).toNat * 4)).add 2) (.int .i64 t43) →
 ∃ p55, x0 = some p55 ∧
 ∃ t57 : Sl, Ld w1_4 (p55.add 0) (.slice t57.a t57.l t57.c) ∧
 ∃ p60, t57.a = some p60 ∧ 0 ≤ t23 ∧ t23 < ((t57.l : Nat) : Int) ∧
 Wr w1_4 ((p60.add ((t23).toNat * 4)).add 1) ∧ ∀ w1_5, w1_5 = w1_4.setCell ((p60.add ((t23).toNat * 4)).add 1) (.int .i64 x2) →
 Q (.int .i64 0) w1_5))
 (∃ p63, x0 = some p63 ∧
 ∃ t65 : Sl, Ld w1_2 (p63.add 0) (.slice t65.a t65.l t65.c) ∧
 IfB (decide (((t65.l : Nat) : Int) ≥ (4 : Int)))
 (Q (.int .i64 3) w1_2)
 (∃ (I : Nat → Sl → Bool → Int → World → Prop) (n0 : Nat), I n0 (⟨none, 0, 0⟩ : Sl) false (0 : Int) w1_2 ∧
 ∀ (n : Nat) (u_1 : Env) (x9 : Sl) (x10 : Bool) (x11 : Int) (w1_3 : World), I n x9 x10 x11 w1_3 →
 ∃ p70, x0 = some p70 ∧
 ∃ t72 : Sl, Ld w1_3 (p70.add 0) (.slice t72.a t72.l t72.c) ∧
 IfB (decide (x11 < ((t72.l : Nat) : Int)))
 (∃ J_1 : Sl → Bool → World → Prop, (IfB (!x10)
 (∃ p82, x0 = some p82 ∧
 ∃ t84 : Sl, Ld w1_3 (p82.add 0) (.slice t84.a t84.l t84.c) ∧
 ∃ p86, t84.a = some p86 ∧ 0 ≤ x11 ∧ x11 < ((t84.l : Nat) : Int) ∧
 ∃ t88 : ByteArray, Ld w1_3 ((p86.add ((x11).toNat * 4)).add 0) (.string t88) ∧
 IfB (Op.bytesLess x1.toList t88.toList)
 (∃ t94 : Array Value, BuildIs prog 50 #[(0, .string x1), (1, .int .i64 x2)] t94 ∧
 RunT prog .slice (Instr.buildSlice 41 1 #[(0, .agg t94)]) w1_3 fun (t95 : Sl) w1_4 =>
 RunT prog .slice (Builtin.append_ #[41, 41] 41 #[.slice x9.a x9.l x9.c, .slice t95.a t95.l t95.c]) w1_4 fun (t96 : Sl) w1_5 =>
 J_1 t96 true w1_5)
 (J_1 x9 x10 w1_3))
 (J_1 x9 x10 w1_3)) ∧
 (∀ (u_2 : Env) (x9_1 : Sl) (x10_1 : Bool) (w1_4 : World), J_1 x9_1 x10_1 w1_4 →
 ∃ p99, x0 = some p99 ∧
 ∃ t101 : Sl, Ld w1_4 (p99.add 0) (.slice t101.a t101.l t101.c) ∧
 ∃ p103, t101.a = some p103 ∧ 0 ≤ x11 ∧ x11 < ((t101.l : Nat) : Int) ∧
 ∃ t104 : Array Value, LdA w1_4 (p103.add ((x11).toNat * 4)) 4 t104 ∧
 RunT prog .slice (Instr.buildSlice 41 1 #[(0, .agg t104)]) w1_4 fun (t105 : Sl) w1_5 =>
 RunT prog .slice (Builtin.append_ #[41, 41] 41 #[.slice x9_1.a x9_1.l x9_1.c, .slice t105.a t105.l t105.c]) w1_5 fun (t106 : Sl) w1_6 =>
 ∃ n', n' < n ∧ I n' t106 x10_1 (IntKind.wrap .i64 (x11 + (1 : Int))) w1_6))
 (IfB (!x10)
 (∃ t112 : Array Value, BuildIs prog 50 #[(0, .string x1), (1, .int .i64 x2)] t112 ∧
 RunT prog .slice (Instr.buildSlice 41 1 #[(0, .agg t112)]) w1_3 fun (t113 : Sl) w1_4 =>
 RunT prog .slice (Builtin.append_ #[41, 41] 41 #[.slice x9.a x9.l x9.c, .slice t113.a t113.l t113.c]) w1_4 fun (t114 : Sl) w1_5 =>
 ∃ p117, x0 = some p117 ∧
 Wr w1_5 (p117.add 0) ∧ ∀ w1_6, w1_6 = w1_5.setCell (p117.add 0) (.slice t114.a t114.l t114.c) →
 Q (.int .i64 0) w1_6)
 (∃ p117, x0 = some p117 ∧
 Wr w1_3 (p117.add 0) ∧ ∀ w1_4, w1_4 = w1_3.setCell (p117.add 0) (.slice x9.a x9.l x9.c) →
 Q (.int .i64 0) w1_4)))))))
def an23 : Ann := { cut := fun i => bif Nat.beq i 4 then some [(20, .bool)] else bif Nat.beq i 23 then some [(9, .slice), (10, .bool)] else none, loop := fun i => bif Nat.beq i 18 then [(9, .slice), (10, .bool), (11, .int .i64)] else [] }
theorem eq23 (x0 : Option Addr) (x1 : ByteArray) (x2 : Int) (w : World) (Q : Value → World → Prop) : F23 x0 x1 x2 w Q = vc prog an23 (Try.f23.body.getD .skip) (envOf [.pointer x0, .string x1, .int .i64 x2]) w (retK prog Try.f23 Q) := by kernel_rfl
theorem ok23 : codeOk Try.f23.ntmps (Try.f23.body.getD .skip) = true := by kernel_rfl
theorem W23 {x0 : Option Addr} {x1 : ByteArray} {x2 : Int} {w : World} {Q : Value → World → Prop} (h : F23 x0 x1 x2 w Q) : Calls prog 23 #[.pointer x0, .string x1, .int .i64 x2] w fun en w' => ∃ v, en = .returned v ∧ Q v w' :=
  calls_of_vc good follows an23 (args := [.pointer x0, .string x1, .int .i64 x2]) Try.func23 (by kernel_rfl) ok23 (of_decide_eq_true (by kernel_rfl)) (Eq.mp (eq23 x0 x1 x2 w Q) h)

/-- (*bastion/bastionref24.Shares).Drop -/
def F24 (x0 : Option Addr) (x1 : ByteArray) (w : World) (Q : Value → World → Prop) : Prop :=
 Calls prog 31 #[.pointer x0, .string x1] w fun en w1 =>
 ∃ t10 : Int, en = .returned (.int .i64 t10) ∧
 IfB (decide (t10 < (0 : Int)))
 (Q (.int .i64 5) w1)
 (∃ (I : Nat → Sl → Int → World → Prop) (n0 : Nat), I n0 (⟨none, 0, 0⟩ : Sl) (0 : Int) w1 ∧
 ∀ (n : Nat) (u : Env) (x6 : Sl) (x7 : Int) (w1_1 : World), I n x6 x7 w1_1 →
 ∃ p15, x0 = some p15 ∧
 ∃ t17 : Sl, Ld w1_1 (p15.add 0) (.slice t17.a t17.l t17.c) ∧
 IfB (decide (x7 < ((t17.l : Nat) : Int)))
 (IfB (x7 != t10)
 (∃ p27, x0 = some p27 ∧
 ∃ t29 : Sl, Ld w1_1 (p27.add 0) (.slice t29.a t29.l t29.c) ∧
 ∃ p31, t29.a = some p31 ∧ 0 ≤ x7 ∧ x7 < ((t29.l : Nat) : Int) ∧
 ∃ t32 : Array Value, LdA w1_1 (p31.add ((x7).toNat * 4)) 4 t32 ∧
 RunT prog .slice (Instr.buildSlice 41 1 #[(0, .agg t32)]) w1_1 fun (t33 : Sl) w1_2 =>
 RunT prog .slice (Builtin.append_ #[41, 41] 41 #[.slice x6.a x6.l x6.c, .slice t33.a t33.l t33.c]) w1_2 fun (t34 : Sl) w1_3 =>
 ∃ n', n' < n ∧ I n' t34 (IntKind.wrap .i64 (x7 + (1 : Int))) w1_3)
 (∃ n', n' < n ∧ I n' x6 (IntKind.wrap .i64 (x7 + (1 : Int))) w1_1))
 (∃ p37, x0 = some p37 ∧
 Wr w1_1 (p37.add 0) ∧ ∀ w1_2, w1_2 = w1_1.setCell (p37.add 0) (.slice x6.a x6.l x6.c) →
 Q (.int .i64 0) w1_2))
def an24 : Ann := { cut := fun i => none, loop := fun i => bif Nat.beq i 6 then [(6, .slice), (7, .int .i64)] else [] }
theorem eq24 (x0 : Option Addr) (x1 : ByteArray) (w : World) (Q : Value → World → Prop) : F24 x0 x1 w Q = vc prog an24 (Try.f24.body.getD .skip) (envOf [.pointer x0, .string x1]) w (retK prog Try.f24 Q) := by kernel_rfl
theorem ok24 : codeOk Try.f24.ntmps (Try.f24.body.getD .skip) = true := by kernel_rfl
theorem W24 {x0 : Option Addr} {x1 : ByteArray} {w : World} {Q : Value → World → Prop} (h : F24 x0 x1 w Q) : Calls prog 24 #[.pointer x0, .string x1] w fun en w' => ∃ v, en = .returned v ∧ Q v w' :=
  calls_of_vc good follows an24 (args := [.pointer x0, .string x1]) Try.func24 (by kernel_rfl) ok24 (of_decide_eq_true (by kernel_rfl)) (Eq.mp (eq24 x0 x1 w Q) h)

/-- (*bastion/bastionref24.Shares).Charge -/
def F25 (x0 : Option Addr) (x1 : ByteArray) (x2 : Int) (w : World) (Q : Value → World → Prop) : Prop :=
 Calls prog 31 #[.pointer x0, .string x1] w fun en w1 =>
 ∃ t10 : Int, en = .returned (.int .i64 t10) ∧
 IfB (decide (t10 < (0 : Int)))
 (Q (.int .i64 5) w1)
 (IfB (decide (x2 < (0 : Int)))
 (Q (.int .i64 1) w1)
 (∃ p17, x0 = some p17 ∧
 ∃ t19 : Sl, Ld w1 (p17.add 0) (.slice t19.a t19.l t19.c) ∧
 ∃ p21, t19.a = some p21 ∧ 0 ≤ t10 ∧ t10 < ((t19.l : Nat) : Int) ∧
 ∃ t23 : Int, Ld w1 ((p21.add ((t10).toNat * 4)).add 2) (.int .i64 t23) ∧
 IfB (decide (x2 > IntKind.wrap .i64 ((2147483647 : Int) - t23)))
 (Q (.int .i64 70) w1)
 (∃ S : World → Prop, S w1.drew ∧
 ∃ p27, x0 = some p27 ∧
 ∃ t29 : Sl, (∀ w', S w' → Ld w' (p27.add 0) (.slice t29.a t29.l t29.c)) ∧
 ∃ p32, x0 = some p32 ∧
 ∃ t34 : Sl, (∀ w', S w' → Ld w' (p32.add 0) (.slice t34.a t34.l t34.c)) ∧
 ∃ p36, t34.a = some p36 ∧ 0 ≤ t10 ∧ t10 < ((t34.l : Nat) : Int) ∧
 ∃ t38 : Int, (∀ w', S w' → Ld w' ((p36.add ((t10).toNat * 4)).add 2) (.int .i64 t38)) ∧
 ∃ p41, t29.a = some p41 ∧ 0 ≤ t10 ∧ t10 < ((t29.l : Nat) : Int) ∧
 Wr w1.drew ((p41.add ((t10).toNat * 4)).add 2) ∧ ∀ w1_1, w1_1 = w1.drew.setCell ((p41.add ((t10).toNat * 4)).add 2) (.int .i64 (IntKind.wrap .i64 (t38 + x2))) →
 Q (.int .i64 0) w1_1)))
def an25 : Ann := { cut := fun i => none, loop := fun i => [] }
theorem eq25 (x0 : Option Addr) (x1 : ByteArray) (x2 : Int) (w : World) (Q : Value → World → Prop) : F25 x0 x1 x2 w Q = vc prog an25 (Try.f25.body.getD .skip) (envOf [.pointer x0, .string x1, .int .i64 x2]) w (retK prog Try.f25 Q) := by kernel_rfl
theorem ok25 : codeOk Try.f25.ntmps (Try.f25.body.getD .skip) = true := by kernel_rfl
theorem W25 {x0 : Option Addr} {x1 : ByteArray} {x2 : Int} {w : World} {Q : Value → World → Prop} (h : F25 x0 x1 x2 w Q) : Calls prog 25 #[.pointer x0, .string x1, .int .i64 x2] w fun en w' => ∃ v, en = .returned v ∧ Q v w' :=
  calls_of_vc good follows an25 (args := [.pointer x0, .string x1, .int .i64 x2]) Try.func25 (by kernel_rfl) ok25 (of_decide_eq_true (by kernel_rfl)) (Eq.mp (eq25 x0 x1 x2 w Q) h)

/-- bastion/bastionlaw24.copied -/
def F26 (x0 : Sl) (w : World) (Q : Value → World → Prop) : Prop :=
 RunT prog .slice (Instr.buildSlice 28 0 #[]) w fun (t3 : Sl) w1 =>
 RunT prog .slice (Builtin.append_ #[28, 28] 28 #[.slice t3.a t3.l t3.c, .slice x0.a x0.l x0.c]) w1 fun (t5 : Sl) w1_1 =>
 Q (.slice t5.a t5.l t5.c) w1_1
def an26 : Ann := { cut := fun i => none, loop := fun i => [] }
theorem eq26 (x0 : Sl) (w : World) (Q : Value → World → Prop) : F26 x0 w Q = vc prog an26 (Try.f26.body.getD .skip) (envOf [.slice x0.a x0.l x0.c]) w (retK prog Try.f26 Q) := by kernel_rfl
theorem ok26 : codeOk Try.f26.ntmps (Try.f26.body.getD .skip) = true := by kernel_rfl
theorem W26 {x0 : Sl} {w : World} {Q : Value → World → Prop} (h : F26 x0 w Q) : Calls prog 26 #[.slice x0.a x0.l x0.c] w fun en w' => ∃ v, en = .returned v ∧ Q v w' :=
  calls_of_vc good follows an26 (args := [.slice x0.a x0.l x0.c]) Try.func26 (by kernel_rfl) ok26 (of_decide_eq_true (by kernel_rfl)) (Eq.mp (eq26 x0 w Q) h)

/-- (*bastion/bastionref24.Shares).least -/
def F59 (x0 : Option Addr) (x1 : Sl) (w : World) (Q : Value → World → Prop) : Prop :=
 ∃ (I : Nat → Int → Int → World → Prop) (n0 : Nat), I n0 (-1 : Int) (0 : Int) w ∧
 ∀ (n : Nat) (u : Env) (x5 : Int) (x6 : Int) (w1 : World), I n x5 x6 w1 →
 ∃ p9, x0 = some p9 ∧
 ∃ t11 : Sl, Ld w1 (p9.add 0) (.slice t11.a t11.l t11.c) ∧
 IfB (decide (x6 < ((t11.l : Nat) : Int)))
 (∃ p18, x1.a = some p18 ∧ 0 ≤ x6 ∧ x6 < ((x1.l : Nat) : Int) ∧
 ∃ t19 : Bool, Ld w1.drew (p18.add ((x6).toNat * 1)) (.bool t19) ∧
 IfB t19
 (IfB (decide (x5 < (0 : Int)))
 (∃ n', n' < n ∧ I n' x6 (IntKind.wrap .i64 (x6 + (1 : Int))) w1.drew)
 (∃ p25, x0 = some p25 ∧
 ∃ t27 : Sl, Ld w1.drew (p25.add 0) (.slice t27.a t27.l t27.c) ∧
 ∃ p29, t27.a = some p29 ∧ 0 ≤ x6 ∧ x6 < ((t27.l : Nat) : Int) ∧
 ∃ t31 : Int, Ld w1.drew ((p29.add ((x6).toNat * 4)).add 2) (.int .i64 t31) ∧
 ∃ p33, x0 = some p33 ∧
 ∃ t35 : Sl, Ld w1.drew (p33.add 0) (.slice t35.a t35.l t35.c) ∧
 ∃ p37, t35.a = some p37 ∧ 0 ≤ x5 ∧ x5 < ((t35.l : Nat) : Int) ∧
 ∃ t39 : Int, Ld w1.drew ((p37.add ((x5).toNat * 4)).add 1) (.int .i64 t39) ∧
 ∃ p42, x0 = some p42 ∧
 ∃ t44 : Sl, Ld w1.drew (p42.add 0) (.slice t44.a t44.l t44.c) ∧
 ∃ p46, t44.a = some p46 ∧ 0 ≤ x5 ∧ x5 < ((t44.l : Nat) : Int) ∧
 ∃ t48 : Int, Ld w1.drew ((p46.add ((x5).toNat * 4)).add 2) (.int .i64 t48) ∧
 ∃ p50, x0 = some p50 ∧
 ∃ t52 : Sl, Ld w1.drew (p50.add 0) (.slice t52.a t52.l t52.c) ∧
 ∃ p54, t52.a = some p54 ∧ 0 ≤ x6 ∧ x6 < ((t52.l : Nat) : Int) ∧
 ∃ t56 : Int, Ld w1.drew ((p54.add ((x6).toNat * 4)).add 1) (.int .i64 t56) ∧
 IfB (decide (IntKind.wrap .i64 (t31 * t39) < IntKind.wrap .i64 (t48 * t56)))
 (∃ n', n' < n ∧ I n' x6 (IntKind.wrap .i64 (x6 + (1 : Int))) w1.drew)
 (∃ n', n' < n ∧ I n' x5 (IntKind.wrap .i64 (x6 + (1 : Int))) w1.drew)))
 (∃ n', n' < n ∧ I n' x5 (IntKind.wrap .i64 (x6 + (1 : Int))) w1.drew))
 (Q (.int .i64 x5) w1)
def an59 : Ann := { cut := fun i => none, loop := fun i => bif Nat.beq i 3 then [(5, .int .i64), (6, .int .i64)] else [] }
theorem eq59 (x0 : Option Addr) (x1 : Sl) (w : World) (Q : Value → World → Prop) : F59 x0 x1 w Q = vc prog an59 (Try.f59.body.getD .skip) (envOf [.pointer x0, .slice x1.a x1.l x1.c]) w (retK prog Try.f59 Q) := by kernel_rfl
theorem ok59 : codeOk Try.f59.ntmps (Try.f59.body.getD .skip) = true := by kernel_rfl
theorem W59 {x0 : Option Addr} {x1 : Sl} {w : World} {Q : Value → World → Prop} (h : F59 x0 x1 w Q) : Calls prog 59 #[.pointer x0, .slice x1.a x1.l x1.c] w fun en w' => ∃ v, en = .returned v ∧ Q v w' :=
  calls_of_vc good follows an59 (args := [.pointer x0, .slice x1.a x1.l x1.c]) Try.func59 (by kernel_rfl) ok59 (of_decide_eq_true (by kernel_rfl)) (Eq.mp (eq59 x0 x1 w Q) h)

/-- (*bastion/bastionref24.Shares).Next -/
def F27 (x0 : Option Addr) (x1 : Sl) (w : World) (Q : Value → World → Prop) : Prop :=
 ∃ p14, x0 = some p14 ∧
 ∃ t16 : Sl, Ld w (p14.add 0) (.slice t16.a t16.l t16.c) ∧
 RunT prog .slice (Instr.makeSlice 97 (.int .i64 ((t16.l : Nat) : Int)) (.int .i64 ((t16.l : Nat) : Int))) w fun (t18 : Sl) w1 =>
 ∃ p20, x0 = some p20 ∧
 ∃ t22 : Sl, Ld w1 (p20.add 0) (.slice t22.a t22.l t22.c) ∧
 RunT prog .slice (Instr.makeSlice 97 (.int .i64 ((t22.l : Nat) : Int)) (.int .i64 ((t22.l : Nat) : Int))) w1 fun (t24 : Sl) w1_1 =>
 ∃ (I : Nat → Int → World → Prop) (n0 : Nat), I n0 (0 : Int) w1_1 ∧
 ∀ (n : Nat) (u : Env) (x8 : Int) (w1_2 : World), I n x8 w1_2 →
 IfB (decide (x8 < ((x1.l : Nat) : Int)))
 (∃ p34, x1.a = some p34 ∧ 0 ≤ x8 ∧ x8 < ((x1.l : Nat) : Int) ∧
 ∃ t35 : ByteArray, Ld w1_2 (p34.add ((x8).toNat * 1)) (.string t35) ∧
 Calls prog 31 #[.pointer x0, .string t35] w1_2 fun en w1_3 =>
 ∃ t36 : Int, en = .returned (.int .i64 t36) ∧
 IfB (decide (t36 ≥ (0 : Int)))
 (∃ p41, t18.a = some p41 ∧ 0 ≤ t36 ∧ t36 < ((t18.l : Nat) : Int) ∧
 Wr w1_3 (p41.add ((t36).toNat * 1)) ∧ ∀ w1_4, w1_4 = w1_3.setCell (p41.add ((t36).toNat * 1)) (.bool true) →
 ∃ p45, x0 = some p45 ∧
 ∃ t47 : Sl, Ld w1_4 (p45.add 0) (.slice t47.a t47.l t47.c) ∧
 ∃ p49, t47.a = some p49 ∧ 0 ≤ t36 ∧ t36 < ((t47.l : Nat) : Int) ∧
 ∃ t51 : Bool, Ld w1_4 ((p49.add ((t36).toNat * 4)).add 3) (.bool t51) ∧
 ∃ p52, t24.a = some p52 ∧ 0 ≤ t36 ∧ t36 < ((t24.l : Nat) : Int) ∧
 Wr w1_4 (p52.add ((t36).toNat * 1)) ∧ ∀ w1_5, w1_5 = w1_4.setCell (p52.add ((t36).toNat * 1)) (.bool t51) →
 ∃ n', n' < n ∧ I n' (IntKind.wrap .i64 (x8 + (1 : Int))) w1_5)
 (∃ n', n' < n ∧ I n' (IntKind.wrap .i64 (x8 + (1 : Int))) w1_3))
 (Calls prog 59 #[.pointer x0, .slice t18.a t18.l t18.c] w1_2 fun en w1_3 =>
 ∃ t55 : Int, en = .returned (.int .i64 t55) ∧
 IfB (decide (t55 < (0 : Int)))
 (Q (.tuple #[.string (⟨#[]⟩ : ByteArray), .int .i64 5]) w1_3)
 (Calls prog 59 #[.pointer x0, .slice t24.a t24.l t24.c] w1_3 fun en w1_4 =>
 ∃ t59 : Int, en = .returned (.int .i64 t59) ∧
 ∃ J : World → Prop, (∃ (I_1 : Nat → Int → World → Prop) (n0_1 : Nat), I_1 n0_1 (0 : Int) w1_4 ∧
 ∀ (n_1 : Nat) (u_1 : Env) (x11 : Int) (w1_5 : World), I_1 n_1 x11 w1_5 →
 ∃ J_1 : World → Prop, (∃ p62, x0 = some p62 ∧
 ∃ t64 : Sl, Ld w1_5 (p62.add 0) (.slice t64.a t64.l t64.c) ∧
 IfB (decide (x11 < ((t64.l : Nat) : Int)))
 (IfB (decide (t59 ≥ (0 : Int)))
 (J_1  w1_5)
 (J  w1_5))
 (J  w1_5)) ∧
 (∀ (u_2 : Env) (w1_6 : World), J_1  w1_6 →
 ∃ J_2 : Bool → World → Prop, (∃ p75, t18.a = some p75 ∧ 0 ≤ x11 ∧ x11 < ((t18.l : Nat) : Int) ∧
 ∃ t76 : Bool, Ld w1_6.drew (p75.add ((x11).toNat * 1)) (.bool t76) ∧
 IfB t76
 (∃ p80, t24.a = some p80 ∧ 0 ≤ x11 ∧ x11 < ((t24.l : Nat) : Int) ∧
 ∃ t81 : Bool, Ld w1_6.drew (p80.add ((x11).toNat * 1)) (.bool t81) ∧
 IfB (!t81)
 (∃ p86, x0 = some p86 ∧
 ∃ t88 : Sl, Ld w1_6.drew (p86.add 0) (.slice t88.a t88.l t88.c) ∧
 ∃ p90, t88.a = some p90 ∧ 0 ≤ x11 ∧ x11 < ((t88.l : Nat) : Int) ∧
 ∃ t92 : Int, Ld w1_6.drew ((p90.add ((x11).toNat * 4)).add 2) (.int .i64 t92) ∧
 ∃ p94, x0 = some p94 ∧
 ∃ t96 : Sl, Ld w1_6.drew (p94.add 0) (.slice t96.a t96.l t96.c) ∧
 ∃ p98, t96.a = some p98 ∧ 0 ≤ t59 ∧ t59 < ((t96.l : Nat) : Int) ∧
 ∃ t100 : Int, Ld w1_6.drew ((p98.add ((t59).toNat * 4)).add 1) (.int .i64 t100) ∧
 ∃ p103, x0 = some p103 ∧
 ∃ t105 : Sl, Ld w1_6.drew (p103.add 0) (.slice t105.a t105.l t105.c) ∧
 ∃ p107, t105.a = some p107 ∧ 0 ≤ t59 ∧ t59 < ((t105.l : Nat) : Int) ∧
 ∃ t109 : Int, Ld w1_6.drew ((p107.add ((t59).toNat * 4)).add 2) (.int .i64 t109) ∧
 ∃ p111, x0 = some p111 ∧
 ∃ t113 : Sl, Ld w1_6.drew (p111.add 0) (.slice t113.a t113.l t113.c) ∧
 ∃ p115, t113.a = some p115 ∧ 0 ≤ x11 ∧ x11 < ((t113.l : Nat) : Int) ∧
 ∃ t117 : Int, Ld w1_6.drew ((p115.add ((x11).toNat * 4)).add 1) (.int .i64 t117) ∧
 J_2 (decide (IntKind.wrap .i64 (t92 * t100) < IntKind.wrap .i64 (t109 * t117))) w1_6.drew)
 (J_2 false w1_6.drew))
 (J_2 false w1_6.drew)) ∧
 (∀ (u_3 : Env) (x120 : Bool) (w1_7 : World), J_2 x120 w1_7 →
 IfB x120
 (∃ S : World → Prop, S w1_7.drew ∧
 ∃ p122, x0 = some p122 ∧
 ∃ t124 : Sl, (∀ w', S w' → Ld w' (p122.add 0) (.slice t124.a t124.l t124.c)) ∧
 ∃ p127, x0 = some p127 ∧
 ∃ t129 : Sl, (∀ w', S w' → Ld w' (p127.add 0) (.slice t129.a t129.l t129.c)) ∧
 ∃ p131, t129.a = some p131 ∧ 0 ≤ t59 ∧ t59 < ((t129.l : Nat) : Int) ∧
 ∃ t133 : Int, (∀ w', S w' → Ld w' ((p131.add ((t59).toNat * 4)).add 2) (.int .i64 t133)) ∧
 ∃ p135, x0 = some p135 ∧
 ∃ t137 : Sl, (∀ w', S w' → Ld w' (p135.add 0) (.slice t137.a t137.l t137.c)) ∧
 ∃ p139, t137.a = some p139 ∧ 0 ≤ t59 ∧ t59 < ((t137.l : Nat) : Int) ∧
 ∃ t141 : Int, (∀ w', S w' → Ld w' ((p139.add ((t59).toNat * 4)).add 1) (.int .i64 t141)) ∧
 ∃ p143, x0 = some p143 ∧
 ∃ t145 : Sl, (∀ w', S w' → Ld w' (p143.add 0) (.slice t145.a t145.l t145.c)) ∧
 ∃ p147, t145.a = some p147 ∧ 0 ≤ x11 ∧ x11 < ((t145.l : Nat) : Int) ∧
 ∃ t149 : Int, (∀ w', S w' → Ld w' ((p147.add ((x11).toNat * 4)).add 1) (.int .i64 t149)) ∧
 Calls prog 58 #[.int .i64 t133, .int .i64 t141, .int .i64 t149] w1_7.drew fun en w1_8 =>
 ∃ t150 : Int, en = .returned (.int .i64 t150) ∧
 S w1_8 ∧
 ∃ p152, t124.a = some p152 ∧ 0 ≤ x11 ∧ x11 < ((t124.l : Nat) : Int) ∧
 Wr w1_8 ((p152.add ((x11).toNat * 4)).add 2) ∧ ∀ w1_9, w1_9 = w1_8.setCell ((p152.add ((x11).toNat * 4)).add 2) (.int .i64 (if (2147483647 : Int) < t150 then (2147483647 : Int) else t150)) →
 ∃ n', n' < n_1 ∧ I_1 n' (IntKind.wrap .i64 (x11 + (1 : Int))) w1_9)
 (∃ n', n' < n_1 ∧ I_1 n' (IntKind.wrap .i64 (x11 + (1 : Int))) w1_7)))) ∧
 (∀ (u_1 : Env) (w1_5 : World), J  w1_5 →
 ∃ (I_1 : Nat → Int → World → Prop) (n0_1 : Nat), I_1 n0_1 (0 : Int) w1_5 ∧
 ∀ (n_1 : Nat) (u_2 : Env) (x12 : Int) (w1_6 : World), I_1 n_1 x12 w1_6 →
 ∃ p156, x0 = some p156 ∧
 ∃ t158 : Sl, Ld w1_6 (p156.add 0) (.slice t158.a t158.l t158.c) ∧
 IfB (decide (x12 < ((t158.l : Nat) : Int)))
 (∃ S : World → Prop, S w1_6.drew ∧
 ∃ p164, x0 = some p164 ∧
 ∃ t166 : Sl, (∀ w', S w' → Ld w' (p164.add 0) (.slice t166.a t166.l t166.c)) ∧
 ∃ p170, t18.a = some p170 ∧ 0 ≤ x12 ∧ x12 < ((t18.l : Nat) : Int) ∧
 ∃ t171 : Bool, (∀ w', S w' → Ld w' (p170.add ((x12).toNat * 1)) (.bool t171)) ∧
 ∃ p172, t166.a = some p172 ∧ 0 ≤ x12 ∧ x12 < ((t166.l : Nat) : Int) ∧
 Wr w1_6.drew ((p172.add ((x12).toNat * 4)).add 3) ∧ ∀ w1_7, w1_7 = w1_6.drew.setCell ((p172.add ((x12).toNat * 4)).add 3) (.bool t171) →
 ∃ n', n' < n_1 ∧ I_1 n' (IntKind.wrap .i64 (x12 + (1 : Int))) w1_7)
 (∃ S : World → Prop, S w1_6.drew ∧
 ∃ p175, x0 = some p175 ∧
 ∃ t177 : Sl, (∀ w', S w' → Ld w' (p175.add 0) (.slice t177.a t177.l t177.c)) ∧
 Calls prog 59 #[.pointer x0, .slice t18.a t18.l t18.c] w1_6.drew fun en w1_7 =>
 ∃ t180 : Int, en = .returned (.int .i64 t180) ∧
 ∃ S_1 : World → Prop, (∀ w', S_1 w' → S w') ∧ S_1 w1_7 ∧
 ∃ p181, t177.a = some p181 ∧ 0 ≤ t180 ∧ t180 < ((t177.l : Nat) : Int) ∧
 ∃ t183 : ByteArray, (∀ w', S_1 w' → Ld w' ((p181.add ((t180).toNat * 4)).add 0) (.string t183)) ∧
 Q (.tuple #[.string t183, .int .i64 0]) w1_7))))
def an27 : Ann := { cut := fun i => bif Nat.beq i 16 then some [] else bif Nat.beq i 17 then some [(120, .bool)] else bif Nat.beq i 18 then some [] else none, loop := fun i => bif Nat.beq i 4 then [(8, .int .i64)] else bif Nat.beq i 14 then [(11, .int .i64)] else bif Nat.beq i 19 then [(12, .int .i64)] else [] }
theorem eq27 (x0 : Option Addr) (x1 : Sl) (w : World) (Q : Value → World → Prop) : F27 x0 x1 w Q = vc prog an27 (Try.f27.body.getD .skip) (envOf [.pointer x0, .slice x1.a x1.l x1.c]) w (retK prog Try.f27 Q) := by kernel_rfl
theorem ok27 : codeOk Try.f27.ntmps (Try.f27.body.getD .skip) = true := by kernel_rfl
theorem W27 {x0 : Option Addr} {x1 : Sl} {w : World} {Q : Value → World → Prop} (h : F27 x0 x1 w Q) : Calls prog 27 #[.pointer x0, .slice x1.a x1.l x1.c] w fun en w' => ∃ v, en = .returned v ∧ Q v w' :=
  calls_of_vc good follows an27 (args := [.pointer x0, .slice x1.a x1.l x1.c]) Try.func27 (by kernel_rfl) ok27 (of_decide_eq_true (by kernel_rfl)) (Eq.mp (eq27 x0 x1 w Q) h)

/-- bastion/bastionlaw24.texts -/
def F28 (x0 : Sl) (x1 : Sl) (w : World) (Q : Value → World → Prop) : Prop :=
 IfB (((x0.l : Nat) : Int) != ((x1.l : Nat) : Int))
 (Q (.bool false) w)
 (∃ (I : Nat → Int → World → Prop) (n0 : Nat), I n0 (0 : Int) w ∧
 ∀ (n : Nat) (u : Env) (x5 : Int) (w1 : World), I n x5 w1 →
 IfB (decide (x5 < ((x0.l : Nat) : Int)))
 (∃ p19, x0.a = some p19 ∧ 0 ≤ x5 ∧ x5 < ((x0.l : Nat) : Int) ∧
 ∃ t20 : ByteArray, Ld w1.drew (p19.add ((x5).toNat * 1)) (.string t20) ∧
 ∃ p23, x1.a = some p23 ∧ 0 ≤ x5 ∧ x5 < ((x1.l : Nat) : Int) ∧
 ∃ t24 : ByteArray, Ld w1.drew (p23.add ((x5).toNat * 1)) (.string t24) ∧
 IfB (!(t20.toList == t24.toList))
 (Q (.bool false) w1.drew)
 (∃ n', n' < n ∧ I n' (IntKind.wrap .i64 (x5 + (1 : Int))) w1.drew))
 (Q (.bool true) w1))
def an28 : Ann := { cut := fun i => none, loop := fun i => bif Nat.beq i 4 then [(5, .int .i64)] else [] }
theorem eq28 (x0 : Sl) (x1 : Sl) (w : World) (Q : Value → World → Prop) : F28 x0 x1 w Q = vc prog an28 (Try.f28.body.getD .skip) (envOf [.slice x0.a x0.l x0.c, .slice x1.a x1.l x1.c]) w (retK prog Try.f28 Q) := by kernel_rfl
theorem ok28 : codeOk Try.f28.ntmps (Try.f28.body.getD .skip) = true := by kernel_rfl
theorem W28 {x0 : Sl} {x1 : Sl} {w : World} {Q : Value → World → Prop} (h : F28 x0 x1 w Q) : Calls prog 28 #[.slice x0.a x0.l x0.c, .slice x1.a x1.l x1.c] w fun en w' => ∃ v, en = .returned v ∧ Q v w' :=
  calls_of_vc good follows an28 (args := [.slice x0.a x0.l x0.c, .slice x1.a x1.l x1.c]) Try.func28 (by kernel_rfl) ok28 (of_decide_eq_true (by kernel_rfl)) (Eq.mp (eq28 x0 x1 w Q) h)

/-- (*bastion/bastionref24.Shares).Names -/
def F29 (x0 : Option Addr) (w : World) (Q : Value → World → Prop) : Prop :=
 ∃ (I : Nat → Sl → Int → World → Prop) (n0 : Nat), I n0 (⟨none, 0, 0⟩ : Sl) (0 : Int) w ∧
 ∀ (n : Nat) (u : Env) (x3 : Sl) (x4 : Int) (w1 : World), I n x3 x4 w1 →
 ∃ p7, x0 = some p7 ∧
 ∃ t9 : Sl, Ld w1 (p7.add 0) (.slice t9.a t9.l t9.c) ∧
 IfB (decide (x4 < ((t9.l : Nat) : Int)))
 (∃ p16, x0 = some p16 ∧
 ∃ t18 : Sl, Ld w1 (p16.add 0) (.slice t18.a t18.l t18.c) ∧
 ∃ p20, t18.a = some p20 ∧ 0 ≤ x4 ∧ x4 < ((t18.l : Nat) : Int) ∧
 ∃ t22 : ByteArray, Ld w1 ((p20.add ((x4).toNat * 4)).add 0) (.string t22) ∧
 RunT prog .slice (Instr.buildSlice 28 1 #[(0, .string t22)]) w1 fun (t23 : Sl) w1_1 =>
 RunT prog .slice (Builtin.append_ #[28, 28] 28 #[.slice x3.a x3.l x3.c, .slice t23.a t23.l t23.c]) w1_1 fun (t24 : Sl) w1_2 =>
 ∃ n', n' < n ∧ I n' t24 (IntKind.wrap .i64 (x4 + (1 : Int))) w1_2)
 (Q (.slice x3.a x3.l x3.c) w1)
def an29 : Ann := { cut := fun i => none, loop := fun i => bif Nat.beq i 3 then [(3, .slice), (4, .int .i64)] else [] }
theorem eq29 (x0 : Option Addr) (w : World) (Q : Value → World → Prop) : F29 x0 w Q = vc prog an29 (Try.f29.body.getD .skip) (envOf [.pointer x0]) w (retK prog Try.f29 Q) := by kernel_rfl
theorem ok29 : codeOk Try.f29.ntmps (Try.f29.body.getD .skip) = true := by kernel_rfl
theorem W29 {x0 : Option Addr} {w : World} {Q : Value → World → Prop} (h : F29 x0 w Q) : Calls prog 29 #[.pointer x0] w fun en w' => ∃ v, en = .returned v ∧ Q v w' :=
  calls_of_vc good follows an29 (args := [.pointer x0]) Try.func29 (by kernel_rfl) ok29 (of_decide_eq_true (by kernel_rfl)) (Eq.mp (eq29 x0 w Q) h)

/-- bastion/bastionref01.behind -/
def F88 (x0 : Sl) (x1 : ByteArray) (w : World) (Q : Value → World → Prop) : Prop :=
 ∃ (I : Nat → Sl → Int → World → Prop) (n0 : Nat), I n0 (⟨none, 0, 0⟩ : Sl) (0 : Int) w ∧
 ∀ (n : Nat) (u : Env) (x5 : Sl) (x6 : Int) (w1 : World), I n x5 x6 w1 →
 IfB (decide (x6 < ((x0.l : Nat) : Int)))
 (∃ p17, x0.a = some p17 ∧ 0 ≤ x6 ∧ x6 < ((x0.l : Nat) : Int) ∧
 ∃ t18 : Int, Ld w1 (p17.add ((x6).toNat * 1)) (.int .u8 t18) ∧
 RunT prog .slice (Instr.buildSlice 31 1 #[(0, .int .u8 t18)]) w1 fun (t19 : Sl) w1_1 =>
 RunT prog .slice (Builtin.append_ #[31, 31] 31 #[.slice x5.a x5.l x5.c, .slice t19.a t19.l t19.c]) w1_1 fun (t20 : Sl) w1_2 =>
 ∃ n', n' < n ∧ I n' t20 (IntKind.wrap .i64 (x6 + (1 : Int))) w1_2)
 (∃ (I_1 : Nat → Sl → Int → World → Prop) (n0_1 : Nat), I_1 n0_1 x5 (0 : Int) w1 ∧
 ∀ (n_1 : Nat) (u_1 : Env) (x5_1 : Sl) (x7 : Int) (w1_1 : World), I_1 n_1 x5_1 x7 w1_1 →
 IfB (decide (x7 < ((x1.size : Nat) : Int)))
 (0 ≤ x7 ∧ x7 < ((x1.size : Nat) : Int) ∧
 RunT prog .slice (Instr.buildSlice 31 1 #[(0, .int .u8 (bt x1 x7))]) w1_1 fun (t31 : Sl) w1_2 =>
 RunT prog .slice (Builtin.append_ #[31, 31] 31 #[.slice x5_1.a x5_1.l x5_1.c, .slice t31.a t31.l t31.c]) w1_2 fun (t32 : Sl) w1_3 =>
 ∃ n', n' < n_1 ∧ I_1 n' t32 (IntKind.wrap .i64 (x7 + (1 : Int))) w1_3)
 (Q (.slice x5_1.a x5_1.l x5_1.c) w1_1))
def an88 : Ann := { cut := fun i => none, loop := fun i => bif Nat.beq i 3 then [(5, .slice), (6, .int .i64)] else bif Nat.beq i 7 then [(5, .slice), (7, .int .i64)] else [] }
theorem eq88 (x0 : Sl) (x1 : ByteArray) (w : World) (Q : Value → World → Prop) : F88 x0 x1 w Q = vc prog an88 (Try.f88.body.getD .skip) (envOf [.slice x0.a x0.l x0.c, .string x1]) w (retK prog Try.f88 Q) := by kernel_rfl
theorem ok88 : codeOk Try.f88.ntmps (Try.f88.body.getD .skip) = true := by kernel_rfl
theorem W88 {x0 : Sl} {x1 : ByteArray} {w : World} {Q : Value → World → Prop} (h : F88 x0 x1 w Q) : Calls prog 88 #[.slice x0.a x0.l x0.c, .string x1] w fun en w' => ∃ v, en = .returned v ∧ Q v w' :=
  calls_of_vc good follows an88 (args := [.slice x0.a x0.l x0.c, .string x1]) Try.func88 (by kernel_rfl) ok88 (of_decide_eq_true (by kernel_rfl)) (Eq.mp (eq88 x0 x1 w Q) h)

/-- bastion/bastionref01.groups -/
def F89 (x0 : Int) (w : World) (Q : Value → World → Prop) : Prop :=
 IfB (decide (x0 < (128 : Int)))
 (RunT prog .slice (Instr.buildSlice 31 1 #[(0, .int .u8 (IntKind.wrap .u8 x0))]) w fun (t7 : Sl) w1 =>
 RunT prog .str (convert 31 9 (.slice t7.a t7.l t7.c)) w1 fun (t8 : ByteArray) w1_1 =>
 Q (.string t8) w1_1)
 ((128 : Int) ≠ 0 ∧
 (128 : Int) ≠ 0 ∧
 (RunT prog .slice (Instr.buildSlice 31 1 #[(0, .int .u8 (IntKind.wrap .u8 (IntKind.wrap .u64 ((128 : Int) + (Int.tmod x0 (128 : Int))))))]) w.drew fun (t13 : Sl) w1 =>
 (RunT prog .str (convert 31 9 (.slice t13.a t13.l t13.c)) w1 fun (t14 : ByteArray) w1_1 =>
 Calls prog 89 #[.int .u64 (IntKind.wrap .u64 (Int.tdiv x0 (128 : Int)))] w1_1 fun en w1_2 =>
 ∃ t17 : ByteArray, en = .returned (.string t17) ∧
 t14.size + t17.size ≤ 9223372036854775807 ∧
 Q (.string (t14 ++ t17)) w1_2) ∧
 (Calls prog 89 #[.int .u64 (IntKind.wrap .u64 (Int.tdiv x0 (128 : Int)))] w1 fun en w1_1 =>
 ∃ t17 : ByteArray, en = .returned (.string t17) ∧
 RunT prog .str (convert 31 9 (.slice t13.a t13.l t13.c)) w1_1 fun (t14 : ByteArray) w1_2 =>
 t14.size + t17.size ≤ 9223372036854775807 ∧
 Q (.string (t14 ++ t17)) w1_2)) ∧
 (Calls prog 89 #[.int .u64 (IntKind.wrap .u64 (Int.tdiv x0 (128 : Int)))] w.drew fun en w1 =>
 ∃ t17 : ByteArray, en = .returned (.string t17) ∧
 RunT prog .slice (Instr.buildSlice 31 1 #[(0, .int .u8 (IntKind.wrap .u8 (IntKind.wrap .u64 ((128 : Int) + (Int.tmod x0 (128 : Int))))))]) w1 fun (t13 : Sl) w1_1 =>
 RunT prog .str (convert 31 9 (.slice t13.a t13.l t13.c)) w1_1 fun (t14 : ByteArray) w1_2 =>
 t14.size + t17.size ≤ 9223372036854775807 ∧
 Q (.string (t14 ++ t17)) w1_2))
def an89 : Ann := { cut := fun i => none, loop := fun i => [] }
theorem eq89 (x0 : Int) (w : World) (Q : Value → World → Prop) : F89 x0 w Q = vc prog an89 (Try.f89.body.getD .skip) (envOf [.int .u64 x0]) w (retK prog Try.f89 Q) := by kernel_rfl
theorem ok89 : codeOk Try.f89.ntmps (Try.f89.body.getD .skip) = true := by kernel_rfl
theorem W89 {x0 : Int} {w : World} {Q : Value → World → Prop} (h : F89 x0 w Q) : Calls prog 89 #[.int .u64 x0] w fun en w' => ∃ v, en = .returned v ∧ Q v w' :=
  calls_of_vc good follows an89 (args := [.int .u64 x0]) Try.func89 (by kernel_rfl) ok89 (of_decide_eq_true (by kernel_rfl)) (Eq.mp (eq89 x0 w Q) h)

/-- bastion/bastionref01.Count -/
def F60 (x0 : Sl) (x1 : Int) (w : World) (Q : Value → World → Prop) : Prop :=
 IfB (decide (x1 < (0 : Int)))
 (Calls prog 88 #[.slice x0.a x0.l x0.c, .string (⟨#[]⟩ : ByteArray)] w fun en w1 =>
 ∃ t12 : Sl, en = .returned (.slice t12.a t12.l t12.c) ∧
 Q (.slice t12.a t12.l t12.c) w1)
 (IfB (decide (x1 > (2147483647 : Int)))
 (Calls prog 88 #[.slice x0.a x0.l x0.c, .string (⟨#[]⟩ : ByteArray)] w fun en w1 =>
 ∃ t12 : Sl, en = .returned (.slice t12.a t12.l t12.c) ∧
 Q (.slice t12.a t12.l t12.c) w1)
 (Calls prog 89 #[.int .u64 (IntKind.wrap .u64 x1)] w fun en w1 =>
 ∃ t16 : ByteArray, en = .returned (.string t16) ∧
 Calls prog 88 #[.slice x0.a x0.l x0.c, .string t16] w1 fun en w1_1 =>
 ∃ t17 : Sl, en = .returned (.slice t17.a t17.l t17.c) ∧
 Q (.slice t17.a t17.l t17.c) w1_1))
def an60 : Ann := { cut := fun i => none, loop := fun i => [] }
theorem eq60 (x0 : Sl) (x1 : Int) (w : World) (Q : Value → World → Prop) : F60 x0 x1 w Q = vc prog an60 (Try.f60.body.getD .skip) (envOf [.slice x0.a x0.l x0.c, .int .i64 x1]) w (retK prog Try.f60 Q) := by kernel_rfl
theorem ok60 : codeOk Try.f60.ntmps (Try.f60.body.getD .skip) = true := by kernel_rfl
theorem W60 {x0 : Sl} {x1 : Int} {w : World} {Q : Value → World → Prop} (h : F60 x0 x1 w Q) : Calls prog 60 #[.slice x0.a x0.l x0.c, .int .i64 x1] w fun en w' => ∃ v, en = .returned v ∧ Q v w' :=
  calls_of_vc good follows an60 (args := [.slice x0.a x0.l x0.c, .int .i64 x1]) Try.func60 (by kernel_rfl) ok60 (of_decide_eq_true (by kernel_rfl)) (Eq.mp (eq60 x0 x1 w Q) h)

/-- bastion/bastionref01.Str -/
def F61 (x0 : Sl) (x1 : ByteArray) (w : World) (Q : Value → World → Prop) : Prop :=
 Calls prog 60 #[.slice x0.a x0.l x0.c, .int .i64 ((x1.size : Nat) : Int)] w fun en w1 =>
 ∃ t8 : Sl, en = .returned (.slice t8.a t8.l t8.c) ∧
 Calls prog 88 #[.slice t8.a t8.l t8.c, .string x1] w1 fun en w1_1 =>
 ∃ t10 : Sl, en = .returned (.slice t10.a t10.l t10.c) ∧
 Q (.slice t10.a t10.l t10.c) w1_1
def an61 : Ann := { cut := fun i => none, loop := fun i => [] }
theorem eq61 (x0 : Sl) (x1 : ByteArray) (w : World) (Q : Value → World → Prop) : F61 x0 x1 w Q = vc prog an61 (Try.f61.body.getD .skip) (envOf [.slice x0.a x0.l x0.c, .string x1]) w (retK prog Try.f61 Q) := by kernel_rfl
theorem ok61 : codeOk Try.f61.ntmps (Try.f61.body.getD .skip) = true := by kernel_rfl
theorem W61 {x0 : Sl} {x1 : ByteArray} {w : World} {Q : Value → World → Prop} (h : F61 x0 x1 w Q) : Calls prog 61 #[.slice x0.a x0.l x0.c, .string x1] w fun en w' => ∃ v, en = .returned v ∧ Q v w' :=
  calls_of_vc good follows an61 (args := [.slice x0.a x0.l x0.c, .string x1]) Try.func61 (by kernel_rfl) ok61 (of_decide_eq_true (by kernel_rfl)) (Eq.mp (eq61 x0 x1 w Q) h)

/-- bastion/bastionref01.Flag -/
def F62 (x0 : Sl) (x1 : Bool) (w : World) (Q : Value → World → Prop) : Prop :=
 IfB x1
 (Calls prog 88 #[.slice x0.a x0.l x0.c, .string (⟨#[1]⟩ : ByteArray)] w fun en w1 =>
 ∃ t7 : Sl, en = .returned (.slice t7.a t7.l t7.c) ∧
 Q (.slice t7.a t7.l t7.c) w1)
 (Calls prog 88 #[.slice x0.a x0.l x0.c, .string (⟨#[0]⟩ : ByteArray)] w fun en w1 =>
 ∃ t9 : Sl, en = .returned (.slice t9.a t9.l t9.c) ∧
 Q (.slice t9.a t9.l t9.c) w1)
def an62 : Ann := { cut := fun i => none, loop := fun i => [] }
theorem eq62 (x0 : Sl) (x1 : Bool) (w : World) (Q : Value → World → Prop) : F62 x0 x1 w Q = vc prog an62 (Try.f62.body.getD .skip) (envOf [.slice x0.a x0.l x0.c, .bool x1]) w (retK prog Try.f62 Q) := by kernel_rfl
theorem ok62 : codeOk Try.f62.ntmps (Try.f62.body.getD .skip) = true := by kernel_rfl
theorem W62 {x0 : Sl} {x1 : Bool} {w : World} {Q : Value → World → Prop} (h : F62 x0 x1 w Q) : Calls prog 62 #[.slice x0.a x0.l x0.c, .bool x1] w fun en w' => ∃ v, en = .returned v ∧ Q v w' :=
  calls_of_vc good follows an62 (args := [.slice x0.a x0.l x0.c, .bool x1]) Try.func62 (by kernel_rfl) ok62 (of_decide_eq_true (by kernel_rfl)) (Eq.mp (eq62 x0 x1 w Q) h)

/-- (*bastion/bastionref24.Shares).Save -/
def F30 (x0 : Option Addr) (w : World) (Q : Value → World → Prop) : Prop :=
 ∃ p6, x0 = some p6 ∧
 ∃ t8 : Sl, Ld w (p6.add 0) (.slice t8.a t8.l t8.c) ∧
 Calls prog 60 #[.slice none 0 0, .int .i64 ((t8.l : Nat) : Int)] w fun en w1 =>
 ∃ t10 : Sl, en = .returned (.slice t10.a t10.l t10.c) ∧
 ∃ (I : Nat → Sl → Int → World → Prop) (n0 : Nat), I n0 t10 (0 : Int) w1 ∧
 ∀ (n : Nat) (u : Env) (x3 : Sl) (x4 : Int) (w1_1 : World), I n x3 x4 w1_1 →
 ∃ p13, x0 = some p13 ∧
 ∃ t15 : Sl, Ld w1_1 (p13.add 0) (.slice t15.a t15.l t15.c) ∧
 IfB (decide (x4 < ((t15.l : Nat) : Int)))
 (∃ p22, x0 = some p22 ∧
 ∃ t24 : Sl, Ld w1_1 (p22.add 0) (.slice t24.a t24.l t24.c) ∧
 ∃ p26, t24.a = some p26 ∧ 0 ≤ x4 ∧ x4 < ((t24.l : Nat) : Int) ∧
 ∃ t28 : ByteArray, Ld w1_1 ((p26.add ((x4).toNat * 4)).add 0) (.string t28) ∧
 Calls prog 61 #[.slice x3.a x3.l x3.c, .string t28] w1_1 fun en w1_2 =>
 ∃ t29 : Sl, en = .returned (.slice t29.a t29.l t29.c) ∧
 ∃ p32, x0 = some p32 ∧
 ∃ t34 : Sl, Ld w1_2 (p32.add 0) (.slice t34.a t34.l t34.c) ∧
 ∃ p36, t34.a = some p36 ∧ 0 ≤ x4 ∧ x4 < ((t34.l : Nat) : Int) ∧
 ∃ t38 : Int, Ld w1_2 ((p36.add ((x4).toNat * 4)).add 1) (.int .i64 t38) ∧
 Calls prog 60 #[.slice t29.a t29.l t29.c, .int .i64 t38] w1_2 fun en w1_3 =>
 ∃ t39 : Sl, en = .returned (.slice t39.a t39.l t39.c) ∧
 ∃ p42, x0 = some p42 ∧
 ∃ t44 : Sl, Ld w1_3 (p42.add 0) (.slice t44.a t44.l t44.c) ∧
 ∃ p46, t44.a = some p46 ∧ 0 ≤ x4 ∧ x4 < ((t44.l : Nat) : Int) ∧
 ∃ t48 : Int, Ld w1_3 ((p46.add ((x4).toNat * 4)).add 2) (.int .i64 t48) ∧
 Calls prog 60 #[.slice t39.a t39.l t39.c, .int .i64 t48] w1_3 fun en w1_4 =>
 ∃ t49 : Sl, en = .returned (.slice t49.a t49.l t49.c) ∧
 ∃ p52, x0 = some p52 ∧
 ∃ t54 : Sl, Ld w1_4 (p52.add 0) (.slice t54.a t54.l t54.c) ∧
 ∃ p56, t54.a = some p56 ∧ 0 ≤ x4 ∧ x4 < ((t54.l : Nat) : Int) ∧
 ∃ t58 : Bool, Ld w1_4 ((p56.add ((x4).toNat * 4)).add 3) (.bool t58) ∧
 Calls prog 62 #[.slice t49.a t49.l t49.c, .bool t58] w1_4 fun en w1_5 =>
 ∃ t59 : Sl, en = .returned (.slice t59.a t59.l t59.c) ∧
 ∃ n', n' < n ∧ I n' t59 (IntKind.wrap .i64 (x4 + (1 : Int))) w1_5)
 (Q (.slice x3.a x3.l x3.c) w1_1)
def an30 : Ann := { cut := fun i => none, loop := fun i => bif Nat.beq i 3 then [(3, .slice), (4, .int .i64)] else [] }
theorem eq30 (x0 : Option Addr) (w : World) (Q : Value → World → Prop) : F30 x0 w Q = vc prog an30 (Try.f30.body.getD .skip) (envOf [.pointer x0]) w (retK prog Try.f30 Q) := by kernel_rfl
theorem ok30 : codeOk Try.f30.ntmps (Try.f30.body.getD .skip) = true := by kernel_rfl
theorem W30 {x0 : Option Addr} {w : World} {Q : Value → World → Prop} (h : F30 x0 w Q) : Calls prog 30 #[.pointer x0] w fun en w' => ∃ v, en = .returned v ∧ Q v w' :=
  calls_of_vc good follows an30 (args := [.pointer x0]) Try.func30 (by kernel_rfl) ok30 (of_decide_eq_true (by kernel_rfl)) (Eq.mp (eq30 x0 w Q) h)

/-- bastion/bastionlaw24.StridePlays -/
def F4 (x0 : Sl) (w : World) (Q : Value → World → Prop) : Prop :=
 Calls prog 22 #[.slice x0.a x0.l x0.c] w fun en w1 =>
 ∃ t26 : Bool, en = .returned (.bool t26) ∧
 IfB t26
 (Q (.bool true) w1)
 (Calls prog 12 #[] w1 fun en w1_1 =>
 ∃ t27 : Option Addr, en = .returned (.pointer t27) ∧
 ∃ t28 : Array Value, BuildIs prog 43 #[] t28 ∧
 ∀ b29 w1_2, NewB w1_1 (.cells t28 43) b29 w1_2 →
 ∃ (I : Nat → Option Addr → Int → World → Prop) (n0 : Nat), I n0 t27 (0 : Int) w1_2 ∧
 ∀ (n : Nat) (u : Env) (x3 : Option Addr) (x5 : Int) (w1_3 : World), I n x3 x5 w1_3 →
 IfB (decide (x5 < ((x0.l : Nat) : Int)))
 (∃ p38, x0.a = some p38 ∧ 0 ≤ x5 ∧ x5 < ((x0.l : Nat) : Int) ∧
 ∃ t39 : Array Value, LdA w1_3 (p38.add ((x5).toNat * 4)) 4 t39 ∧
 ∀ b6 w1_4, NewB w1_3 (.cells #[.int .i64 0, .int .i64 0, .string (⟨#[]⟩ : ByteArray), .slice none 0 0] 45) b6 w1_4 →
 t39.size = 4 ∧ (∀ u, u ∈ t39.toList → u.oneCell' = true) ∧ WrA w1_4 (⟨b6, 0, none⟩ : Addr) 4 ∧ ∀ w1_5, w1_5 = setAt w1_4 (⟨b6, 0, none⟩ : Addr) t39.toList 0 →
 ∃ J : Option Addr → Int → Int → ByteArray → ByteArray → World → Prop, (∃ t41 : Int, Ld w1_5 ((⟨b6, 0, none⟩ : Addr).add 0) (.int .i64 t41) ∧
 IfB (t41 == (0 : Int))
 (∃ t96 : ByteArray, Ld w1_5 ((⟨b6, 0, none⟩ : Addr).add 2) (.string t96) ∧
 ∃ t98 : Int, Ld w1_5 ((⟨b6, 0, none⟩ : Addr).add 1) (.int .i64 t98) ∧
 Calls prog 15 #[.pointer x3, .string t96, .int .i64 t98] w1_5 fun en w1_6 =>
 ∃ t99 : Int, en = .returned (.int .i64 t99) ∧
 ∃ t102 : ByteArray, Ld w1_6 ((⟨b6, 0, none⟩ : Addr).add 2) (.string t102) ∧
 ∃ t104 : Int, Ld w1_6 ((⟨b6, 0, none⟩ : Addr).add 1) (.int .i64 t104) ∧
 Calls prog 23 #[.pointer (some (⟨b29, 0, none⟩ : Addr)), .string t102, .int .i64 t104] w1_6 fun en w1_7 =>
 ∃ t105 : Int, en = .returned (.int .i64 t105) ∧
 J x3 t99 t105 (⟨#[]⟩ : ByteArray) (⟨#[]⟩ : ByteArray) w1_7)
 (IfB (t41 == (1 : Int))
 (∃ t110 : ByteArray, Ld w1_5 ((⟨b6, 0, none⟩ : Addr).add 2) (.string t110) ∧
 Calls prog 17 #[.pointer x3, .string t110] w1_5 fun en w1_6 =>
 ∃ t111 : Int, en = .returned (.int .i64 t111) ∧
 ∃ t114 : ByteArray, Ld w1_6 ((⟨b6, 0, none⟩ : Addr).add 2) (.string t114) ∧
 Calls prog 24 #[.pointer (some (⟨b29, 0, none⟩ : Addr)), .string t114] w1_6 fun en w1_7 =>
 ∃ t115 : Int, en = .returned (.int .i64 t115) ∧
 J x3 t111 t115 (⟨#[]⟩ : ByteArray) (⟨#[]⟩ : ByteArray) w1_7)
 (IfB (t41 == (2 : Int))
 (∃ t120 : ByteArray, Ld w1_5 ((⟨b6, 0, none⟩ : Addr).add 2) (.string t120) ∧
 ∃ t122 : Int, Ld w1_5 ((⟨b6, 0, none⟩ : Addr).add 1) (.int .i64 t122) ∧
 Calls prog 18 #[.pointer x3, .string t120, .int .i64 t122] w1_5 fun en w1_6 =>
 ∃ t123 : Int, en = .returned (.int .i64 t123) ∧
 ∃ t126 : ByteArray, Ld w1_6 ((⟨b6, 0, none⟩ : Addr).add 2) (.string t126) ∧
 ∃ t128 : Int, Ld w1_6 ((⟨b6, 0, none⟩ : Addr).add 1) (.int .i64 t128) ∧
 Calls prog 25 #[.pointer (some (⟨b29, 0, none⟩ : Addr)), .string t126, .int .i64 t128] w1_6 fun en w1_7 =>
 ∃ t129 : Int, en = .returned (.int .i64 t129) ∧
 J x3 t123 t129 (⟨#[]⟩ : ByteArray) (⟨#[]⟩ : ByteArray) w1_7)
 (IfB (t41 == (3 : Int))
 (Calls prog 16 #[.pointer x3] w1_5 fun en w1_6 =>
 ∃ t134 : Sl, en = .returned (.slice t134.a t134.l t134.c) ∧
 Calls prog 20 #[.slice t134.a t134.l t134.c] w1_6 fun en w1_7 =>
 ∃ t135a : Option Addr, ∃ t135b : Int, en = .returned (.tuple #[.pointer t135a, .int .i64 t135b]) ∧
 IfB (t135b != (0 : Int))
 (Q (.bool false) w1_7)
 (J t135a (0 : Int) (0 : Int) (⟨#[]⟩ : ByteArray) (⟨#[]⟩ : ByteArray) w1_7))
 (∃ t43 : Sl, Ld w1_5 ((⟨b6, 0, none⟩ : Addr).add 3) (.slice t43.a t43.l t43.c) ∧
 Calls prog 26 #[.slice t43.a t43.l t43.c] w1_5 fun en w1_6 =>
 ∃ t44 : Sl, en = .returned (.slice t44.a t44.l t44.c) ∧
 Calls prog 13 #[.pointer x3, .slice t44.a t44.l t44.c] w1_6 fun en w1_7 =>
 ∃ t48a : ByteArray, ∃ t48b : Int, en = .returned (.tuple #[.string t48a, .int .i64 t48b]) ∧
 ∃ t54 : Sl, Ld w1_7 ((⟨b6, 0, none⟩ : Addr).add 3) (.slice t54.a t54.l t54.c) ∧
 Calls prog 27 #[.pointer (some (⟨b29, 0, none⟩ : Addr)), .slice t54.a t54.l t54.c] w1_7 fun en w1_8 =>
 ∃ t55a : ByteArray, ∃ t55b : Int, en = .returned (.tuple #[.string t55a, .int .i64 t55b]) ∧
 ∃ t60 : Sl, Ld w1_8 ((⟨b6, 0, none⟩ : Addr).add 3) (.slice t60.a t60.l t60.c) ∧
 Calls prog 28 #[.slice t44.a t44.l t44.c, .slice t60.a t60.l t60.c] w1_8 fun en w1_9 =>
 ∃ t61 : Bool, en = .returned (.bool t61) ∧
 IfB (!t61)
 (Q (.bool false) w1_9)
 (∃ (I_1 : Nat → Int → World → Prop) (n0_1 : Nat), I_1 n0_1 (0 : Int) w1_9 ∧
 ∀ (n_1 : Nat) (u_1 : Env) (x14 : Int) (w1_10 : World), I_1 n_1 x14 w1_10 →
 IfB (decide (x14 < ((t44.l : Nat) : Int)))
 (∃ p71, t44.a = some p71 ∧ 0 ≤ x14 ∧ x14 < ((t44.l : Nat) : Int) ∧
 Wr w1_10 (p71.add ((x14).toNat * 1)) ∧ ∀ w1_11, w1_11 = w1_10.setCell (p71.add ((x14).toNat * 1)) (.string (⟨#[63]⟩ : ByteArray)) →
 ∃ n', n' < n_1 ∧ I_1 n' (IntKind.wrap .i64 (x14 + (1 : Int))) w1_11)
 (∃ J_1 : Bool → World → Prop, (IfB (t55b == (0 : Int))
 (∃ t76 : Int, Ld w1_10 ((⟨b6, 0, none⟩ : Addr).add 1) (.int .i64 t76) ∧
 J_1 (decide (t76 ≥ (0 : Int))) w1_10)
 (J_1 false w1_10)) ∧
 (∀ (u_2 : Env) (x78 : Bool) (w1_11 : World), J_1 x78 w1_11 →
 IfB x78
 (∃ t82 : Int, Ld w1_11 ((⟨b6, 0, none⟩ : Addr).add 1) (.int .i64 t82) ∧
 Calls prog 18 #[.pointer x3, .string t55a, .int .i64 t82] w1_11 fun en w1_12 =>
 ∃ t83 : Int, en = .returned (.int .i64 t83) ∧
 ∃ t87 : Int, Ld w1_12 ((⟨b6, 0, none⟩ : Addr).add 1) (.int .i64 t87) ∧
 Calls prog 25 #[.pointer (some (⟨b29, 0, none⟩ : Addr)), .string t55a, .int .i64 t87] w1_12 fun en w1_13 =>
 ∃ t88 : Int, en = .returned (.int .i64 t88) ∧
 IfB (t83 != t88)
 (Q (.bool false) w1_13)
 (J x3 t48b t55b t48a t55a w1_13))
 (J x3 t48b t55b t48a t55a w1_11))))))))) ∧
 (∀ (u_1 : Env) (x3_1 : Option Addr) (x7 : Int) (x8 : Int) (x9 : ByteArray) (x10 : ByteArray) (w1_6 : World), J x3_1 x7 x8 x9 x10 w1_6 →
 Calls prog 21 #[.pointer x3_1] w1_6 fun en w1_7 =>
 ∃ t142 : Sl, en = .returned (.slice t142.a t142.l t142.c) ∧
 Calls prog 16 #[.pointer x3_1] w1_7 fun en w1_8 =>
 ∃ t144 : Sl, en = .returned (.slice t144.a t144.l t144.c) ∧
 ∃ J_1 : Bool → World → Prop, (IfB (x7 != x8)
 ((J_1 true w1_8.drew) ∧
 ((J_1 true w1_8.drew) ∧
 (J_1 true w1_8.drew)))
 (IfB (!(x9.toList == x10.toList))
 ((J_1 true w1_8.drew) ∧
 ((J_1 true w1_8.drew) ∧
 (J_1 true w1_8.drew)))
 (Calls prog 29 #[.pointer (some (⟨b29, 0, none⟩ : Addr))] w1_8.drew fun en w1_9 =>
 ∃ t156 : Sl, en = .returned (.slice t156.a t156.l t156.c) ∧
 Calls prog 28 #[.slice t142.a t142.l t142.c, .slice t156.a t156.l t156.c] w1_9 fun en w1_10 =>
 ∃ t157 : Bool, en = .returned (.bool t157) ∧
 IfB (!t157)
 ((J_1 true w1_10) ∧
 ((J_1 true w1_10) ∧
 (J_1 true w1_10)))
 ((RunT prog .str (convert 31 9 (.slice t144.a t144.l t144.c)) w1_10 fun (t162 : ByteArray) w1_11 =>
 Calls prog 30 #[.pointer (some (⟨b29, 0, none⟩ : Addr))] w1_11 fun en w1_12 =>
 ∃ t164 : Sl, en = .returned (.slice t164.a t164.l t164.c) ∧
 RunT prog .str (convert 31 9 (.slice t164.a t164.l t164.c)) w1_12 fun (t165 : ByteArray) w1_13 =>
 J_1 (!(t162.toList == t165.toList)) w1_13) ∧
 (Calls prog 30 #[.pointer (some (⟨b29, 0, none⟩ : Addr))] w1_10 fun en w1_11 =>
 ∃ t164 : Sl, en = .returned (.slice t164.a t164.l t164.c) ∧
 (RunT prog .str (convert 31 9 (.slice t144.a t144.l t144.c)) w1_11 fun (t162 : ByteArray) w1_12 =>
 RunT prog .str (convert 31 9 (.slice t164.a t164.l t164.c)) w1_12 fun (t165 : ByteArray) w1_13 =>
 J_1 (!(t162.toList == t165.toList)) w1_13) ∧
 (RunT prog .str (convert 31 9 (.slice t164.a t164.l t164.c)) w1_11 fun (t165 : ByteArray) w1_12 =>
 RunT prog .str (convert 31 9 (.slice t144.a t144.l t144.c)) w1_12 fun (t162 : ByteArray) w1_13 =>
 J_1 (!(t162.toList == t165.toList)) w1_13)))))) ∧
 (∀ (u_2 : Env) (x167 : Bool) (w1_9 : World), J_1 x167 w1_9 →
 IfB x167
 (Q (.bool false) w1_9)
 (∃ t171 : ByteArray, Ld w1_9 ((⟨b6, 0, none⟩ : Addr).add 2) (.string t171) ∧
 Calls prog 19 #[.pointer x3_1, .string t171] w1_9 fun en w1_10 =>
 ∃ t172a : Int, ∃ t172b : Int, ∃ t172c : Bool, en = .returned (.tuple #[.int .i64 t172a, .int .i64 t172b, .bool t172c]) ∧
 ∃ t178 : ByteArray, Ld w1_10 ((⟨b6, 0, none⟩ : Addr).add 2) (.string t178) ∧
 Calls prog 31 #[.pointer (some (⟨b29, 0, none⟩ : Addr)), .string t178] w1_10 fun en w1_11 =>
 ∃ t179 : Int, en = .returned (.int .i64 t179) ∧
 ∃ J_2 : Bool → World → Prop, (∃ b183 : Bool, BinIs prog .neq 4 (.tmp 180) (.tmp 182) (.bool t172c) (.bool (decide (t179 ≥ (0 : Int)))) b183 ∧
 IfB b183
 (J_2 true w1_11)
 (IfB t172c
 (∃ p189, some (⟨b29, 0, none⟩ : Addr) = some p189 ∧
 ∃ t191 : Sl, Ld w1_11 (p189.add 0) (.slice t191.a t191.l t191.c) ∧
 ∃ p193, t191.a = some p193 ∧ 0 ≤ t179 ∧ t179 < ((t191.l : Nat) : Int) ∧
 ∃ t195 : Int, Ld w1_11 ((p193.add ((t179).toNat * 4)).add 1) (.int .i64 t195) ∧
 IfB (t172a != t195)
 (J_2 true w1_11)
 (∃ p200, some (⟨b29, 0, none⟩ : Addr) = some p200 ∧
 ∃ t202 : Sl, Ld w1_11 (p200.add 0) (.slice t202.a t202.l t202.c) ∧
 ∃ p204, t202.a = some p204 ∧ 0 ≤ t179 ∧ t179 < ((t202.l : Nat) : Int) ∧
 ∃ t206 : Int, Ld w1_11 ((p204.add ((t179).toNat * 4)).add 2) (.int .i64 t206) ∧
 IfB (t172b != t206)
 (J_2 true w1_11)
 (IfB (!t172c)
 (IfB (t172a != (0 : Int))
 (J_2 true w1_11)
 (J_2 (t172b != (0 : Int)) w1_11))
 (J_2 false w1_11))))
 (IfB (!t172c)
 (IfB (t172a != (0 : Int))
 (J_2 true w1_11)
 (J_2 (t172b != (0 : Int)) w1_11))
 (J_2 false w1_11)))) ∧
 (∀ (u_3 : Env) (x222 : Bool) (w1_12 : World), J_2 x222 w1_12 →
 IfB x222
 (Q (.bool false) w1_12)
 (∃ (I_1 : Nat → Int → World → Prop) (n0_1 : Nat), I_1 n0_1 (0 : Int) w1_12 ∧
 ∀ (n_1 : Nat) (u_4 : Env) (x23 : Int) (w1_13 : World), I_1 n_1 x23 w1_13 →
 IfB (decide (x23 < ((t142.l : Nat) : Int)))
 (∃ p231, t142.a = some p231 ∧ 0 ≤ x23 ∧ x23 < ((t142.l : Nat) : Int) ∧
 Wr w1_13 (p231.add ((x23).toNat * 1)) ∧ ∀ w1_14, w1_14 = w1_13.setCell (p231.add ((x23).toNat * 1)) (.string (⟨#[63]⟩ : ByteArray)) →
 ∃ n', n' < n_1 ∧ I_1 n' (IntKind.wrap .i64 (x23 + (1 : Int))) w1_14)
 (∃ (I_2 : Nat → Int → World → Prop) (n0_2 : Nat), I_2 n0_2 (0 : Int) w1_13 ∧
 ∀ (n_2 : Nat) (u_5 : Env) (x24 : Int) (w1_14 : World), I_2 n_2 x24 w1_14 →
 IfB (decide (x24 < ((t144.l : Nat) : Int)))
 (∃ p240, t144.a = some p240 ∧ 0 ≤ x24 ∧ x24 < ((t144.l : Nat) : Int) ∧
 Wr w1_14 (p240.add ((x24).toNat * 1)) ∧ ∀ w1_15, w1_15 = w1_14.setCell (p240.add ((x24).toNat * 1)) (.int .u8 255) →
 ∃ n', n' < n_2 ∧ I_2 n' (IntKind.wrap .i64 (x24 + (1 : Int))) w1_15)
 (∃ n', n' < n ∧ I n' x3_1 (IntKind.wrap .i64 (x5 + (1 : Int))) w1_14))))))))
 (Calls prog 21 #[.pointer x3] w1_3 fun en w1_4 =>
 ∃ t242 : Sl, en = .returned (.slice t242.a t242.l t242.c) ∧
 Calls prog 29 #[.pointer (some (⟨b29, 0, none⟩ : Addr))] w1_4 fun en w1_5 =>
 ∃ t244 : Sl, en = .returned (.slice t244.a t244.l t244.c) ∧
 Calls prog 28 #[.slice t242.a t242.l t242.c, .slice t244.a t244.l t244.c] w1_5 fun en w1_6 =>
 ∃ t245 : Bool, en = .returned (.bool t245) ∧
 Q (.bool t245) w1_6))
def an4 : Ann := { cut := fun i => bif Nat.beq i 23 then some [(78, .bool)] else bif Nat.beq i 41 then some [(3, .ptr), (7, .int .i64), (8, .int .i64), (9, .str), (10, .str)] else bif Nat.beq i 44 then some [(167, .bool)] else bif Nat.beq i 48 then some [(222, .bool)] else none, loop := fun i => bif Nat.beq i 6 then [(3, .ptr), (5, .int .i64)] else bif Nat.beq i 19 then [(14, .int .i64)] else bif Nat.beq i 50 then [(23, .int .i64)] else bif Nat.beq i 54 then [(24, .int .i64)] else [] }
theorem eq4 (x0 : Sl) (w : World) (Q : Value → World → Prop) : F4 x0 w Q = vc prog an4 (Try.f4.body.getD .skip) (envOf [.slice x0.a x0.l x0.c]) w (retK prog Try.f4 Q) := by kernel_rfl
theorem ok4 : codeOk Try.f4.ntmps (Try.f4.body.getD .skip) = true := by kernel_rfl
theorem W4 {x0 : Sl} {w : World} {Q : Value → World → Prop} (h : F4 x0 w Q) : Calls prog 4 #[.slice x0.a x0.l x0.c] w fun en w' => ∃ v, en = .returned v ∧ Q v w' :=
  calls_of_vc good follows an4 (args := [.slice x0.a x0.l x0.c]) Try.func4 (by kernel_rfl) ok4 (of_decide_eq_true (by kernel_rfl)) (Eq.mp (eq4 x0 w Q) h)

/-- bastion/bastionref01.NewReader -/
def F63 (x0 : Sl) (w : World) (Q : Value → World → Prop) : Prop :=
 Calls prog 88 #[.slice x0.a x0.l x0.c, .string (⟨#[]⟩ : ByteArray)] w fun en w1 =>
 ∃ t4 : Sl, en = .returned (.slice t4.a t4.l t4.c) ∧
 ∃ t5 : Array Value, BuildIs prog 126 #[(0, .slice t4.a t4.l t4.c)] t5 ∧
 ∀ b6 w1_1, NewB w1 (.cells t5 126) b6 w1_1 →
 Q (.pointer (some (⟨b6, 0, none⟩ : Addr))) w1_1
def an63 : Ann := { cut := fun i => none, loop := fun i => [] }
theorem eq63 (x0 : Sl) (w : World) (Q : Value → World → Prop) : F63 x0 w Q = vc prog an63 (Try.f63.body.getD .skip) (envOf [.slice x0.a x0.l x0.c]) w (retK prog Try.f63 Q) := by kernel_rfl
theorem ok63 : codeOk Try.f63.ntmps (Try.f63.body.getD .skip) = true := by kernel_rfl
theorem W63 {x0 : Sl} {w : World} {Q : Value → World → Prop} (h : F63 x0 w Q) : Calls prog 63 #[.slice x0.a x0.l x0.c] w fun en w' => ∃ v, en = .returned v ∧ Q v w' :=
  calls_of_vc good follows an63 (args := [.slice x0.a x0.l x0.c]) Try.func63 (by kernel_rfl) ok63 (of_decide_eq_true (by kernel_rfl)) (Eq.mp (eq63 x0 w Q) h)

/-- (*bastion/bastionref01.Reader).off -/
def F99 (x0 : Option Addr) (w : World) (Q : Value → World → Prop) : Prop :=
 ∃ (I : Nat → Int → World → Prop) (n0 : Nat), I n0 (1 : Int) w ∧
 ∀ (n : Nat) (u : Env) (x5 : Int) (w1 : World), I n x5 w1 →
 ∃ J : World → Prop, (IfB (decide (x5 ≤ (10 : Int)))
 (∃ p12, x0 = some p12 ∧
 ∃ t14 : Sl, Ld w1 (p12.add 0) (.slice t14.a t14.l t14.c) ∧
 IfB (decide (x5 ≤ ((t14.l : Nat) : Int)))
 (J  w1)
 (Q (.tuple #[.int .u64 0, .int .i64 0]) w1))
 (Q (.tuple #[.int .u64 0, .int .i64 0]) w1)) ∧
 (∀ (u_1 : Env) (w1_1 : World), J  w1_1 →
 ∃ (I_1 : Nat → Int → Int → World → Prop) (n0_1 : Nat), I_1 n0_1 (0 : Int) x5 w1_1 ∧
 ∀ (n_1 : Nat) (u_2 : Env) (x4 : Int) (x6 : Int) (w1_2 : World), I_1 n_1 x4 x6 w1_2 →
 IfB (decide (x6 > (0 : Int)))
 (∃ p28, x0 = some p28 ∧
 ∃ t30 : Sl, Ld w1_2 (p28.add 0) (.slice t30.a t30.l t30.c) ∧
 ∃ p33, t30.a = some p33 ∧ 0 ≤ IntKind.wrap .i64 (x6 - (1 : Int)) ∧ IntKind.wrap .i64 (x6 - (1 : Int)) < ((t30.l : Nat) : Int) ∧
 ∃ t34 : Int, Ld w1_2 (p33.add ((IntKind.wrap .i64 (x6 - (1 : Int))).toNat * 1)) (.int .u8 t34) ∧
 (128 : Int) ≠ 0 ∧
 ∃ n', n' < n_1 ∧ I_1 n' (IntKind.wrap .u64 ((IntKind.wrap .u64 ((128 : Int) * x4)) + (IntKind.wrap .u64 (Int.tmod t34 (128 : Int))))) (IntKind.wrap .i64 (x6 - (1 : Int))) w1_2)
 (∃ S : World → Prop, S w1_2.drew ∧
 ∃ p41, x0 = some p41 ∧
 ∃ t43 : Sl, (∀ w', S w' → Ld w' (p41.add 0) (.slice t43.a t43.l t43.c)) ∧
 (0 ≤ x5 ∧ x5 ≤ ((t43.c : Nat) : Int)) ∧
 (Calls prog 89 #[.int .u64 x4] w1_2.drew fun en w1_3 =>
 ∃ t39 : ByteArray, en = .returned (.string t39) ∧
 S w1_3 ∧
 RunT prog .str (convert 31 9 (.slice (slA t43.a 0 t43.c 1) ((x5).toNat - 0) (t43.c - 0))) w1_3 fun (t46 : ByteArray) w1_4 =>
 IfB (t39.toList == t46.toList)
 (Q (.tuple #[.int .u64 x4, .int .i64 x5]) w1_4)
 (∃ n', n' < n ∧ I n' (IntKind.wrap .i64 (x5 + (1 : Int))) w1_4)) ∧
 (RunT prog .str (convert 31 9 (.slice (slA t43.a 0 t43.c 1) ((x5).toNat - 0) (t43.c - 0))) w1_2.drew fun (t46 : ByteArray) w1_3 =>
 Calls prog 89 #[.int .u64 x4] w1_3 fun en w1_4 =>
 ∃ t39 : ByteArray, en = .returned (.string t39) ∧
 TrueW w1_4 ∧
 IfB (t39.toList == t46.toList)
 (Q (.tuple #[.int .u64 x4, .int .i64 x5]) w1_4)
 (∃ n', n' < n ∧ I n' (IntKind.wrap .i64 (x5 + (1 : Int))) w1_4))))
def an99 : Ann := { cut := fun i => bif Nat.beq i 5 then some [] else none, loop := fun i => bif Nat.beq i 3 then [(5, .int .i64)] else bif Nat.beq i 7 then [(4, .int .u64), (6, .int .i64)] else [] }
theorem eq99 (x0 : Option Addr) (w : World) (Q : Value → World → Prop) : F99 x0 w Q = vc prog an99 (Try.f99.body.getD .skip) (envOf [.pointer x0]) w (retK prog Try.f99 Q) := by kernel_rfl
theorem ok99 : codeOk Try.f99.ntmps (Try.f99.body.getD .skip) = true := by kernel_rfl
theorem W99 {x0 : Option Addr} {w : World} {Q : Value → World → Prop} (h : F99 x0 w Q) : Calls prog 99 #[.pointer x0] w fun en w' => ∃ v, en = .returned v ∧ Q v w' :=
  calls_of_vc good follows an99 (args := [.pointer x0]) Try.func99 (by kernel_rfl) ok99 (of_decide_eq_true (by kernel_rfl)) (Eq.mp (eq99 x0 w Q) h)

/-- (*bastion/bastionref01.Reader).count -/
def F90 (x0 : Option Addr) (x1 : Int) (w : World) (Q : Value → World → Prop) : Prop :=
 Calls prog 99 #[.pointer x0] w fun en w1 =>
 ∃ t10a : Int, ∃ t10b : Int, en = .returned (.tuple #[.int .u64 t10a, .int .i64 t10b]) ∧
 IfB (t10b == (0 : Int))
 (Q (.tuple #[.int .i64 0, .int .i64 0]) w1)
 (IfB (decide (t10a > (2147483647 : Int)))
 (Q (.tuple #[.int .i64 0, .int .i64 0]) w1)
 (IfB (decide (x1 < IntKind.wrap .i64 t10a))
 (Q (.tuple #[.int .i64 0, .int .i64 0]) w1)
 (Q (.tuple #[.int .i64 (IntKind.wrap .i64 t10a), .int .i64 t10b]) w1)))
def an90 : Ann := { cut := fun i => none, loop := fun i => [] }
theorem eq90 (x0 : Option Addr) (x1 : Int) (w : World) (Q : Value → World → Prop) : F90 x0 x1 w Q = vc prog an90 (Try.f90.body.getD .skip) (envOf [.pointer x0, .int .i64 x1]) w (retK prog Try.f90 Q) := by kernel_rfl
theorem ok90 : codeOk Try.f90.ntmps (Try.f90.body.getD .skip) = true := by kernel_rfl
theorem W90 {x0 : Option Addr} {x1 : Int} {w : World} {Q : Value → World → Prop} (h : F90 x0 x1 w Q) : Calls prog 90 #[.pointer x0, .int .i64 x1] w fun en w' => ∃ v, en = .returned v ∧ Q v w' :=
  calls_of_vc good follows an90 (args := [.pointer x0, .int .i64 x1]) Try.func90 (by kernel_rfl) ok90 (of_decide_eq_true (by kernel_rfl)) (Eq.mp (eq90 x0 x1 w Q) h)

/-- (*bastion/bastionref01.Reader).fails -/
def F91 (x0 : Option Addr) (w : World) (Q : Value → World → Prop) : Prop :=
 ∃ p3, x0 = some p3 ∧
 Wr w (p3.add 1) ∧ ∀ w1, w1 = w.setCell (p3.add 1) (.bool true) →
 ∃ p6, x0 = some p6 ∧
 Wr w1 (p6.add 0) ∧ ∀ w1_1, w1_1 = w1.setCell (p6.add 0) (.slice none 0 0) →
 Q (.tuple #[]) w1_1
def an91 : Ann := { cut := fun i => none, loop := fun i => [] }
theorem eq91 (x0 : Option Addr) (w : World) (Q : Value → World → Prop) : F91 x0 w Q = vc prog an91 (Try.f91.body.getD .skip) (envOf [.pointer x0]) w (retK prog Try.f91 Q) := by kernel_rfl
theorem ok91 : codeOk Try.f91.ntmps (Try.f91.body.getD .skip) = true := by kernel_rfl
theorem W91 {x0 : Option Addr} {w : World} {Q : Value → World → Prop} (h : F91 x0 w Q) : Calls prog 91 #[.pointer x0] w fun en w' => ∃ v, en = .returned v ∧ Q v w' :=
  calls_of_vc good follows an91 (args := [.pointer x0]) Try.func91 (by kernel_rfl) ok91 (of_decide_eq_true (by kernel_rfl)) (Eq.mp (eq91 x0 w Q) h)

/-- (*bastion/bastionref01.Reader).Count -/
def F64 (x0 : Option Addr) (x1 : Int) (w : World) (Q : Value → World → Prop) : Prop :=
 Calls prog 90 #[.pointer x0, .int .i64 x1] w fun en w1 =>
 ∃ t10a : Int, ∃ t10b : Int, en = .returned (.tuple #[.int .i64 t10a, .int .i64 t10b]) ∧
 IfB (t10b == (0 : Int))
 (Calls prog 91 #[.pointer x0] w1 fun en w1_1 =>
 en = .returned (.tuple #[]) ∧
 Q (.int .i64 0) w1_1)
 (∃ p19, x0 = some p19 ∧
 ∃ t21 : Sl, Ld w1 (p19.add 0) (.slice t21.a t21.l t21.c) ∧
 (0 ≤ t10b ∧ t10b ≤ ((t21.l : Nat) : Int)) ∧
 ∃ p24, x0 = some p24 ∧
 Wr w1 (p24.add 0) ∧ ∀ w1_1, w1_1 = w1.setCell (p24.add 0) (.slice (slA t21.a ((t10b).toNat) t21.c 1) (t21.l - ((t10b).toNat)) (t21.c - ((t10b).toNat))) →
 Q (.int .i64 t10a) w1_1)
def an64 : Ann := { cut := fun i => none, loop := fun i => [] }
theorem eq64 (x0 : Option Addr) (x1 : Int) (w : World) (Q : Value → World → Prop) : F64 x0 x1 w Q = vc prog an64 (Try.f64.body.getD .skip) (envOf [.pointer x0, .int .i64 x1]) w (retK prog Try.f64 Q) := by kernel_rfl
theorem ok64 : codeOk Try.f64.ntmps (Try.f64.body.getD .skip) = true := by kernel_rfl
theorem W64 {x0 : Option Addr} {x1 : Int} {w : World} {Q : Value → World → Prop} (h : F64 x0 x1 w Q) : Calls prog 64 #[.pointer x0, .int .i64 x1] w fun en w' => ∃ v, en = .returned v ∧ Q v w' :=
  calls_of_vc good follows an64 (args := [.pointer x0, .int .i64 x1]) Try.func64 (by kernel_rfl) ok64 (of_decide_eq_true (by kernel_rfl)) (Eq.mp (eq64 x0 x1 w Q) h)

/-- (*bastion/bastionref01.Reader).Str -/
def F65 (x0 : Option Addr) (x1 : Int) (w : World) (Q : Value → World → Prop) : Prop :=
 Calls prog 90 #[.pointer x0, .int .i64 x1] w fun en w1 =>
 ∃ t11a : Int, ∃ t11b : Int, en = .returned (.tuple #[.int .i64 t11a, .int .i64 t11b]) ∧
 ∃ J : Bool → World → Prop, (IfB (t11b == (0 : Int))
 (J true w1)
 (∃ p21, x0 = some p21 ∧
 ∃ t23 : Sl, Ld w1 (p21.add 0) (.slice t23.a t23.l t23.c) ∧
 J (decide (IntKind.wrap .i64 (t11b + t11a) > ((t23.l : Nat) : Int))) w1)) ∧
 (∀ (u : Env) (x26 : Bool) (w1_1 : World), J x26 w1_1 →
 IfB x26
 (Calls prog 91 #[.pointer x0] w1_1 fun en w1_2 =>
 en = .returned (.tuple #[]) ∧
 Q (.string (⟨#[]⟩ : ByteArray)) w1_2)
 (∃ p30, x0 = some p30 ∧
 ∃ t32 : Sl, Ld w1_1 (p30.add 0) (.slice t32.a t32.l t32.c) ∧
 (0 ≤ IntKind.wrap .i64 (t11b + t11a) ∧ IntKind.wrap .i64 (t11b + t11a) ≤ ((t32.c : Nat) : Int)) ∧
 (0 ≤ t11b ∧ t11b ≤ (((IntKind.wrap .i64 (t11b + t11a)).toNat : Nat) : Int)) ∧
 RunT prog .str (convert 31 9 (.slice (slA t32.a ((t11b).toNat) t32.c 1) ((IntKind.wrap .i64 (t11b + t11a)).toNat - ((t11b).toNat)) (t32.c - ((t11b).toNat)))) w1_1 fun (t38 : ByteArray) w1_2 =>
 ∃ p41, x0 = some p41 ∧
 ∃ t43 : Sl, Ld w1_2 (p41.add 0) (.slice t43.a t43.l t43.c) ∧
 (0 ≤ IntKind.wrap .i64 (t11b + t11a) ∧ IntKind.wrap .i64 (t11b + t11a) ≤ ((t43.l : Nat) : Int)) ∧
 ∃ p48, x0 = some p48 ∧
 Wr w1_2 (p48.add 0) ∧ ∀ w1_3, w1_3 = w1_2.setCell (p48.add 0) (.slice (slA t43.a ((IntKind.wrap .i64 (t11b + t11a)).toNat) t43.c 1) (t43.l - ((IntKind.wrap .i64 (t11b + t11a)).toNat)) (t43.c - ((IntKind.wrap .i64 (t11b + t11a)).toNat))) →
 Q (.string t38) w1_3))
def an65 : Ann := { cut := fun i => bif Nat.beq i 3 then some [(26, .bool)] else none, loop := fun i => [] }
theorem eq65 (x0 : Option Addr) (x1 : Int) (w : World) (Q : Value → World → Prop) : F65 x0 x1 w Q = vc prog an65 (Try.f65.body.getD .skip) (envOf [.pointer x0, .int .i64 x1]) w (retK prog Try.f65 Q) := by kernel_rfl
theorem ok65 : codeOk Try.f65.ntmps (Try.f65.body.getD .skip) = true := by kernel_rfl
theorem W65 {x0 : Option Addr} {x1 : Int} {w : World} {Q : Value → World → Prop} (h : F65 x0 x1 w Q) : Calls prog 65 #[.pointer x0, .int .i64 x1] w fun en w' => ∃ v, en = .returned v ∧ Q v w' :=
  calls_of_vc good follows an65 (args := [.pointer x0, .int .i64 x1]) Try.func65 (by kernel_rfl) ok65 (of_decide_eq_true (by kernel_rfl)) (Eq.mp (eq65 x0 x1 w Q) h)

/-- (*bastion/bastionref01.Reader).Flag -/
def F66 (x0 : Option Addr) (w : World) (Q : Value → World → Prop) : Prop :=
 ∃ J : Bool → World → Prop, (∃ p5, x0 = some p5 ∧
 ∃ t7 : Sl, Ld w (p5.add 0) (.slice t7.a t7.l t7.c) ∧
 IfB (((t7.l : Nat) : Int) == (0 : Int))
 (J true w)
 (∃ p12, x0 = some p12 ∧
 ∃ t14 : Sl, Ld w (p12.add 0) (.slice t14.a t14.l t14.c) ∧
 ∃ p15, t14.a = some p15 ∧ 0 ≤ (0 : Int) ∧ (0 : Int) < ((t14.l : Nat) : Int) ∧
 ∃ t16 : Int, Ld w (p15.add (0 * 1)) (.int .u8 t16) ∧
 J (decide (t16 > (1 : Int))) w)) ∧
 (∀ (u : Env) (x18 : Bool) (w1 : World), J x18 w1 →
 IfB x18
 (Calls prog 91 #[.pointer x0] w1 fun en w1_1 =>
 en = .returned (.tuple #[]) ∧
 Q (.bool false) w1_1)
 (∃ p22, x0 = some p22 ∧
 ∃ t24 : Sl, Ld w1 (p22.add 0) (.slice t24.a t24.l t24.c) ∧
 ∃ p25, t24.a = some p25 ∧ 0 ≤ (0 : Int) ∧ (0 : Int) < ((t24.l : Nat) : Int) ∧
 ∃ t26 : Int, Ld w1 (p25.add (0 * 1)) (.int .u8 t26) ∧
 ∃ p30, x0 = some p30 ∧
 ∃ t32 : Sl, Ld w1 (p30.add 0) (.slice t32.a t32.l t32.c) ∧
 (0 ≤ (1 : Int) ∧ (1 : Int) ≤ ((t32.l : Nat) : Int)) ∧
 ∃ p34, x0 = some p34 ∧
 Wr w1 (p34.add 0) ∧ ∀ w1_1, w1_1 = w1.setCell (p34.add 0) (.slice (slA t32.a 1 t32.c 1) (t32.l - 1) (t32.c - 1)) →
 Q (.bool (t26 == (1 : Int))) w1_1))
def an66 : Ann := { cut := fun i => bif Nat.beq i 2 then some [(18, .bool)] else none, loop := fun i => [] }
theorem eq66 (x0 : Option Addr) (w : World) (Q : Value → World → Prop) : F66 x0 w Q = vc prog an66 (Try.f66.body.getD .skip) (envOf [.pointer x0]) w (retK prog Try.f66 Q) := by kernel_rfl
theorem ok66 : codeOk Try.f66.ntmps (Try.f66.body.getD .skip) = true := by kernel_rfl
theorem W66 {x0 : Option Addr} {w : World} {Q : Value → World → Prop} (h : F66 x0 w Q) : Calls prog 66 #[.pointer x0] w fun en w' => ∃ v, en = .returned v ∧ Q v w' :=
  calls_of_vc good follows an66 (args := [.pointer x0]) Try.func66 (by kernel_rfl) ok66 (of_decide_eq_true (by kernel_rfl)) (Eq.mp (eq66 x0 w Q) h)

/-- (*bastion/bastionref01.Reader).OK -/
def F67 (x0 : Option Addr) (w : World) (Q : Value → World → Prop) : Prop :=
 ∃ p4, x0 = some p4 ∧
 ∃ t6 : Bool, Ld w (p4.add 1) (.bool t6) ∧
 Q (.bool (!t6)) w
def an67 : Ann := { cut := fun i => none, loop := fun i => [] }
theorem eq67 (x0 : Option Addr) (w : World) (Q : Value → World → Prop) : F67 x0 w Q = vc prog an67 (Try.f67.body.getD .skip) (envOf [.pointer x0]) w (retK prog Try.f67 Q) := by kernel_rfl
theorem ok67 : codeOk Try.f67.ntmps (Try.f67.body.getD .skip) = true := by kernel_rfl
theorem W67 {x0 : Option Addr} {w : World} {Q : Value → World → Prop} (h : F67 x0 w Q) : Calls prog 67 #[.pointer x0] w fun en w' => ∃ v, en = .returned v ∧ Q v w' :=
  calls_of_vc good follows an67 (args := [.pointer x0]) Try.func67 (by kernel_rfl) ok67 (of_decide_eq_true (by kernel_rfl)) (Eq.mp (eq67 x0 w Q) h)

/-- (*bastion/bastionref01.Reader).Done -/
def F68 (x0 : Option Addr) (w : World) (Q : Value → World → Prop) : Prop :=
 ∃ p4, x0 = some p4 ∧
 ∃ t6 : Bool, Ld w (p4.add 1) (.bool t6) ∧
 IfB (!t6)
 (∃ p10, x0 = some p10 ∧
 ∃ t12 : Sl, Ld w (p10.add 0) (.slice t12.a t12.l t12.c) ∧
 Q (.bool (((t12.l : Nat) : Int) == (0 : Int))) w)
 (Q (.bool false) w)
def an68 : Ann := { cut := fun i => none, loop := fun i => [] }
theorem eq68 (x0 : Option Addr) (w : World) (Q : Value → World → Prop) : F68 x0 w Q = vc prog an68 (Try.f68.body.getD .skip) (envOf [.pointer x0]) w (retK prog Try.f68 Q) := by kernel_rfl
theorem ok68 : codeOk Try.f68.ntmps (Try.f68.body.getD .skip) = true := by kernel_rfl
theorem W68 {x0 : Option Addr} {w : World} {Q : Value → World → Prop} (h : F68 x0 w Q) : Calls prog 68 #[.pointer x0] w fun en w' => ∃ v, en = .returned v ∧ Q v w' :=
  calls_of_vc good follows an68 (args := [.pointer x0]) Try.func68 (by kernel_rfl) ok68 (of_decide_eq_true (by kernel_rfl)) (Eq.mp (eq68 x0 w Q) h)

/-- bastion/bastionref24.Load -/
def F32 (x0 : Sl) (w : World) (Q : Value → World → Prop) : Prop :=
 Calls prog 63 #[.slice x0.a x0.l x0.c] w fun en w1 =>
 ∃ t10 : Option Addr, en = .returned (.pointer t10) ∧
 Calls prog 64 #[.pointer t10, .int .i64 4] w1 fun en w1_1 =>
 ∃ t12 : Int, en = .returned (.int .i64 t12) ∧
 ∃ t13 : Array Value, BuildIs prog 43 #[] t13 ∧
 ∀ b14 w1_2, NewB w1_1 (.cells t13 43) b14 w1_2 →
 ∃ (I : Nat → Int → World → Prop) (n0 : Nat), I n0 (0 : Int) w1_2 ∧
 ∀ (n : Nat) (u : Env) (x7 : Int) (w1_3 : World), I n x7 w1_3 →
 IfB (decide (x7 < t12))
 (∀ b8 w1_4, NewB w1_3 (.cells #[.string (⟨#[]⟩ : ByteArray), .int .i64 0, .int .i64 0, .bool false] 50) b8 w1_4 →
 Calls prog 65 #[.pointer t10, .int .i64 24] w1_4 fun en w1_5 =>
 ∃ t21 : ByteArray, en = .returned (.string t21) ∧
 Wr w1_5 ((⟨b8, 0, none⟩ : Addr).add 0) ∧ ∀ w1_6, w1_6 = w1_5.setCell ((⟨b8, 0, none⟩ : Addr).add 0) (.string t21) →
 Calls prog 64 #[.pointer t10, .int .i64 1000] w1_6 fun en w1_7 =>
 ∃ t24 : Int, en = .returned (.int .i64 t24) ∧
 Wr w1_7 ((⟨b8, 0, none⟩ : Addr).add 1) ∧ ∀ w1_8, w1_8 = w1_7.setCell ((⟨b8, 0, none⟩ : Addr).add 1) (.int .i64 t24) →
 Calls prog 64 #[.pointer t10, .int .i64 2147483647] w1_8 fun en w1_9 =>
 ∃ t27 : Int, en = .returned (.int .i64 t27) ∧
 Wr w1_9 ((⟨b8, 0, none⟩ : Addr).add 2) ∧ ∀ w1_10, w1_10 = w1_9.setCell ((⟨b8, 0, none⟩ : Addr).add 2) (.int .i64 t27) →
 Calls prog 66 #[.pointer t10] w1_10 fun en w1_11 =>
 ∃ t30 : Bool, en = .returned (.bool t30) ∧
 Wr w1_11 ((⟨b8, 0, none⟩ : Addr).add 3) ∧ ∀ w1_12, w1_12 = w1_11.setCell ((⟨b8, 0, none⟩ : Addr).add 3) (.bool t30) →
 ∃ J : Bool → World → Prop, (∃ S : World → Prop, S w1_12.drew ∧
 Calls prog 67 #[.pointer t10] w1_12.drew fun en w1_13 =>
 ∃ t33 : Bool, en = .returned (.bool t33) ∧
 ∃ S_1 : World → Prop, (∀ w', S_1 w' → S w') ∧ S_1 w1_13 ∧
 IfB (!t33)
 (J true w1_13)
 (∃ t37 : ByteArray, (∀ w', S_1 w' → Ld w' ((⟨b8, 0, none⟩ : Addr).add 0) (.string t37)) ∧
 Calls prog 57 #[.string t37] w1_13 fun en w1_14 =>
 ∃ t38 : Bool, en = .returned (.bool t38) ∧
 ∃ S_2 : World → Prop, (∀ w', S_2 w' → S_1 w') ∧ S_2 w1_14 ∧
 IfB (!t38)
 (J true w1_14)
 (∃ t43 : Int, (∀ w', S_2 w' → Ld w' ((⟨b8, 0, none⟩ : Addr).add 1) (.int .i64 t43)) ∧
 IfB (decide (t43 < (1 : Int)))
 (J true w1_14)
 (IfB (decide (x7 > (0 : Int)))
 (∃ p51, some (⟨b14, 0, none⟩ : Addr) = some p51 ∧
 ∃ t53 : Sl, (∀ w', S_2 w' → Ld w' (p51.add 0) (.slice t53.a t53.l t53.c)) ∧
 ∃ p56, t53.a = some p56 ∧ 0 ≤ IntKind.wrap .i64 (x7 - (1 : Int)) ∧ IntKind.wrap .i64 (x7 - (1 : Int)) < ((t53.l : Nat) : Int) ∧
 ∃ t58 : ByteArray, (∀ w', S_2 w' → Ld w' ((p56.add ((IntKind.wrap .i64 (x7 - (1 : Int))).toNat * 4)).add 0) (.string t58)) ∧
 ∃ t60 : ByteArray, (∀ w', S_2 w' → Ld w' ((⟨b8, 0, none⟩ : Addr).add 0) (.string t60)) ∧
 J (!(Op.bytesLess t58.toList t60.toList)) w1_14)
 (J false w1_14))))) ∧
 (∀ (u_1 : Env) (x63 : Bool) (w1_13 : World), J x63 w1_13 →
 IfB x63
 (Q (.tuple #[.pointer none, .int .i64 4]) w1_13)
 (∃ S : World → Prop, S w1_13.drew ∧
 ∃ p66, some (⟨b14, 0, none⟩ : Addr) = some p66 ∧
 ∃ t68 : Sl, (∀ w', S w' → Ld w' (p66.add 0) (.slice t68.a t68.l t68.c)) ∧
 ∃ t69 : Array Value, (∀ w', S w' → LdA w' (⟨b8, 0, none⟩ : Addr) 4 t69) ∧
 RunT prog .slice (Instr.buildSlice 41 1 #[(0, .agg t69)]) w1_13.drew fun (t70 : Sl) w1_14 =>
 S w1_14 ∧
 RunT prog .slice (Builtin.append_ #[41, 41] 41 #[.slice t68.a t68.l t68.c, .slice t70.a t70.l t70.c]) w1_14 fun (t71 : Sl) w1_15 =>
 ∃ p72, some (⟨b14, 0, none⟩ : Addr) = some p72 ∧
 Wr w1_15 (p72.add 0) ∧ ∀ w1_16, w1_16 = w1_15.setCell (p72.add 0) (.slice t71.a t71.l t71.c) →
 ∃ n', n' < n ∧ I n' (IntKind.wrap .i64 (x7 + (1 : Int))) w1_16)))
 (Calls prog 68 #[.pointer t10] w1_3 fun en w1_4 =>
 ∃ t75 : Bool, en = .returned (.bool t75) ∧
 IfB (!t75)
 (Q (.tuple #[.pointer none, .int .i64 4]) w1_4)
 (Q (.tuple #[.pointer (some (⟨b14, 0, none⟩ : Addr)), .int .i64 0]) w1_4))
def an32 : Ann := { cut := fun i => bif Nat.beq i 13 then some [(63, .bool)] else none, loop := fun i => bif Nat.beq i 5 then [(7, .int .i64)] else [] }
theorem eq32 (x0 : Sl) (w : World) (Q : Value → World → Prop) : F32 x0 w Q = vc prog an32 (Try.f32.body.getD .skip) (envOf [.slice x0.a x0.l x0.c]) w (retK prog Try.f32 Q) := by kernel_rfl
theorem ok32 : codeOk Try.f32.ntmps (Try.f32.body.getD .skip) = true := by kernel_rfl
theorem W32 {x0 : Sl} {w : World} {Q : Value → World → Prop} (h : F32 x0 w Q) : Calls prog 32 #[.slice x0.a x0.l x0.c] w fun en w' => ∃ v, en = .returned v ∧ Q v w' :=
  calls_of_vc good follows an32 (args := [.slice x0.a x0.l x0.c]) Try.func32 (by kernel_rfl) ok32 (of_decide_eq_true (by kernel_rfl)) (Eq.mp (eq32 x0 w Q) h)

/-- bastion/bastionlaw24.StrideLoads -/
def F5 (x0 : Sl) (w : World) (Q : Value → World → Prop) : Prop :=
 IfB (decide (((x0.l : Nat) : Int) > (400 : Int)))
 (Q (.bool true) w)
 (RunT prog .slice (Instr.buildSlice 31 0 #[]) w fun (t16 : Sl) w1 =>
 RunT prog .slice (Builtin.append_ #[31, 31] 31 #[.slice t16.a t16.l t16.c, .slice x0.a x0.l x0.c]) w1 fun (t18 : Sl) w1_1 =>
 Calls prog 20 #[.slice t18.a t18.l t18.c] w1_1 fun en w1_2 =>
 ∃ t21a : Option Addr, ∃ t21b : Int, en = .returned (.tuple #[.pointer t21a, .int .i64 t21b]) ∧
 Calls prog 32 #[.slice x0.a x0.l x0.c] w1_2 fun en w1_3 =>
 ∃ t26a : Option Addr, ∃ t26b : Int, en = .returned (.tuple #[.pointer t26a, .int .i64 t26b]) ∧
 ∃ J : Bool → World → Prop, (IfB (t21b != t26b)
 (J true w1_3)
 (J (t26b != (0 : Int)) w1_3)) ∧
 (∀ (u : Env) (x35 : Bool) (w1_4 : World), J x35 w1_4 →
 IfB x35
 (IfB (t21b == t26b)
 (∃ b41 : Bool, BinIs prog .eql 23 (.tmp 40) (.const (.pointer none)) (.pointer t21a) (.pointer none) b41 ∧
 Q (.bool b41) w1_4)
 (Q (.bool false) w1_4))
 (∃ (I : Nat → Int → World → Prop) (n0 : Nat), I n0 (0 : Int) w1_4 ∧
 ∀ (n : Nat) (u_1 : Env) (x8 : Int) (w1_5 : World), I n x8 w1_5 →
 IfB (decide (x8 < ((t18.l : Nat) : Int)))
 (∃ p53, t18.a = some p53 ∧ 0 ≤ x8 ∧ x8 < ((t18.l : Nat) : Int) ∧
 ∃ t54 : Int, Ld w1_5 (p53.add ((x8).toNat * 1)) (.int .u8 t54) ∧
 ∃ p56, t18.a = some p56 ∧ 0 ≤ x8 ∧ x8 < ((t18.l : Nat) : Int) ∧
 Wr w1_5 (p56.add ((x8).toNat * 1)) ∧ ∀ w1_6, w1_6 = w1_5.setCell (p56.add ((x8).toNat * 1)) (.int .u8 (IntKind.wrap .u8 ((255 : Int) - t54))) →
 ∃ n', n' < n ∧ I n' (IntKind.wrap .i64 (x8 + (1 : Int))) w1_6)
 (∃ (I_1 : Nat → Int → World → Prop) (n0_1 : Nat), I_1 n0_1 (0 : Int) w1_5 ∧
 ∀ (n_1 : Nat) (u_2 : Env) (x9 : Int) (w1_6 : World), I_1 n_1 x9 w1_6 →
 ∃ p59, t26a = some p59 ∧
 ∃ t61 : Sl, Ld w1_6 (p59.add 0) (.slice t61.a t61.l t61.c) ∧
 IfB (decide (x9 < ((t61.l : Nat) : Int)))
 (∃ p69, t26a = some p69 ∧
 ∃ t71 : Sl, Ld w1_6 (p69.add 0) (.slice t71.a t71.l t71.c) ∧
 ∃ p73, t71.a = some p73 ∧ 0 ≤ x9 ∧ x9 < ((t71.l : Nat) : Int) ∧
 ∃ t75 : ByteArray, Ld w1_6 ((p73.add ((x9).toNat * 4)).add 0) (.string t75) ∧
 Calls prog 19 #[.pointer t21a, .string t75] w1_6 fun en w1_7 =>
 ∃ t76a : Int, ∃ t76b : Int, ∃ t76c : Bool, en = .returned (.tuple #[.int .i64 t76a, .int .i64 t76b, .bool t76c]) ∧
 IfB (!t76c)
 (Q (.bool false) w1_7)
 (∃ p85, t26a = some p85 ∧
 ∃ t87 : Sl, Ld w1_7 (p85.add 0) (.slice t87.a t87.l t87.c) ∧
 ∃ p89, t87.a = some p89 ∧ 0 ≤ x9 ∧ x9 < ((t87.l : Nat) : Int) ∧
 ∃ t91 : Int, Ld w1_7 ((p89.add ((x9).toNat * 4)).add 1) (.int .i64 t91) ∧
 IfB (t76a != t91)
 (Q (.bool false) w1_7)
 (∃ p97, t26a = some p97 ∧
 ∃ t99 : Sl, Ld w1_7 (p97.add 0) (.slice t99.a t99.l t99.c) ∧
 ∃ p101, t99.a = some p101 ∧ 0 ≤ x9 ∧ x9 < ((t99.l : Nat) : Int) ∧
 ∃ t103 : Int, Ld w1_7 ((p101.add ((x9).toNat * 4)).add 2) (.int .i64 t103) ∧
 IfB (t76b != t103)
 (Q (.bool false) w1_7)
 (∃ n', n' < n_1 ∧ I_1 n' (IntKind.wrap .i64 (x9 + (1 : Int))) w1_7))))
 (Calls prog 21 #[.pointer t21a] w1_6.drew fun en w1_7 =>
 ∃ t107 : Sl, en = .returned (.slice t107.a t107.l t107.c) ∧
 Calls prog 29 #[.pointer t26a] w1_7 fun en w1_8 =>
 ∃ t109 : Sl, en = .returned (.slice t109.a t109.l t109.c) ∧
 Calls prog 28 #[.slice t107.a t107.l t107.c, .slice t109.a t109.l t109.c] w1_8 fun en w1_9 =>
 ∃ t110 : Bool, en = .returned (.bool t110) ∧
 IfB t110
 ((Calls prog 16 #[.pointer t21a] w1_9 fun en w1_10 =>
 ∃ t113 : Sl, en = .returned (.slice t113.a t113.l t113.c) ∧
 (RunT prog .str (convert 31 9 (.slice t113.a t113.l t113.c)) w1_10 fun (t114 : ByteArray) w1_11 =>
 RunT prog .str (convert 31 9 (.slice x0.a x0.l x0.c)) w1_11 fun (t116 : ByteArray) w1_12 =>
 Q (.bool (t114.toList == t116.toList)) w1_12) ∧
 (RunT prog .str (convert 31 9 (.slice x0.a x0.l x0.c)) w1_10 fun (t116 : ByteArray) w1_11 =>
 RunT prog .str (convert 31 9 (.slice t113.a t113.l t113.c)) w1_11 fun (t114 : ByteArray) w1_12 =>
 Q (.bool (t114.toList == t116.toList)) w1_12)) ∧
 (RunT prog .str (convert 31 9 (.slice x0.a x0.l x0.c)) w1_9 fun (t116 : ByteArray) w1_10 =>
 Calls prog 16 #[.pointer t21a] w1_10 fun en w1_11 =>
 ∃ t113 : Sl, en = .returned (.slice t113.a t113.l t113.c) ∧
 RunT prog .str (convert 31 9 (.slice t113.a t113.l t113.c)) w1_11 fun (t114 : ByteArray) w1_12 =>
 Q (.bool (t114.toList == t116.toList)) w1_12))
 (((Q (.bool false) w1_9) ∧
 (Q (.bool false) w1_9)) ∧
 (Q (.bool false) w1_9)))))))
def an5 : Ann := { cut := fun i => bif Nat.beq i 7 then some [(35, .bool)] else none, loop := fun i => bif Nat.beq i 9 then [(8, .int .i64)] else bif Nat.beq i 13 then [(9, .int .i64)] else [] }
theorem eq5 (x0 : Sl) (w : World) (Q : Value → World → Prop) : F5 x0 w Q = vc prog an5 (Try.f5.body.getD .skip) (envOf [.slice x0.a x0.l x0.c]) w (retK prog Try.f5 Q) := by kernel_rfl
theorem ok5 : codeOk Try.f5.ntmps (Try.f5.body.getD .skip) = true := by kernel_rfl
theorem W5 {x0 : Sl} {w : World} {Q : Value → World → Prop} (h : F5 x0 w Q) : Calls prog 5 #[.slice x0.a x0.l x0.c] w fun en w' => ∃ v, en = .returned v ∧ Q v w' :=
  calls_of_vc good follows an5 (args := [.slice x0.a x0.l x0.c]) Try.func5 (by kernel_rfl) ok5 (of_decide_eq_true (by kernel_rfl)) (Eq.mp (eq5 x0 w Q) h)

/-- bastion/bastionlaw24.share -/
def F33 (x0 : Int) (w : World) (Q : Value → World → Prop) : Prop :=
 (1000 : Int) ≠ 0 ∧
 Q (.int .i64 (IntKind.wrap .i64 ((1 : Int) + (IntKind.wrap .i64 (Int.tmod (IntKind.wrap .u64 x0) (1000 : Int)))))) w
def an33 : Ann := { cut := fun i => none, loop := fun i => [] }
theorem eq33 (x0 : Int) (w : World) (Q : Value → World → Prop) : F33 x0 w Q = vc prog an33 (Try.f33.body.getD .skip) (envOf [.int .i64 x0]) w (retK prog Try.f33 Q) := by kernel_rfl
theorem ok33 : codeOk Try.f33.ntmps (Try.f33.body.getD .skip) = true := by kernel_rfl
theorem W33 {x0 : Int} {w : World} {Q : Value → World → Prop} (h : F33 x0 w Q) : Calls prog 33 #[.int .i64 x0] w fun en w' => ∃ v, en = .returned v ∧ Q v w' :=
  calls_of_vc good follows an33 (args := [.int .i64 x0]) Try.func33 (by kernel_rfl) ok33 (of_decide_eq_true (by kernel_rfl)) (Eq.mp (eq33 x0 w Q) h)

/-- bastion/bastionlaw24.StrideFair -/
def F6 (x0 : Array Value) (x1 : Sl) (x2 : Sl) (w : World) (Q : Value → World → Prop) : Prop :=
 ∀ b3 w1, NewB w (.cells x0 54) b3 w1 →
 ∃ J : Bool → World → Prop, (Calls prog 11 #[] w1 fun en w1_1 =>
 ∃ t22 : Bool, en = .returned (.bool t22) ∧
 IfB (!t22)
 (J true w1_1)
 (J (decide (((x1.l : Nat) : Int) > (300 : Int))) w1_1)) ∧
 (∀ (u : Env) (x28 : Bool) (w1_1 : World), J x28 w1_1 →
 IfB x28
 (Calls prog 11 #[] w1_1 fun en w1_2 =>
 ∃ t29 : Bool, en = .returned (.bool t29) ∧
 Q (.bool t29) w1_2)
 (RunT prog .slice (Instr.buildSlice 28 4 #[(0, .string (⟨#[109]⟩ : ByteArray)), (1, .string (⟨#[97]⟩ : ByteArray)), (2, .string (⟨#[122]⟩ : ByteArray)), (3, .string (⟨#[98]⟩ : ByteArray))]) w1_1 fun (t30 : Sl) w1_2 =>
 Calls prog 12 #[] w1_2 fun en w1_3 =>
 ∃ t31 : Option Addr, en = .returned (.pointer t31) ∧
 ∃ (I : Nat → Int → World → Prop) (n0 : Nat), I n0 (0 : Int) w1_3 ∧
 ∀ (n : Nat) (u_1 : Env) (x9 : Int) (w1_4 : World), I n x9 w1_4 →
 IfB (decide (x9 < (4 : Int)))
 (∃ S : World → Prop, S w1_4.drew ∧
 ∃ p39, t30.a = some p39 ∧ 0 ≤ x9 ∧ x9 < ((t30.l : Nat) : Int) ∧
 ∃ t40 : ByteArray, (∀ w', S w' → Ld w' (p39.add ((x9).toNat * 1)) (.string t40)) ∧
 0 ≤ x9 ∧ x9 < 4 ∧
 ∃ t43 : Int, (∀ w', S w' → Ld w' ((⟨b3, 0, none⟩ : Addr).add ((x9).toNat * 1)) (.int .i64 t43)) ∧
 Calls prog 33 #[.int .i64 t43] w1_4.drew fun en w1_5 =>
 ∃ t44 : Int, en = .returned (.int .i64 t44) ∧
 S w1_5 ∧
 Calls prog 15 #[.pointer t31, .string t40, .int .i64 t44] w1_5 fun en w1_6 =>
 ∃ t45 : Int, en = .returned (.int .i64 t45) ∧
 IfB (t45 != (0 : Int))
 (Q (.bool false) w1_6)
 (∃ n', n' < n ∧ I n' (IntKind.wrap .i64 (x9 + (1 : Int))) w1_6))
 (∃ (I_1 : Nat → Int → Int → World → Prop) (n0_1 : Nat), I_1 n0_1 (0 : Int) (0 : Int) w1_4 ∧
 ∀ (n_1 : Nat) (u_2 : Env) (x10 : Int) (x11 : Int) (w1_5 : World), I_1 n_1 x10 x11 w1_5 →
 IfB (decide (x11 < ((x1.l : Nat) : Int)))
 (RunT prog .slice (Instr.buildSlice 28 2 #[(0, .string (⟨#[109]⟩ : ByteArray)), (1, .string (⟨#[97]⟩ : ByteArray))]) w1_5 fun (t53 : Sl) w1_6 =>
 ∃ J_1 : Sl → World → Prop, (∃ p56, x1.a = some p56 ∧ 0 ≤ x11 ∧ x11 < ((x1.l : Nat) : Int) ∧
 ∃ t57 : Int, Ld w1_6 (p56.add ((x11).toNat * 1)) (.int .u8 t57) ∧
 IfB (decide (bitsI .and .u8 t57 (1 : Int) > (0 : Int)))
 (RunT prog .slice (Instr.buildSlice 28 1 #[(0, .string (⟨#[122]⟩ : ByteArray))]) w1_6 fun (t61 : Sl) w1_7 =>
 RunT prog .slice (Builtin.append_ #[28, 28] 28 #[.slice t53.a t53.l t53.c, .slice t61.a t61.l t61.c]) w1_7 fun (t62 : Sl) w1_8 =>
 J_1 t62 w1_8)
 (J_1 t53 w1_6)) ∧
 (∀ (u_3 : Env) (x12 : Sl) (w1_7 : World), J_1 x12 w1_7 →
 ∃ J_2 : Sl → World → Prop, (∃ p65, x1.a = some p65 ∧ 0 ≤ x11 ∧ x11 < ((x1.l : Nat) : Int) ∧
 ∃ t66 : Int, Ld w1_7 (p65.add ((x11).toNat * 1)) (.int .u8 t66) ∧
 IfB (decide (bitsI .and .u8 t66 (2 : Int) > (0 : Int)))
 (RunT prog .slice (Instr.buildSlice 28 1 #[(0, .string (⟨#[98]⟩ : ByteArray))]) w1_7 fun (t70 : Sl) w1_8 =>
 RunT prog .slice (Builtin.append_ #[28, 28] 28 #[.slice x12.a x12.l x12.c, .slice t70.a t70.l t70.c]) w1_8 fun (t71 : Sl) w1_9 =>
 J_2 t71 w1_9)
 (J_2 x12 w1_7)) ∧
 (∀ (u_4 : Env) (x12_1 : Sl) (w1_8 : World), J_2 x12_1 w1_8 →
 Calls prog 13 #[.pointer t31, .slice x12_1.a x12_1.l x12_1.c] w1_8 fun en w1_9 =>
 ∃ t75a : ByteArray, ∃ t75b : Int, en = .returned (.tuple #[.string t75a, .int .i64 t75b]) ∧
 ∃ J_3 : Int → World → Prop, (IfB (decide (x11 < ((x2.l : Nat) : Int)))
 (∃ p84, x2.a = some p84 ∧ 0 ≤ x11 ∧ x11 < ((x2.l : Nat) : Int) ∧
 ∃ t85 : Int, Ld w1_9 (p84.add ((x11).toNat * 1)) (.int .u16 t85) ∧
 (1001 : Int) ≠ 0 ∧
 J_3 (Int.tmod (IntKind.wrap .i64 t85) (1001 : Int)) w1_9)
 (J_3 (1 : Int) w1_9)) ∧
 (∀ (u_5 : Env) (x15 : Int) (w1_10 : World), J_3 x15 w1_10 →
 ∃ J_4 : Bool → World → Prop, (IfB (t75b != (0 : Int))
 (J_4 true w1_10)
 (Calls prog 18 #[.pointer t31, .string t75a, .int .i64 x15] w1_10 fun en w1_11 =>
 ∃ t94 : Int, en = .returned (.int .i64 t94) ∧
 J_4 (t94 != (0 : Int)) w1_11)) ∧
 (∀ (u_6 : Env) (x96 : Bool) (w1_11 : World), J_4 x96 w1_11 →
 IfB x96
 (Q (.bool false) w1_11)
 (Calls prog 19 #[.pointer t31, .string (⟨#[109]⟩ : ByteArray)] w1_11 fun en w1_12 =>
 ∃ t102a : Int, ∃ t102b : Int, ∃ t102c : Bool, en = .returned (.tuple #[.int .i64 t102a, .int .i64 t102b, .bool t102c]) ∧
 Calls prog 19 #[.pointer t31, .string (⟨#[97]⟩ : ByteArray)] w1_12 fun en w1_13 =>
 ∃ t108a : Int, ∃ t108b : Int, ∃ t108c : Bool, en = .returned (.tuple #[.int .i64 t108a, .int .i64 t108b, .bool t108c]) ∧
 IfB (!t102c)
 (Q (.bool false) w1_13)
 (IfB (!t108c)
 (Q (.bool false) w1_13)
 (IfB (decide (IntKind.wrap .i64 ((IntKind.wrap .i64 (t102b * t108a)) - (IntKind.wrap .i64 (t108b * t102a))) > IntKind.wrap .i64 ((if x15 > x10 then x15 else x10) * t108a)))
 (Q (.bool false) w1_13)
 (IfB (decide (IntKind.wrap .i64 ((IntKind.wrap .i64 (t108b * t102a)) - (IntKind.wrap .i64 (t102b * t108a))) > IntKind.wrap .i64 ((if x15 > x10 then x15 else x10) * t102a)))
 (Q (.bool false) w1_13)
 (∃ n', n' < n_1 ∧ I_1 n' (if x15 > x10 then x15 else x10) (IntKind.wrap .i64 (x11 + (1 : Int))) w1_13))))))))))
 (Q (.bool true) w1_5))))
def an6 : Ann := { cut := fun i => bif Nat.beq i 2 then some [(28, .bool)] else bif Nat.beq i 17 then some [(12, .slice)] else bif Nat.beq i 19 then some [(12, .slice)] else bif Nat.beq i 23 then some [(15, .int .i64)] else bif Nat.beq i 24 then some [(96, .bool)] else none, loop := fun i => bif Nat.beq i 6 then [(9, .int .i64)] else bif Nat.beq i 12 then [(10, .int .i64), (11, .int .i64)] else [] }
theorem eq6 (x0 : Array Value) (x1 : Sl) (x2 : Sl) (w : World) (Q : Value → World → Prop) : F6 x0 x1 x2 w Q = vc prog an6 (Try.f6.body.getD .skip) (envOf [.agg x0, .slice x1.a x1.l x1.c, .slice x2.a x2.l x2.c]) w (retK prog Try.f6 Q) := by kernel_rfl
theorem ok6 : codeOk Try.f6.ntmps (Try.f6.body.getD .skip) = true := by kernel_rfl
theorem W6 {x0 : Array Value} {x1 : Sl} {x2 : Sl} {w : World} {Q : Value → World → Prop} (h : F6 x0 x1 x2 w Q) : Calls prog 6 #[.agg x0, .slice x1.a x1.l x1.c, .slice x2.a x2.l x2.c] w fun en w' => ∃ v, en = .returned v ∧ Q v w' :=
  calls_of_vc good follows an6 (args := [.agg x0, .slice x1.a x1.l x1.c, .slice x2.a x2.l x2.c]) Try.func6 (by kernel_rfl) ok6 (of_decide_eq_true (by kernel_rfl)) (Eq.mp (eq6 x0 x1 x2 w Q) h)

/-- bastion/bastionlaw24.StrideTurns -/
def F7 (x0 : Sl) (x1 : Int) (w : World) (Q : Value → World → Prop) : Prop :=
 ∃ J : Bool → World → Prop, (Calls prog 11 #[] w fun en w1 =>
 ∃ t21 : Bool, en = .returned (.bool t21) ∧
 IfB (!t21)
 (J true w1)
 (J ((if (4 : Int) < ((x0.l : Nat) : Int) then (4 : Int) else ((x0.l : Nat) : Int)) == (0 : Int)) w1)) ∧
 (∀ (u : Env) (x26 : Bool) (w1 : World), J x26 w1 →
 IfB x26
 (Calls prog 11 #[] w1 fun en w1_1 =>
 ∃ t27 : Bool, en = .returned (.bool t27) ∧
 Q (.bool t27) w1_1)
 ((301 : Int) ≠ 0 ∧
 RunT prog .slice (Instr.buildSlice 28 4 #[(0, .string (⟨#[100]⟩ : ByteArray)), (1, .string (⟨#[99]⟩ : ByteArray)), (2, .string (⟨#[97]⟩ : ByteArray)), (3, .string (⟨#[98]⟩ : ByteArray))]) w1 fun (t32 : Sl) w1_1 =>
 Calls prog 12 #[] w1_1 fun en w1_2 =>
 ∃ t33 : Option Addr, en = .returned (.pointer t33) ∧
 ∃ (I : Nat → Int → Int → World → Prop) (n0 : Nat), I n0 (0 : Int) (0 : Int) w1_2 ∧
 ∀ (n : Nat) (u_1 : Env) (x8 : Int) (x9 : Int) (w1_3 : World), I n x8 x9 w1_3 →
 IfB (decide (x9 < (if (4 : Int) < ((x0.l : Nat) : Int) then (4 : Int) else ((x0.l : Nat) : Int))))
 (∃ S : World → Prop, S w1_3.drew ∧
 ∃ p42, t32.a = some p42 ∧ 0 ≤ x9 ∧ x9 < ((t32.l : Nat) : Int) ∧
 ∃ t43 : ByteArray, (∀ w', S w' → Ld w' (p42.add ((x9).toNat * 1)) (.string t43)) ∧
 ∃ p46, x0.a = some p46 ∧ 0 ≤ x9 ∧ x9 < ((x0.l : Nat) : Int) ∧
 ∃ t47 : Int, (∀ w', S w' → Ld w' (p46.add ((x9).toNat * 1)) (.int .i64 t47)) ∧
 Calls prog 33 #[.int .i64 t47] w1_3.drew fun en w1_4 =>
 ∃ t48 : Int, en = .returned (.int .i64 t48) ∧
 S w1_4 ∧
 Calls prog 15 #[.pointer t33, .string t43, .int .i64 t48] w1_4 fun en w1_5 =>
 ∃ t49 : Int, en = .returned (.int .i64 t49) ∧
 IfB (t49 != (0 : Int))
 (Q (.bool false) w1_5)
 (∃ p54, x0.a = some p54 ∧ 0 ≤ x9 ∧ x9 < ((x0.l : Nat) : Int) ∧
 ∃ t55 : Int, Ld w1_5 (p54.add ((x9).toNat * 1)) (.int .i64 t55) ∧
 Calls prog 33 #[.int .i64 t55] w1_5 fun en w1_6 =>
 ∃ t56 : Int, en = .returned (.int .i64 t56) ∧
 ∃ n', n' < n ∧ I n' (IntKind.wrap .i64 (x8 + t56)) (IntKind.wrap .i64 (x9 + (1 : Int))) w1_6))
 (∃ (I_1 : Nat → Int → World → Prop) (n0_1 : Nat), I_1 n0_1 (1 : Int) w1_3 ∧
 ∀ (n_1 : Nat) (u_2 : Env) (x10 : Int) (w1_4 : World), I_1 n_1 x10 w1_4 →
 IfB (decide (x10 ≤ IntKind.wrap .i64 (Int.tmod (IntKind.wrap .u64 x1) (301 : Int))))
 ((0 ≤ (if (4 : Int) < ((x0.l : Nat) : Int) then (4 : Int) else ((x0.l : Nat) : Int)) ∧ (if (4 : Int) < ((x0.l : Nat) : Int) then (4 : Int) else ((x0.l : Nat) : Int)) ≤ ((t32.c : Nat) : Int)) ∧
 Calls prog 13 #[.pointer t33, .slice (slA t32.a 0 t32.c 1) (((if (4 : Int) < ((x0.l : Nat) : Int) then (4 : Int) else ((x0.l : Nat) : Int))).toNat - 0) (t32.c - 0)] w1_4 fun en w1_5 =>
 ∃ t68a : ByteArray, ∃ t68b : Int, en = .returned (.tuple #[.string t68a, .int .i64 t68b]) ∧
 ∃ J_1 : Bool → World → Prop, (IfB (t68b != (0 : Int))
 (J_1 true w1_5)
 (Calls prog 18 #[.pointer t33, .string t68a, .int .i64 1] w1_5 fun en w1_6 =>
 ∃ t76 : Int, en = .returned (.int .i64 t76) ∧
 J_1 (t76 != (0 : Int)) w1_6)) ∧
 (∀ (u_3 : Env) (x78 : Bool) (w1_6 : World), J_1 x78 w1_6 →
 IfB x78
 (Q (.bool false) w1_6)
 (∃ (I_2 : Nat → Int → Int → World → Prop) (n0_2 : Nat), I_2 n0_2 (0 : Int) (0 : Int) w1_6 ∧
 ∀ (n_2 : Nat) (u_4 : Env) (x13 : Int) (x14 : Int) (w1_7 : World), I_2 n_2 x13 x14 w1_7 →
 IfB (decide (x14 < (if (4 : Int) < ((x0.l : Nat) : Int) then (4 : Int) else ((x0.l : Nat) : Int))))
 (∃ p88, t32.a = some p88 ∧ 0 ≤ x14 ∧ x14 < ((t32.l : Nat) : Int) ∧
 ∃ t89 : ByteArray, Ld w1_7 (p88.add ((x14).toNat * 1)) (.string t89) ∧
 Calls prog 19 #[.pointer t33, .string t89] w1_7 fun en w1_8 =>
 ∃ t90a : Int, ∃ t90b : Int, ∃ t90c : Bool, en = .returned (.tuple #[.int .i64 t90a, .int .i64 t90b, .bool t90c]) ∧
 IfB (!t90c)
 (Q (.bool false) w1_8)
 (IfB (decide (IntKind.wrap .i64 (t90b * x8) < IntKind.wrap .i64 ((IntKind.wrap .i64 ((IntKind.wrap .i64 (x10 - (if (4 : Int) < ((x0.l : Nat) : Int) then (4 : Int) else ((x0.l : Nat) : Int)))) + (1 : Int))) * t90a)))
 (Q (.bool false) w1_8)
 (IfB (decide (IntKind.wrap .i64 (t90b * x8) ≥ IntKind.wrap .i64 ((IntKind.wrap .i64 (x10 * t90a)) + x8)))
 (Q (.bool false) w1_8)
 (∃ n', n' < n_2 ∧ I_2 n' (IntKind.wrap .i64 (x13 + t90b)) (IntKind.wrap .i64 (x14 + (1 : Int))) w1_8))))
 (IfB (x13 != x10)
 (Q (.bool false) w1_7)
 (∃ n', n' < n_1 ∧ I_1 n' (IntKind.wrap .i64 (x10 + (1 : Int))) w1_7)))))
 (Q (.bool true) w1_4))))
def an7 : Ann := { cut := fun i => bif Nat.beq i 3 then some [(26, .bool)] else bif Nat.beq i 19 then some [(78, .bool)] else none, loop := fun i => bif Nat.beq i 9 then [(8, .int .i64), (9, .int .i64)] else bif Nat.beq i 15 then [(10, .int .i64)] else bif Nat.beq i 22 then [(13, .int .i64), (14, .int .i64)] else [] }
theorem eq7 (x0 : Sl) (x1 : Int) (w : World) (Q : Value → World → Prop) : F7 x0 x1 w Q = vc prog an7 (Try.f7.body.getD .skip) (envOf [.slice x0.a x0.l x0.c, .int .i64 x1]) w (retK prog Try.f7 Q) := by kernel_rfl
theorem ok7 : codeOk Try.f7.ntmps (Try.f7.body.getD .skip) = true := by kernel_rfl
theorem W7 {x0 : Sl} {x1 : Int} {w : World} {Q : Value → World → Prop} (h : F7 x0 x1 w Q) : Calls prog 7 #[.slice x0.a x0.l x0.c, .int .i64 x1] w fun en w' => ∃ v, en = .returned v ∧ Q v w' :=
  calls_of_vc good follows an7 (args := [.slice x0.a x0.l x0.c, .int .i64 x1]) Try.func7 (by kernel_rfl) ok7 (of_decide_eq_true (by kernel_rfl)) (Eq.mp (eq7 x0 x1 w Q) h)

/-- bastion/bastionlaw24.look -/
def F34 (x0 : Option Addr) (x1 : Sl) (w : World) (Q : Value → World → Prop) : Prop :=
 Calls prog 21 #[.pointer x0] w fun en w1 =>
 ∃ t14 : Sl, en = .returned (.slice t14.a t14.l t14.c) ∧
 ∃ (I : Nat → Sl → Int → World → Prop) (n0 : Nat), I n0 (⟨none, 0, 0⟩ : Sl) (0 : Int) w1 ∧
 ∀ (n : Nat) (u : Env) (x5 : Sl) (x7 : Int) (w1_1 : World), I n x5 x7 w1_1 →
 IfB (decide (x7 < ((t14.l : Nat) : Int)))
 (∃ p25, t14.a = some p25 ∧ 0 ≤ x7 ∧ x7 < ((t14.l : Nat) : Int) ∧
 ∃ t26 : ByteArray, Ld w1_1 (p25.add ((x7).toNat * 1)) (.string t26) ∧
 Calls prog 19 #[.pointer x0, .string t26] w1_1 fun en w1_2 =>
 ∃ t27a : Int, ∃ t27b : Int, ∃ t27c : Bool, en = .returned (.tuple #[.int .i64 t27a, .int .i64 t27b, .bool t27c]) ∧
 ∃ p33, t14.a = some p33 ∧ 0 ≤ x7 ∧ x7 < ((t14.l : Nat) : Int) ∧
 ∃ t34 : ByteArray, Ld w1_2 (p33.add ((x7).toNat * 1)) (.string t34) ∧
 ∃ t37 : Array Value, BuildIs prog 67 #[(0, .string t34), (1, .int .i64 t27a), (2, .int .i64 t27b)] t37 ∧
 ∀ b11 w1_3, NewB w1_2 (.cells #[.string (⟨#[]⟩ : ByteArray), .int .i64 0, .int .i64 0, .bool false] 67) b11 w1_3 →
 t37.size = 4 ∧ (∀ u, u ∈ t37.toList → u.oneCell' = true) ∧ WrA w1_3 (⟨b11, 0, none⟩ : Addr) 4 ∧ ∀ w1_4, w1_4 = setAt w1_3 (⟨b11, 0, none⟩ : Addr) t37.toList 0 →
 ∃ (I_1 : Nat → Int → World → Prop) (n0_1 : Nat), I_1 n0_1 (0 : Int) w1_4 ∧
 ∀ (n_1 : Nat) (u_1 : Env) (x12 : Int) (w1_5 : World), I_1 n_1 x12 w1_5 →
 IfB (decide (x12 < ((x1.l : Nat) : Int)))
 (∃ S : World → Prop, S w1_5.drew ∧
 ∃ t45 : Bool, (∀ w', S w' → Ld w' ((⟨b11, 0, none⟩ : Addr).add 3) (.bool t45)) ∧
 IfB t45
 (Wr w1_5.drew ((⟨b11, 0, none⟩ : Addr).add 3) ∧ ∀ w1_6, w1_6 = w1_5.drew.setCell ((⟨b11, 0, none⟩ : Addr).add 3) (.bool true) →
 ∃ n', n' < n_1 ∧ I_1 n' (IntKind.wrap .i64 (x12 + (1 : Int))) w1_6)
 (∃ p49, x1.a = some p49 ∧ 0 ≤ x12 ∧ x12 < ((x1.l : Nat) : Int) ∧
 ∃ t50 : ByteArray, (∀ w', S w' → Ld w' (p49.add ((x12).toNat * 1)) (.string t50)) ∧
 ∃ p53, t14.a = some p53 ∧ 0 ≤ x7 ∧ x7 < ((t14.l : Nat) : Int) ∧
 ∃ t54 : ByteArray, (∀ w', S w' → Ld w' (p53.add ((x7).toNat * 1)) (.string t54)) ∧
 Wr w1_5.drew ((⟨b11, 0, none⟩ : Addr).add 3) ∧ ∀ w1_6, w1_6 = w1_5.drew.setCell ((⟨b11, 0, none⟩ : Addr).add 3) (.bool (t50.toList == t54.toList)) →
 ∃ n', n' < n_1 ∧ I_1 n' (IntKind.wrap .i64 (x12 + (1 : Int))) w1_6))
 (∃ t59 : Array Value, LdA w1_5 (⟨b11, 0, none⟩ : Addr) 4 t59 ∧
 RunT prog .slice (Instr.buildSlice 62 1 #[(0, .agg t59)]) w1_5 fun (t60 : Sl) w1_6 =>
 RunT prog .slice (Builtin.append_ #[62, 62] 62 #[.slice x5.a x5.l x5.c, .slice t60.a t60.l t60.c]) w1_6 fun (t61 : Sl) w1_7 =>
 ∃ n', n' < n ∧ I n' t61 (IntKind.wrap .i64 (x7 + (1 : Int))) w1_7))
 (Q (.slice x5.a x5.l x5.c) w1_1)
def an34 : Ann := { cut := fun i => none, loop := fun i => bif Nat.beq i 4 then [(5, .slice), (7, .int .i64)] else bif Nat.beq i 9 then [(12, .int .i64)] else [] }
theorem eq34 (x0 : Option Addr) (x1 : Sl) (w : World) (Q : Value → World → Prop) : F34 x0 x1 w Q = vc prog an34 (Try.f34.body.getD .skip) (envOf [.pointer x0, .slice x1.a x1.l x1.c]) w (retK prog Try.f34 Q) := by kernel_rfl
theorem ok34 : codeOk Try.f34.ntmps (Try.f34.body.getD .skip) = true := by kernel_rfl
theorem W34 {x0 : Option Addr} {x1 : Sl} {w : World} {Q : Value → World → Prop} (h : F34 x0 x1 w Q) : Calls prog 34 #[.pointer x0, .slice x1.a x1.l x1.c] w fun en w' => ∃ v, en = .returned v ∧ Q v w' :=
  calls_of_vc good follows an34 (args := [.pointer x0, .slice x1.a x1.l x1.c]) Try.func34 (by kernel_rfl) ok34 (of_decide_eq_true (by kernel_rfl)) (Eq.mp (eq34 x0 x1 w Q) h)

/-- bastion/bastionlaw24.same -/
def F35 (x0 : Sl) (x1 : Sl) (w : World) (Q : Value → World → Prop) : Prop :=
 IfB (((x0.l : Nat) : Int) != ((x1.l : Nat) : Int))
 (Q (.bool false) w)
 (∃ (I : Nat → Int → World → Prop) (n0 : Nat), I n0 (0 : Int) w ∧
 ∀ (n : Nat) (u : Env) (x5 : Int) (w1 : World), I n x5 w1 →
 IfB (decide (x5 < ((x0.l : Nat) : Int)))
 (∃ p19, x0.a = some p19 ∧ 0 ≤ x5 ∧ x5 < ((x0.l : Nat) : Int) ∧
 ∃ t20 : Array Value, LdA w1.drew (p19.add ((x5).toNat * 4)) 4 t20 ∧
 ∃ p23, x1.a = some p23 ∧ 0 ≤ x5 ∧ x5 < ((x1.l : Nat) : Int) ∧
 ∃ t24 : Array Value, LdA w1.drew (p23.add ((x5).toNat * 4)) 4 t24 ∧
 ∃ b25 : Bool, BinIs prog .neq 67 (.tmp 20) (.tmp 24) (.agg t20) (.agg t24) b25 ∧
 IfB b25
 (Q (.bool false) w1.drew)
 (∃ n', n' < n ∧ I n' (IntKind.wrap .i64 (x5 + (1 : Int))) w1.drew))
 (Q (.bool true) w1))
def an35 : Ann := { cut := fun i => none, loop := fun i => bif Nat.beq i 4 then [(5, .int .i64)] else [] }
theorem eq35 (x0 : Sl) (x1 : Sl) (w : World) (Q : Value → World → Prop) : F35 x0 x1 w Q = vc prog an35 (Try.f35.body.getD .skip) (envOf [.slice x0.a x0.l x0.c, .slice x1.a x1.l x1.c]) w (retK prog Try.f35 Q) := by kernel_rfl
theorem ok35 : codeOk Try.f35.ntmps (Try.f35.body.getD .skip) = true := by kernel_rfl
theorem W35 {x0 : Sl} {x1 : Sl} {w : World} {Q : Value → World → Prop} (h : F35 x0 x1 w Q) : Calls prog 35 #[.slice x0.a x0.l x0.c, .slice x1.a x1.l x1.c] w fun en w' => ∃ v, en = .returned v ∧ Q v w' :=
  calls_of_vc good follows an35 (args := [.slice x0.a x0.l x0.c, .slice x1.a x1.l x1.c]) Try.func35 (by kernel_rfl) ok35 (of_decide_eq_true (by kernel_rfl)) (Eq.mp (eq35 x0 x1 w Q) h)

/-- bastion/bastionlaw24.below -/
def F69 (x0 : Array Value) (x1 : Array Value) (w : World) (Q : Value → World → Prop) : Prop :=
 ∀ b2 w1, NewB w (.cells x0 67) b2 w1 →
 ∀ b3 w1_1, NewB w1 (.cells x1 67) b3 w1_1 →
 ∃ t6 : Int, Ld w1_1 ((⟨b2, 0, none⟩ : Addr).add 2) (.int .i64 t6) ∧
 ∃ t8 : Int, Ld w1_1 ((⟨b3, 0, none⟩ : Addr).add 1) (.int .i64 t8) ∧
 ∃ t11 : Int, Ld w1_1 ((⟨b3, 0, none⟩ : Addr).add 2) (.int .i64 t11) ∧
 ∃ t13 : Int, Ld w1_1 ((⟨b2, 0, none⟩ : Addr).add 1) (.int .i64 t13) ∧
 Q (.bool (decide (IntKind.wrap .i64 (t6 * t8) < IntKind.wrap .i64 (t11 * t13)))) w1_1
def an69 : Ann := { cut := fun i => none, loop := fun i => [] }
theorem eq69 (x0 : Array Value) (x1 : Array Value) (w : World) (Q : Value → World → Prop) : F69 x0 x1 w Q = vc prog an69 (Try.f69.body.getD .skip) (envOf [.agg x0, .agg x1]) w (retK prog Try.f69 Q) := by kernel_rfl
theorem ok69 : codeOk Try.f69.ntmps (Try.f69.body.getD .skip) = true := by kernel_rfl
theorem W69 {x0 : Array Value} {x1 : Array Value} {w : World} {Q : Value → World → Prop} (h : F69 x0 x1 w Q) : Calls prog 69 #[.agg x0, .agg x1] w fun en w' => ∃ v, en = .returned v ∧ Q v w' :=
  calls_of_vc good follows an69 (args := [.agg x0, .agg x1]) Try.func69 (by kernel_rfl) ok69 (of_decide_eq_true (by kernel_rfl)) (Eq.mp (eq69 x0 x1 w Q) h)

/-- bastion/bastionlaw24.returned -/
def F36 (x0 : Sl) (x1 : Sl) (x2 : ByteArray) (w : World) (Q : Value → World → Prop) : Prop :=
 IfB (((x0.l : Nat) : Int) != ((x1.l : Nat) : Int))
 (Q (.bool false) w)
 (∃ (I : Nat → Int → Int → Int → World → Prop) (n0 : Nat), I n0 (-1 : Int) (-1 : Int) (0 : Int) w ∧
 ∀ (n : Nat) (u : Env) (x7 : Int) (x8 : Int) (x9 : Int) (w1 : World), I n x7 x8 x9 w1 →
 IfB (decide (x9 < ((x1.l : Nat) : Int)))
 (∃ J : Bool → World → Prop, (∃ p24, x1.a = some p24 ∧ 0 ≤ x9 ∧ x9 < ((x1.l : Nat) : Int) ∧
 ∃ t26 : ByteArray, Ld w1.drew ((p24.add ((x9).toNat * 4)).add 0) (.string t26) ∧
 ∃ p29, x0.a = some p29 ∧ 0 ≤ x9 ∧ x9 < ((x0.l : Nat) : Int) ∧
 ∃ t31 : ByteArray, Ld w1.drew ((p29.add ((x9).toNat * 4)).add 0) (.string t31) ∧
 IfB (!(t26.toList == t31.toList))
 (J true w1.drew)
 (∃ p36, x1.a = some p36 ∧ 0 ≤ x9 ∧ x9 < ((x1.l : Nat) : Int) ∧
 ∃ t38 : Int, Ld w1.drew ((p36.add ((x9).toNat * 4)).add 1) (.int .i64 t38) ∧
 ∃ p41, x0.a = some p41 ∧ 0 ≤ x9 ∧ x9 < ((x0.l : Nat) : Int) ∧
 ∃ t43 : Int, Ld w1.drew ((p41.add ((x9).toNat * 4)).add 1) (.int .i64 t43) ∧
 IfB (t38 != t43)
 (J true w1.drew)
 (∃ p49, x1.a = some p49 ∧ 0 ≤ x9 ∧ x9 < ((x1.l : Nat) : Int) ∧
 ∃ t51 : Int, Ld w1.drew ((p49.add ((x9).toNat * 4)).add 2) (.int .i64 t51) ∧
 ∃ p54, x0.a = some p54 ∧ 0 ≤ x9 ∧ x9 < ((x0.l : Nat) : Int) ∧
 ∃ t56 : Int, Ld w1.drew ((p54.add ((x9).toNat * 4)).add 2) (.int .i64 t56) ∧
 IfB (decide (t51 < t56))
 (J true w1.drew)
 (∃ p62, x1.a = some p62 ∧ 0 ≤ x9 ∧ x9 < ((x1.l : Nat) : Int) ∧
 ∃ t64 : Bool, Ld w1.drew ((p62.add ((x9).toNat * 4)).add 3) (.bool t64) ∧
 IfB (!t64)
 (∃ p76, x1.a = some p76 ∧ 0 ≤ x9 ∧ x9 < ((x1.l : Nat) : Int) ∧
 ∃ t78 : Int, Ld w1.drew ((p76.add ((x9).toNat * 4)).add 2) (.int .i64 t78) ∧
 ∃ p81, x0.a = some p81 ∧ 0 ≤ x9 ∧ x9 < ((x0.l : Nat) : Int) ∧
 ∃ t83 : Int, Ld w1.drew ((p81.add ((x9).toNat * 4)).add 2) (.int .i64 t83) ∧
 J (t78 != t83) w1.drew)
 (∃ p69, x0.a = some p69 ∧ 0 ≤ x9 ∧ x9 < ((x0.l : Nat) : Int) ∧
 ∃ t71 : Bool, Ld w1.drew ((p69.add ((x9).toNat * 4)).add 3) (.bool t71) ∧
 IfB t71
 (∃ p76, x1.a = some p76 ∧ 0 ≤ x9 ∧ x9 < ((x1.l : Nat) : Int) ∧
 ∃ t78 : Int, Ld w1.drew ((p76.add ((x9).toNat * 4)).add 2) (.int .i64 t78) ∧
 ∃ p81, x0.a = some p81 ∧ 0 ≤ x9 ∧ x9 < ((x0.l : Nat) : Int) ∧
 ∃ t83 : Int, Ld w1.drew ((p81.add ((x9).toNat * 4)).add 2) (.int .i64 t83) ∧
 J (t78 != t83) w1.drew)
 (J false w1.drew)))))) ∧
 (∀ (u_1 : Env) (x86 : Bool) (w1_1 : World), J x86 w1_1 →
 IfB x86
 (Q (.bool false) w1_1)
 (∃ J_1 : Bool → World → Prop, (∃ S : World → Prop, S w1_1.drew ∧
 ∃ p89, x1.a = some p89 ∧ 0 ≤ x9 ∧ x9 < ((x1.l : Nat) : Int) ∧
 ∃ t91 : Bool, (∀ w', S w' → Ld w' ((p89.add ((x9).toNat * 4)).add 3) (.bool t91)) ∧
 IfB t91
 (∃ p95, x0.a = some p95 ∧ 0 ≤ x9 ∧ x9 < ((x0.l : Nat) : Int) ∧
 ∃ t97 : Bool, (∀ w', S w' → Ld w' ((p95.add ((x9).toNat * 4)).add 3) (.bool t97)) ∧
 IfB t97
 (IfB (decide (x7 < (0 : Int)))
 (J_1 true w1_1.drew)
 (∃ p105, x1.a = some p105 ∧ 0 ≤ x9 ∧ x9 < ((x1.l : Nat) : Int) ∧
 ∃ t106 : Array Value, (∀ w', S w' → LdA w' (p105.add ((x9).toNat * 4)) 4 t106) ∧
 ∃ p109, x1.a = some p109 ∧ 0 ≤ x7 ∧ x7 < ((x1.l : Nat) : Int) ∧
 ∃ t110 : Array Value, (∀ w', S w' → LdA w' (p109.add ((x7).toNat * 4)) 4 t110) ∧
 Calls prog 69 #[.agg t106, .agg t110] w1_1.drew fun en w1_2 =>
 ∃ t111 : Bool, en = .returned (.bool t111) ∧
 J_1 t111 w1_2))
 (J_1 false w1_1.drew))
 (J_1 false w1_1.drew)) ∧
 (∀ (u_2 : Env) (x113 : Bool) (w1_2 : World), J_1 x113 w1_2 →
 IfB x113
 (∃ p117, x1.a = some p117 ∧ 0 ≤ x9 ∧ x9 < ((x1.l : Nat) : Int) ∧
 ∃ t119 : ByteArray, Ld w1_2 ((p117.add ((x9).toNat * 4)).add 0) (.string t119) ∧
 IfB (t119.toList == x2.toList)
 (∃ n', n' < n ∧ I n' x9 x9 (IntKind.wrap .i64 (x9 + (1 : Int))) w1_2)
 (∃ n', n' < n ∧ I n' x9 x8 (IntKind.wrap .i64 (x9 + (1 : Int))) w1_2))
 (∃ p117, x1.a = some p117 ∧ 0 ≤ x9 ∧ x9 < ((x1.l : Nat) : Int) ∧
 ∃ t119 : ByteArray, Ld w1_2 ((p117.add ((x9).toNat * 4)).add 0) (.string t119) ∧
 IfB (t119.toList == x2.toList)
 (∃ n', n' < n ∧ I n' x7 x9 (IntKind.wrap .i64 (x9 + (1 : Int))) w1_2)
 (∃ n', n' < n ∧ I n' x7 x8 (IntKind.wrap .i64 (x9 + (1 : Int))) w1_2))))))
 (∃ J : Bool → World → Prop, (IfB (decide (x8 < (0 : Int)))
 (J true w1)
 (∃ p128, x1.a = some p128 ∧ 0 ≤ x8 ∧ x8 < ((x1.l : Nat) : Int) ∧
 ∃ t130 : Bool, Ld w1 ((p128.add ((x8).toNat * 4)).add 3) (.bool t130) ∧
 J (!t130) w1)) ∧
 (∀ (u_1 : Env) (x132 : Bool) (w1_1 : World), J x132 w1_1 →
 IfB x132
 (Q (.bool false) w1_1)
 (∃ (I_1 : Nat → Int → World → Prop) (n0_1 : Nat), I_1 n0_1 (0 : Int) w1_1 ∧
 ∀ (n_1 : Nat) (u_2 : Env) (x10 : Int) (w1_2 : World), I_1 n_1 x10 w1_2 →
 IfB (decide (x10 < ((x1.l : Nat) : Int)))
 (∃ p141, x1.a = some p141 ∧ 0 ≤ x10 ∧ x10 < ((x1.l : Nat) : Int) ∧
 ∃ t143 : Bool, Ld w1_2 ((p141.add ((x10).toNat * 4)).add 3) (.bool t143) ∧
 IfB (!t143)
 (∃ n', n' < n_1 ∧ I_1 n' (IntKind.wrap .i64 (x10 + (1 : Int))) w1_2)
 (∃ S : World → Prop, S w1_2.drew ∧
 ∃ p147, x1.a = some p147 ∧ 0 ≤ x10 ∧ x10 < ((x1.l : Nat) : Int) ∧
 ∃ t148 : Array Value, (∀ w', S w' → LdA w' (p147.add ((x10).toNat * 4)) 4 t148) ∧
 ∃ p151, x1.a = some p151 ∧ 0 ≤ x8 ∧ x8 < ((x1.l : Nat) : Int) ∧
 ∃ t152 : Array Value, (∀ w', S w' → LdA w' (p151.add ((x8).toNat * 4)) 4 t152) ∧
 Calls prog 69 #[.agg t148, .agg t152] w1_2.drew fun en w1_3 =>
 ∃ t153 : Bool, en = .returned (.bool t153) ∧
 ∃ S_1 : World → Prop, (∀ w', S_1 w' → S w') ∧ S_1 w1_3 ∧
 IfB t153
 (Q (.bool false) w1_3)
 (IfB (decide (x7 ≥ (0 : Int)))
 (∃ p160, x1.a = some p160 ∧ 0 ≤ x10 ∧ x10 < ((x1.l : Nat) : Int) ∧
 ∃ t161 : Array Value, (∀ w', S_1 w' → LdA w' (p160.add ((x10).toNat * 4)) 4 t161) ∧
 ∃ p164, x1.a = some p164 ∧ 0 ≤ x7 ∧ x7 < ((x1.l : Nat) : Int) ∧
 ∃ t165 : Array Value, (∀ w', S_1 w' → LdA w' (p164.add ((x7).toNat * 4)) 4 t165) ∧
 Calls prog 69 #[.agg t161, .agg t165] w1_3 fun en w1_4 =>
 ∃ t166 : Bool, en = .returned (.bool t166) ∧
 ∃ S_2 : World → Prop, (∀ w', S_2 w' → S_1 w') ∧ S_2 w1_4 ∧
 IfB t166
 (∃ p171, x1.a = some p171 ∧ 0 ≤ x10 ∧ x10 < ((x1.l : Nat) : Int) ∧
 ∃ t173 : Int, (∀ w', S_2 w' → Ld w' ((p171.add ((x10).toNat * 4)).add 2) (.int .i64 t173)) ∧
 IfB (t173 != (2147483647 : Int))
 (Q (.bool false) w1_4)
 (IfB (decide (x7 < (0 : Int)))
 (∃ p183, x1.a = some p183 ∧ 0 ≤ x10 ∧ x10 < ((x1.l : Nat) : Int) ∧
 ∃ t185 : Int, (∀ w', S_2 w' → Ld w' ((p183.add ((x10).toNat * 4)).add 2) (.int .i64 t185)) ∧
 ∃ p188, x0.a = some p188 ∧ 0 ≤ x10 ∧ x10 < ((x0.l : Nat) : Int) ∧
 ∃ t190 : Int, (∀ w', S_2 w' → Ld w' ((p188.add ((x10).toNat * 4)).add 2) (.int .i64 t190)) ∧
 IfB (t185 != t190)
 (Q (.bool false) w1_4)
 (∃ n', n' < n_1 ∧ I_1 n' (IntKind.wrap .i64 (x10 + (1 : Int))) w1_4))
 (∃ n', n' < n_1 ∧ I_1 n' (IntKind.wrap .i64 (x10 + (1 : Int))) w1_4)))
 (IfB (decide (x7 < (0 : Int)))
 (∃ p183, x1.a = some p183 ∧ 0 ≤ x10 ∧ x10 < ((x1.l : Nat) : Int) ∧
 ∃ t185 : Int, (∀ w', S_2 w' → Ld w' ((p183.add ((x10).toNat * 4)).add 2) (.int .i64 t185)) ∧
 ∃ p188, x0.a = some p188 ∧ 0 ≤ x10 ∧ x10 < ((x0.l : Nat) : Int) ∧
 ∃ t190 : Int, (∀ w', S_2 w' → Ld w' ((p188.add ((x10).toNat * 4)).add 2) (.int .i64 t190)) ∧
 IfB (t185 != t190)
 (Q (.bool false) w1_4)
 (∃ n', n' < n_1 ∧ I_1 n' (IntKind.wrap .i64 (x10 + (1 : Int))) w1_4))
 (∃ n', n' < n_1 ∧ I_1 n' (IntKind.wrap .i64 (x10 + (1 : Int))) w1_4)))
 (IfB (decide (x7 < (0 : Int)))
 (∃ p183, x1.a = some p183 ∧ 0 ≤ x10 ∧ x10 < ((x1.l : Nat) : Int) ∧
 ∃ t185 : Int, (∀ w', S_1 w' → Ld w' ((p183.add ((x10).toNat * 4)).add 2) (.int .i64 t185)) ∧
 ∃ p188, x0.a = some p188 ∧ 0 ≤ x10 ∧ x10 < ((x0.l : Nat) : Int) ∧
 ∃ t190 : Int, (∀ w', S_1 w' → Ld w' ((p188.add ((x10).toNat * 4)).add 2) (.int .i64 t190)) ∧
 IfB (t185 != t190)
 (Q (.bool false) w1_3)
 (∃ n', n' < n_1 ∧ I_1 n' (IntKind.wrap .i64 (x10 + (1 : Int))) w1_3))
 (∃ n', n' < n_1 ∧ I_1 n' (IntKind.wrap .i64 (x10 + (1 : Int))) w1_3)))))
 (Q (.bool true) w1_2)))))
def an36 : Ann := { cut := fun i => bif Nat.beq i 9 then some [(86, .bool)] else bif Nat.beq i 11 then some [(113, .bool)] else bif Nat.beq i 15 then some [(132, .bool)] else none, loop := fun i => bif Nat.beq i 6 then [(7, .int .i64), (8, .int .i64), (9, .int .i64)] else bif Nat.beq i 17 then [(10, .int .i64)] else [] }
theorem eq36 (x0 : Sl) (x1 : Sl) (x2 : ByteArray) (w : World) (Q : Value → World → Prop) : F36 x0 x1 x2 w Q = vc prog an36 (Try.f36.body.getD .skip) (envOf [.slice x0.a x0.l x0.c, .slice x1.a x1.l x1.c, .string x2]) w (retK prog Try.f36 Q) := by kernel_rfl
theorem ok36 : codeOk Try.f36.ntmps (Try.f36.body.getD .skip) = true := by kernel_rfl
theorem W36 {x0 : Sl} {x1 : Sl} {x2 : ByteArray} {w : World} {Q : Value → World → Prop} (h : F36 x0 x1 x2 w Q) : Calls prog 36 #[.slice x0.a x0.l x0.c, .slice x1.a x1.l x1.c, .string x2] w fun en w' => ∃ v, en = .returned v ∧ Q v w' :=
  calls_of_vc good follows an36 (args := [.slice x0.a x0.l x0.c, .slice x1.a x1.l x1.c, .string x2]) Try.func36 (by kernel_rfl) ok36 (of_decide_eq_true (by kernel_rfl)) (Eq.mp (eq36 x0 x1 x2 w Q) h)

/-- bastion/bastionlaw24.StrideReturns -/
def F8 (x0 : Sl) (w : World) (Q : Value → World → Prop) : Prop :=
 ∃ J : Bool → World → Prop, (Calls prog 11 #[] w fun en w1 =>
 ∃ t14 : Bool, en = .returned (.bool t14) ∧
 IfB (!t14)
 (J true w1)
 (Calls prog 22 #[.slice x0.a x0.l x0.c] w1 fun en w1_1 =>
 ∃ t18 : Bool, en = .returned (.bool t18) ∧
 J t18 w1_1)) ∧
 (∀ (u : Env) (x19 : Bool) (w1 : World), J x19 w1 →
 IfB x19
 (Calls prog 11 #[] w1 fun en w1_1 =>
 ∃ t20 : Bool, en = .returned (.bool t20) ∧
 Q (.bool t20) w1_1)
 (Calls prog 12 #[] w1 fun en w1_1 =>
 ∃ t21 : Option Addr, en = .returned (.pointer t21) ∧
 ∃ (I : Nat → Sl → Int → World → Prop) (n0 : Nat), I n0 (⟨none, 0, 0⟩ : Sl) (0 : Int) w1_1 ∧
 ∀ (n : Nat) (u_1 : Env) (x4 : Sl) (x5 : Int) (w1_2 : World), I n x4 x5 w1_2 →
 IfB (decide (x5 < ((x0.l : Nat) : Int)))
 (∃ p30, x0.a = some p30 ∧ 0 ≤ x5 ∧ x5 < ((x0.l : Nat) : Int) ∧
 ∃ t31 : Array Value, LdA w1_2 (p30.add ((x5).toNat * 4)) 4 t31 ∧
 ∀ b6 w1_3, NewB w1_2 (.cells #[.int .i64 0, .int .i64 0, .string (⟨#[]⟩ : ByteArray), .slice none 0 0] 45) b6 w1_3 →
 t31.size = 4 ∧ (∀ u, u ∈ t31.toList → u.oneCell' = true) ∧ WrA w1_3 (⟨b6, 0, none⟩ : Addr) 4 ∧ ∀ w1_4, w1_4 = setAt w1_3 (⟨b6, 0, none⟩ : Addr) t31.toList 0 →
 ∃ t33 : Int, Ld w1_4 ((⟨b6, 0, none⟩ : Addr).add 0) (.int .i64 t33) ∧
 IfB (t33 == (0 : Int))
 (∃ t38 : ByteArray, Ld w1_4 ((⟨b6, 0, none⟩ : Addr).add 2) (.string t38) ∧
 ∃ t40 : Int, Ld w1_4 ((⟨b6, 0, none⟩ : Addr).add 1) (.int .i64 t40) ∧
 Calls prog 15 #[.pointer t21, .string t38, .int .i64 t40] w1_4 fun en w1_5 =>
 ∃ t41 : Int, en = .returned (.int .i64 t41) ∧
 ∃ n', n' < n ∧ I n' x4 (IntKind.wrap .i64 (x5 + (1 : Int))) w1_5)
 (IfB (t33 == (1 : Int))
 (∃ t46 : ByteArray, Ld w1_4 ((⟨b6, 0, none⟩ : Addr).add 2) (.string t46) ∧
 Calls prog 17 #[.pointer t21, .string t46] w1_4 fun en w1_5 =>
 ∃ t47 : Int, en = .returned (.int .i64 t47) ∧
 IfB (t47 == (0 : Int))
 (∃ (I_1 : Nat → Sl → Int → World → Prop) (n0_1 : Nat), I_1 n0_1 (⟨none, 0, 0⟩ : Sl) (0 : Int) w1_5 ∧
 ∀ (n_1 : Nat) (u_2 : Env) (x7 : Sl) (x8 : Int) (w1_6 : World), I_1 n_1 x7 x8 w1_6 →
 IfB (decide (x8 < ((x4.l : Nat) : Int)))
 (∃ p57, x4.a = some p57 ∧ 0 ≤ x8 ∧ x8 < ((x4.l : Nat) : Int) ∧
 ∃ t58 : ByteArray, Ld w1_6.drew (p57.add ((x8).toNat * 1)) (.string t58) ∧
 ∃ t60 : ByteArray, Ld w1_6.drew ((⟨b6, 0, none⟩ : Addr).add 2) (.string t60) ∧
 IfB (!(t58.toList == t60.toList))
 (∃ p65, x4.a = some p65 ∧ 0 ≤ x8 ∧ x8 < ((x4.l : Nat) : Int) ∧
 ∃ t66 : ByteArray, Ld w1_6.drew (p65.add ((x8).toNat * 1)) (.string t66) ∧
 RunT prog .slice (Instr.buildSlice 28 1 #[(0, .string t66)]) w1_6.drew fun (t67 : Sl) w1_7 =>
 RunT prog .slice (Builtin.append_ #[28, 28] 28 #[.slice x7.a x7.l x7.c, .slice t67.a t67.l t67.c]) w1_7 fun (t68 : Sl) w1_8 =>
 ∃ n', n' < n_1 ∧ I_1 n' t68 (IntKind.wrap .i64 (x8 + (1 : Int))) w1_8)
 (∃ n', n' < n_1 ∧ I_1 n' x7 (IntKind.wrap .i64 (x8 + (1 : Int))) w1_6.drew))
 (∃ n', n' < n ∧ I n' x7 (IntKind.wrap .i64 (x5 + (1 : Int))) w1_6))
 (∃ n', n' < n ∧ I n' x4 (IntKind.wrap .i64 (x5 + (1 : Int))) w1_5))
 (IfB (t33 == (2 : Int))
 (∃ t74 : ByteArray, Ld w1_4 ((⟨b6, 0, none⟩ : Addr).add 2) (.string t74) ∧
 ∃ t76 : Int, Ld w1_4 ((⟨b6, 0, none⟩ : Addr).add 1) (.int .i64 t76) ∧
 Calls prog 18 #[.pointer t21, .string t74, .int .i64 t76] w1_4 fun en w1_5 =>
 ∃ t77 : Int, en = .returned (.int .i64 t77) ∧
 ∃ n', n' < n ∧ I n' x4 (IntKind.wrap .i64 (x5 + (1 : Int))) w1_5)
 (Calls prog 34 #[.pointer t21, .slice x4.a x4.l x4.c] w1_4 fun en w1_5 =>
 ∃ t80 : Sl, en = .returned (.slice t80.a t80.l t80.c) ∧
 ∃ t84 : Sl, Ld w1_5 ((⟨b6, 0, none⟩ : Addr).add 3) (.slice t84.a t84.l t84.c) ∧
 Calls prog 13 #[.pointer t21, .slice t84.a t84.l t84.c] w1_5 fun en w1_6 =>
 ∃ t85a : ByteArray, ∃ t85b : Int, en = .returned (.tuple #[.string t85a, .int .i64 t85b]) ∧
 ∃ t90 : Sl, Ld w1_6 ((⟨b6, 0, none⟩ : Addr).add 3) (.slice t90.a t90.l t90.c) ∧
 Calls prog 34 #[.pointer t21, .slice t90.a t90.l t90.c] w1_6 fun en w1_7 =>
 ∃ t91 : Sl, en = .returned (.slice t91.a t91.l t91.c) ∧
 IfB (t85b != (0 : Int))
 (Calls prog 34 #[.pointer t21, .slice x4.a x4.l x4.c] w1_7 fun en w1_8 =>
 ∃ t97 : Sl, en = .returned (.slice t97.a t97.l t97.c) ∧
 Calls prog 35 #[.slice t80.a t80.l t80.c, .slice t97.a t97.l t97.c] w1_8 fun en w1_9 =>
 ∃ t98 : Bool, en = .returned (.bool t98) ∧
 IfB (!t98)
 (Q (.bool false) w1_9)
 (∃ n', n' < n ∧ I n' x4 (IntKind.wrap .i64 (x5 + (1 : Int))) w1_9))
 (Calls prog 36 #[.slice t80.a t80.l t80.c, .slice t91.a t91.l t91.c, .string t85a] w1_7 fun en w1_8 =>
 ∃ t103 : Bool, en = .returned (.bool t103) ∧
 IfB (!t103)
 (Q (.bool false) w1_8)
 (∃ J_1 : World → Prop, (∃ t106 : Int, Ld w1_8 ((⟨b6, 0, none⟩ : Addr).add 1) (.int .i64 t106) ∧
 IfB (decide (t106 ≥ (0 : Int)))
 (∃ t111 : Int, Ld w1_8 ((⟨b6, 0, none⟩ : Addr).add 1) (.int .i64 t111) ∧
 Calls prog 18 #[.pointer t21, .string t85a, .int .i64 t111] w1_8 fun en w1_9 =>
 ∃ t112 : Int, en = .returned (.int .i64 t112) ∧
 J_1  w1_9)
 (J_1  w1_8)) ∧
 (∀ (u_2 : Env) (w1_9 : World), J_1  w1_9 →
 ∃ (I_1 : Nat → Sl → Int → World → Prop) (n0_1 : Nat), I_1 n0_1 (⟨none, 0, 0⟩ : Sl) (0 : Int) w1_9 ∧
 ∀ (n_1 : Nat) (u_3 : Env) (x4_1 : Sl) (x13 : Int) (w1_10 : World), I_1 n_1 x4_1 x13 w1_10 →
 IfB (decide (x13 < ((t91.l : Nat) : Int)))
 (∃ p121, t91.a = some p121 ∧ 0 ≤ x13 ∧ x13 < ((t91.l : Nat) : Int) ∧
 ∃ t123 : Bool, Ld w1_10 ((p121.add ((x13).toNat * 4)).add 3) (.bool t123) ∧
 IfB t123
 (∃ p127, t91.a = some p127 ∧ 0 ≤ x13 ∧ x13 < ((t91.l : Nat) : Int) ∧
 ∃ t129 : ByteArray, Ld w1_10 ((p127.add ((x13).toNat * 4)).add 0) (.string t129) ∧
 RunT prog .slice (Instr.buildSlice 28 1 #[(0, .string t129)]) w1_10 fun (t130 : Sl) w1_11 =>
 RunT prog .slice (Builtin.append_ #[28, 28] 28 #[.slice x4_1.a x4_1.l x4_1.c, .slice t130.a t130.l t130.c]) w1_11 fun (t131 : Sl) w1_12 =>
 ∃ n', n' < n_1 ∧ I_1 n' t131 (IntKind.wrap .i64 (x13 + (1 : Int))) w1_12)
 (∃ n', n' < n_1 ∧ I_1 n' x4_1 (IntKind.wrap .i64 (x13 + (1 : Int))) w1_10))
 (∃ n', n' < n ∧ I n' x4_1 (IntKind.wrap .i64 (x5 + (1 : Int))) w1_10))))))))
 (Q (.bool true) w1_2)))
def an8 : Ann := { cut := fun i => bif Nat.beq i 2 then some [(19, .bool)] else bif Nat.beq i 33 then some [] else none, loop := fun i => bif Nat.beq i 6 then [(4, .slice), (5, .int .i64)] else bif Nat.beq i 16 then [(7, .slice), (8, .int .i64)] else bif Nat.beq i 35 then [(4, .slice), (13, .int .i64)] else [] }
theorem eq8 (x0 : Sl) (w : World) (Q : Value → World → Prop) : F8 x0 w Q = vc prog an8 (Try.f8.body.getD .skip) (envOf [.slice x0.a x0.l x0.c]) w (retK prog Try.f8 Q) := by kernel_rfl
theorem ok8 : codeOk Try.f8.ntmps (Try.f8.body.getD .skip) = true := by kernel_rfl
theorem W8 {x0 : Sl} {w : World} {Q : Value → World → Prop} (h : F8 x0 w Q) : Calls prog 8 #[.slice x0.a x0.l x0.c] w fun en w' => ∃ v, en = .returned v ∧ Q v w' :=
  calls_of_vc good follows an8 (args := [.slice x0.a x0.l x0.c]) Try.func8 (by kernel_rfl) ok8 (of_decide_eq_true (by kernel_rfl)) (Eq.mp (eq8 x0 w Q) h)

/-- bastion/bastionlaw24.played -/
def F37 (x0 : Sl) (w : World) (Q : Value → World → Prop) : Prop :=
 Calls prog 12 #[] w fun en w1 =>
 ∃ t8 : Option Addr, en = .returned (.pointer t8) ∧
 ∃ (I : Nat → Int → World → Prop) (n0 : Nat), I n0 (0 : Int) w1 ∧
 ∀ (n : Nat) (u : Env) (x4 : Int) (w1_1 : World), I n x4 w1_1 →
 IfB (decide (x4 < ((x0.l : Nat) : Int)))
 (∃ p17, x0.a = some p17 ∧ 0 ≤ x4 ∧ x4 < ((x0.l : Nat) : Int) ∧
 ∃ t18 : Array Value, LdA w1_1 (p17.add ((x4).toNat * 4)) 4 t18 ∧
 ∀ b5 w1_2, NewB w1_1 (.cells #[.int .i64 0, .int .i64 0, .string (⟨#[]⟩ : ByteArray), .slice none 0 0] 45) b5 w1_2 →
 t18.size = 4 ∧ (∀ u, u ∈ t18.toList → u.oneCell' = true) ∧ WrA w1_2 (⟨b5, 0, none⟩ : Addr) 4 ∧ ∀ w1_3, w1_3 = setAt w1_2 (⟨b5, 0, none⟩ : Addr) t18.toList 0 →
 ∃ t20 : Int, Ld w1_3 ((⟨b5, 0, none⟩ : Addr).add 0) (.int .i64 t20) ∧
 IfB (t20 == (0 : Int))
 (∃ t44 : ByteArray, Ld w1_3 ((⟨b5, 0, none⟩ : Addr).add 2) (.string t44) ∧
 ∃ t46 : Int, Ld w1_3 ((⟨b5, 0, none⟩ : Addr).add 1) (.int .i64 t46) ∧
 Calls prog 15 #[.pointer t8, .string t44, .int .i64 t46] w1_3 fun en w1_4 =>
 ∃ t47 : Int, en = .returned (.int .i64 t47) ∧
 ∃ n', n' < n ∧ I n' (IntKind.wrap .i64 (x4 + (1 : Int))) w1_4)
 (IfB (t20 == (1 : Int))
 (∃ t52 : ByteArray, Ld w1_3 ((⟨b5, 0, none⟩ : Addr).add 2) (.string t52) ∧
 Calls prog 17 #[.pointer t8, .string t52] w1_3 fun en w1_4 =>
 ∃ t53 : Int, en = .returned (.int .i64 t53) ∧
 ∃ n', n' < n ∧ I n' (IntKind.wrap .i64 (x4 + (1 : Int))) w1_4)
 (IfB (t20 == (2 : Int))
 (∃ t58 : ByteArray, Ld w1_3 ((⟨b5, 0, none⟩ : Addr).add 2) (.string t58) ∧
 ∃ t60 : Int, Ld w1_3 ((⟨b5, 0, none⟩ : Addr).add 1) (.int .i64 t60) ∧
 Calls prog 18 #[.pointer t8, .string t58, .int .i64 t60] w1_3 fun en w1_4 =>
 ∃ t61 : Int, en = .returned (.int .i64 t61) ∧
 ∃ n', n' < n ∧ I n' (IntKind.wrap .i64 (x4 + (1 : Int))) w1_4)
 (∃ t24 : Sl, Ld w1_3 ((⟨b5, 0, none⟩ : Addr).add 3) (.slice t24.a t24.l t24.c) ∧
 Calls prog 13 #[.pointer t8, .slice t24.a t24.l t24.c] w1_3 fun en w1_4 =>
 ∃ t25a : ByteArray, ∃ t25b : Int, en = .returned (.tuple #[.string t25a, .int .i64 t25b]) ∧
 IfB (t25b == (0 : Int))
 (∃ t32 : Int, Ld w1_4 ((⟨b5, 0, none⟩ : Addr).add 1) (.int .i64 t32) ∧
 IfB (decide (t32 ≥ (0 : Int)))
 (∃ t38 : Int, Ld w1_4 ((⟨b5, 0, none⟩ : Addr).add 1) (.int .i64 t38) ∧
 Calls prog 18 #[.pointer t8, .string t25a, .int .i64 t38] w1_4 fun en w1_5 =>
 ∃ t39 : Int, en = .returned (.int .i64 t39) ∧
 ∃ n', n' < n ∧ I n' (IntKind.wrap .i64 (x4 + (1 : Int))) w1_5)
 (∃ n', n' < n ∧ I n' (IntKind.wrap .i64 (x4 + (1 : Int))) w1_4))
 (∃ n', n' < n ∧ I n' (IntKind.wrap .i64 (x4 + (1 : Int))) w1_4)))))
 (Q (.pointer t8) w1_1)
def an37 : Ann := { cut := fun i => none, loop := fun i => bif Nat.beq i 3 then [(4, .int .i64)] else [] }
theorem eq37 (x0 : Sl) (w : World) (Q : Value → World → Prop) : F37 x0 w Q = vc prog an37 (Try.f37.body.getD .skip) (envOf [.slice x0.a x0.l x0.c]) w (retK prog Try.f37 Q) := by kernel_rfl
theorem ok37 : codeOk Try.f37.ntmps (Try.f37.body.getD .skip) = true := by kernel_rfl
theorem W37 {x0 : Sl} {w : World} {Q : Value → World → Prop} (h : F37 x0 w Q) : Calls prog 37 #[.slice x0.a x0.l x0.c] w fun en w' => ∃ v, en = .returned v ∧ Q v w' :=
  calls_of_vc good follows an37 (args := [.slice x0.a x0.l x0.c]) Try.func37 (by kernel_rfl) ok37 (of_decide_eq_true (by kernel_rfl)) (Eq.mp (eq37 x0 w Q) h)

/-- bastion/bastionlaw24.StrideBack -/
def F9 (x0 : Sl) (x1 : Sl) (w : World) (Q : Value → World → Prop) : Prop :=
 ∃ J : Bool → World → Prop, (Calls prog 11 #[] w fun en w1 =>
 ∃ t19 : Bool, en = .returned (.bool t19) ∧
 IfB (!t19)
 (J true w1)
 (Calls prog 22 #[.slice x0.a x0.l x0.c] w1 fun en w1_1 =>
 ∃ t23 : Bool, en = .returned (.bool t23) ∧
 IfB t23
 (J true w1_1)
 (Calls prog 22 #[.slice x1.a x1.l x1.c] w1_1 fun en w1_2 =>
 ∃ t27 : Bool, en = .returned (.bool t27) ∧
 J t27 w1_2))) ∧
 (∀ (u : Env) (x28 : Bool) (w1 : World), J x28 w1 →
 IfB x28
 (Calls prog 11 #[] w1 fun en w1_1 =>
 ∃ t29 : Bool, en = .returned (.bool t29) ∧
 Q (.bool t29) w1_1)
 (Calls prog 37 #[.slice x0.a x0.l x0.c] w1 fun en w1_1 =>
 ∃ t31 : Option Addr, en = .returned (.pointer t31) ∧
 Calls prog 16 #[.pointer t31] w1_1 fun en w1_2 =>
 ∃ t33 : Sl, en = .returned (.slice t33.a t33.l t33.c) ∧
 Calls prog 20 #[.slice t33.a t33.l t33.c] w1_2 fun en w1_3 =>
 ∃ t36a : Option Addr, ∃ t36b : Int, en = .returned (.tuple #[.pointer t36a, .int .i64 t36b]) ∧
 (0 ≤ IntKind.wrap .i64 (((t33.l : Nat) : Int) - (1 : Int)) ∧ IntKind.wrap .i64 (((t33.l : Nat) : Int) - (1 : Int)) ≤ ((t33.c : Nat) : Int)) ∧
 Calls prog 20 #[.slice (slA t33.a 0 t33.c 1) ((IntKind.wrap .i64 (((t33.l : Nat) : Int) - (1 : Int))).toNat - 0) (t33.c - 0)] w1_3 fun en w1_4 =>
 ∃ t45a : Option Addr, ∃ t45b : Int, en = .returned (.tuple #[.pointer t45a, .int .i64 t45b]) ∧
 RunT prog .slice (Instr.buildSlice 31 0 #[]) w1_4 fun (t49 : Sl) w1_5 =>
 RunT prog .slice (Builtin.append_ #[31, 31] 31 #[.slice t49.a t49.l t49.c, .slice t33.a t33.l t33.c]) w1_5 fun (t51 : Sl) w1_6 =>
 RunT prog .slice (Instr.buildSlice 31 1 #[(0, .int .u8 0)]) w1_6 fun (t52 : Sl) w1_7 =>
 RunT prog .slice (Builtin.append_ #[31, 31] 31 #[.slice t51.a t51.l t51.c, .slice t52.a t52.l t52.c]) w1_7 fun (t53 : Sl) w1_8 =>
 Calls prog 20 #[.slice t53.a t53.l t53.c] w1_8 fun en w1_9 =>
 ∃ t54a : Option Addr, ∃ t54b : Int, en = .returned (.tuple #[.pointer t54a, .int .i64 t54b]) ∧
 ∃ J_1 : Bool → World → Prop, (IfB (t36b != (0 : Int))
 (((J_1 true w1_9.drew) ∧
 (J_1 true w1_9.drew)) ∧
 (J_1 true w1_9.drew))
 (IfB (t45b != (4 : Int))
 (((J_1 true w1_9.drew) ∧
 (J_1 true w1_9.drew)) ∧
 (J_1 true w1_9.drew))
 (IfB (t54b != (4 : Int))
 (((J_1 true w1_9.drew) ∧
 (J_1 true w1_9.drew)) ∧
 (J_1 true w1_9.drew))
 ((Calls prog 16 #[.pointer t36a] w1_9.drew fun en w1_10 =>
 ∃ t69 : Sl, en = .returned (.slice t69.a t69.l t69.c) ∧
 (RunT prog .str (convert 31 9 (.slice t69.a t69.l t69.c)) w1_10 fun (t70 : ByteArray) w1_11 =>
 RunT prog .str (convert 31 9 (.slice t33.a t33.l t33.c)) w1_11 fun (t72 : ByteArray) w1_12 =>
 J_1 (!(t70.toList == t72.toList)) w1_12) ∧
 (RunT prog .str (convert 31 9 (.slice t33.a t33.l t33.c)) w1_10 fun (t72 : ByteArray) w1_11 =>
 RunT prog .str (convert 31 9 (.slice t69.a t69.l t69.c)) w1_11 fun (t70 : ByteArray) w1_12 =>
 J_1 (!(t70.toList == t72.toList)) w1_12)) ∧
 (RunT prog .str (convert 31 9 (.slice t33.a t33.l t33.c)) w1_9.drew fun (t72 : ByteArray) w1_10 =>
 Calls prog 16 #[.pointer t36a] w1_10 fun en w1_11 =>
 ∃ t69 : Sl, en = .returned (.slice t69.a t69.l t69.c) ∧
 RunT prog .str (convert 31 9 (.slice t69.a t69.l t69.c)) w1_11 fun (t70 : ByteArray) w1_12 =>
 J_1 (!(t70.toList == t72.toList)) w1_12))))) ∧
 (∀ (u_1 : Env) (x74 : Bool) (w1_10 : World), J_1 x74 w1_10 →
 IfB x74
 (Q (.bool false) w1_10)
 (∃ (I : Nat → Int → World → Prop) (n0 : Nat), I n0 (0 : Int) w1_10 ∧
 ∀ (n : Nat) (u_2 : Env) (x13 : Int) (w1_11 : World), I n x13 w1_11 →
 IfB (decide (x13 < ((x1.l : Nat) : Int)))
 (∃ p83, x1.a = some p83 ∧ 0 ≤ x13 ∧ x13 < ((x1.l : Nat) : Int) ∧
 ∃ t84 : Array Value, LdA w1_11 (p83.add ((x13).toNat * 4)) 4 t84 ∧
 ∀ b14 w1_12, NewB w1_11 (.cells #[.int .i64 0, .int .i64 0, .string (⟨#[]⟩ : ByteArray), .slice none 0 0] 45) b14 w1_12 →
 t84.size = 4 ∧ (∀ u, u ∈ t84.toList → u.oneCell' = true) ∧ WrA w1_12 (⟨b14, 0, none⟩ : Addr) 4 ∧ ∀ w1_13, w1_13 = setAt w1_12 (⟨b14, 0, none⟩ : Addr) t84.toList 0 →
 ∃ J_2 : Bool → World → Prop, (∃ S : World → Prop, S w1_13.drew ∧
 ∃ t86 : Int, (∀ w', S w' → Ld w' ((⟨b14, 0, none⟩ : Addr).add 0) (.int .i64 t86)) ∧
 IfB (t86 == (0 : Int))
 (∃ t91 : ByteArray, (∀ w', S w' → Ld w' ((⟨b14, 0, none⟩ : Addr).add 2) (.string t91)) ∧
 ∃ t93 : Int, (∀ w', S w' → Ld w' ((⟨b14, 0, none⟩ : Addr).add 1) (.int .i64 t93)) ∧
 ∃ t97 : ByteArray, (∀ w', S w' → Ld w' ((⟨b14, 0, none⟩ : Addr).add 2) (.string t97)) ∧
 ∃ t99 : Int, (∀ w', S w' → Ld w' ((⟨b14, 0, none⟩ : Addr).add 1) (.int .i64 t99)) ∧
 Calls prog 15 #[.pointer t31, .string t91, .int .i64 t93] w1_13.drew fun en w1_14 =>
 ∃ t94 : Int, en = .returned (.int .i64 t94) ∧
 ∃ S_1 : World → Prop, (∀ w', S_1 w' → S w') ∧ S_1 w1_14 ∧
 Calls prog 15 #[.pointer t36a, .string t97, .int .i64 t99] w1_14 fun en w1_15 =>
 ∃ t100 : Int, en = .returned (.int .i64 t100) ∧
 ∃ S_2 : World → Prop, (∀ w', S_2 w' → S_1 w') ∧ S_2 w1_15 ∧
 IfB (t94 != t100)
 (J_2 true w1_15)
 (∃ t105 : Int, (∀ w', S_2 w' → Ld w' ((⟨b14, 0, none⟩ : Addr).add 0) (.int .i64 t105)) ∧
 IfB (t105 == (1 : Int))
 (∃ t110 : ByteArray, (∀ w', S_2 w' → Ld w' ((⟨b14, 0, none⟩ : Addr).add 2) (.string t110)) ∧
 ∃ t114 : ByteArray, (∀ w', S_2 w' → Ld w' ((⟨b14, 0, none⟩ : Addr).add 2) (.string t114)) ∧
 Calls prog 17 #[.pointer t31, .string t110] w1_15 fun en w1_16 =>
 ∃ t111 : Int, en = .returned (.int .i64 t111) ∧
 ∃ S_3 : World → Prop, (∀ w', S_3 w' → S_2 w') ∧ S_3 w1_16 ∧
 Calls prog 17 #[.pointer t36a, .string t114] w1_16 fun en w1_17 =>
 ∃ t115 : Int, en = .returned (.int .i64 t115) ∧
 ∃ S_4 : World → Prop, (∀ w', S_4 w' → S_3 w') ∧ S_4 w1_17 ∧
 IfB (t111 != t115)
 (J_2 true w1_17)
 (∃ t121 : Int, (∀ w', S_4 w' → Ld w' ((⟨b14, 0, none⟩ : Addr).add 0) (.int .i64 t121)) ∧
 IfB (t121 == (2 : Int))
 (∃ t126 : ByteArray, (∀ w', S_4 w' → Ld w' ((⟨b14, 0, none⟩ : Addr).add 2) (.string t126)) ∧
 ∃ t128 : Int, (∀ w', S_4 w' → Ld w' ((⟨b14, 0, none⟩ : Addr).add 1) (.int .i64 t128)) ∧
 ∃ t132 : ByteArray, (∀ w', S_4 w' → Ld w' ((⟨b14, 0, none⟩ : Addr).add 2) (.string t132)) ∧
 ∃ t134 : Int, (∀ w', S_4 w' → Ld w' ((⟨b14, 0, none⟩ : Addr).add 1) (.int .i64 t134)) ∧
 Calls prog 18 #[.pointer t31, .string t126, .int .i64 t128] w1_17 fun en w1_18 =>
 ∃ t129 : Int, en = .returned (.int .i64 t129) ∧
 S_4 w1_18 ∧
 Calls prog 18 #[.pointer t36a, .string t132, .int .i64 t134] w1_18 fun en w1_19 =>
 ∃ t135 : Int, en = .returned (.int .i64 t135) ∧
 J_2 (t129 != t135) w1_19)
 (J_2 false w1_17)))
 (∃ t121 : Int, (∀ w', S_2 w' → Ld w' ((⟨b14, 0, none⟩ : Addr).add 0) (.int .i64 t121)) ∧
 IfB (t121 == (2 : Int))
 (∃ t126 : ByteArray, (∀ w', S_2 w' → Ld w' ((⟨b14, 0, none⟩ : Addr).add 2) (.string t126)) ∧
 ∃ t128 : Int, (∀ w', S_2 w' → Ld w' ((⟨b14, 0, none⟩ : Addr).add 1) (.int .i64 t128)) ∧
 ∃ t132 : ByteArray, (∀ w', S_2 w' → Ld w' ((⟨b14, 0, none⟩ : Addr).add 2) (.string t132)) ∧
 ∃ t134 : Int, (∀ w', S_2 w' → Ld w' ((⟨b14, 0, none⟩ : Addr).add 1) (.int .i64 t134)) ∧
 Calls prog 18 #[.pointer t31, .string t126, .int .i64 t128] w1_15 fun en w1_16 =>
 ∃ t129 : Int, en = .returned (.int .i64 t129) ∧
 S_2 w1_16 ∧
 Calls prog 18 #[.pointer t36a, .string t132, .int .i64 t134] w1_16 fun en w1_17 =>
 ∃ t135 : Int, en = .returned (.int .i64 t135) ∧
 J_2 (t129 != t135) w1_17)
 (J_2 false w1_15))))
 (∃ t105 : Int, (∀ w', S w' → Ld w' ((⟨b14, 0, none⟩ : Addr).add 0) (.int .i64 t105)) ∧
 IfB (t105 == (1 : Int))
 (∃ t110 : ByteArray, (∀ w', S w' → Ld w' ((⟨b14, 0, none⟩ : Addr).add 2) (.string t110)) ∧
 ∃ t114 : ByteArray, (∀ w', S w' → Ld w' ((⟨b14, 0, none⟩ : Addr).add 2) (.string t114)) ∧
 Calls prog 17 #[.pointer t31, .string t110] w1_13.drew fun en w1_14 =>
 ∃ t111 : Int, en = .returned (.int .i64 t111) ∧
 ∃ S_1 : World → Prop, (∀ w', S_1 w' → S w') ∧ S_1 w1_14 ∧
 Calls prog 17 #[.pointer t36a, .string t114] w1_14 fun en w1_15 =>
 ∃ t115 : Int, en = .returned (.int .i64 t115) ∧
 ∃ S_2 : World → Prop, (∀ w', S_2 w' → S_1 w') ∧ S_2 w1_15 ∧
 IfB (t111 != t115)
 (J_2 true w1_15)
 (∃ t121 : Int, (∀ w', S_2 w' → Ld w' ((⟨b14, 0, none⟩ : Addr).add 0) (.int .i64 t121)) ∧
 IfB (t121 == (2 : Int))
 (∃ t126 : ByteArray, (∀ w', S_2 w' → Ld w' ((⟨b14, 0, none⟩ : Addr).add 2) (.string t126)) ∧
 ∃ t128 : Int, (∀ w', S_2 w' → Ld w' ((⟨b14, 0, none⟩ : Addr).add 1) (.int .i64 t128)) ∧
 ∃ t132 : ByteArray, (∀ w', S_2 w' → Ld w' ((⟨b14, 0, none⟩ : Addr).add 2) (.string t132)) ∧
 ∃ t134 : Int, (∀ w', S_2 w' → Ld w' ((⟨b14, 0, none⟩ : Addr).add 1) (.int .i64 t134)) ∧
 Calls prog 18 #[.pointer t31, .string t126, .int .i64 t128] w1_15 fun en w1_16 =>
 ∃ t129 : Int, en = .returned (.int .i64 t129) ∧
 S_2 w1_16 ∧
 Calls prog 18 #[.pointer t36a, .string t132, .int .i64 t134] w1_16 fun en w1_17 =>
 ∃ t135 : Int, en = .returned (.int .i64 t135) ∧
 J_2 (t129 != t135) w1_17)
 (J_2 false w1_15)))
 (∃ t121 : Int, (∀ w', S w' → Ld w' ((⟨b14, 0, none⟩ : Addr).add 0) (.int .i64 t121)) ∧
 IfB (t121 == (2 : Int))
 (∃ t126 : ByteArray, (∀ w', S w' → Ld w' ((⟨b14, 0, none⟩ : Addr).add 2) (.string t126)) ∧
 ∃ t128 : Int, (∀ w', S w' → Ld w' ((⟨b14, 0, none⟩ : Addr).add 1) (.int .i64 t128)) ∧
 ∃ t132 : ByteArray, (∀ w', S w' → Ld w' ((⟨b14, 0, none⟩ : Addr).add 2) (.string t132)) ∧
 ∃ t134 : Int, (∀ w', S w' → Ld w' ((⟨b14, 0, none⟩ : Addr).add 1) (.int .i64 t134)) ∧
 Calls prog 18 #[.pointer t31, .string t126, .int .i64 t128] w1_13.drew fun en w1_14 =>
 ∃ t129 : Int, en = .returned (.int .i64 t129) ∧
 S w1_14 ∧
 Calls prog 18 #[.pointer t36a, .string t132, .int .i64 t134] w1_14 fun en w1_15 =>
 ∃ t135 : Int, en = .returned (.int .i64 t135) ∧
 J_2 (t129 != t135) w1_15)
 (J_2 false w1_13.drew)))) ∧
 (∀ (u_3 : Env) (x138 : Bool) (w1_14 : World), J_2 x138 w1_14 →
 IfB x138
 (Q (.bool false) w1_14)
 (∃ J_3 : World → Prop, (∃ J_4 : Bool → World → Prop, (∃ t140 : Int, Ld w1_14 ((⟨b14, 0, none⟩ : Addr).add 0) (.int .i64 t140) ∧
 IfB (decide (t140 < (0 : Int)))
 (J_4 true w1_14)
 (∃ t144 : Int, Ld w1_14 ((⟨b14, 0, none⟩ : Addr).add 0) (.int .i64 t144) ∧
 J_4 (decide (t144 > (2 : Int))) w1_14)) ∧
 (∀ (u_4 : Env) (x146 : Bool) (w1_15 : World), J_4 x146 w1_15 →
 IfB x146
 (∃ t150 : Sl, Ld w1_15 ((⟨b14, 0, none⟩ : Addr).add 3) (.slice t150.a t150.l t150.c) ∧
 Calls prog 13 #[.pointer t31, .slice t150.a t150.l t150.c] w1_15 fun en w1_16 =>
 ∃ t151a : ByteArray, ∃ t151b : Int, en = .returned (.tuple #[.string t151a, .int .i64 t151b]) ∧
 ∃ t157 : Sl, Ld w1_16 ((⟨b14, 0, none⟩ : Addr).add 3) (.slice t157.a t157.l t157.c) ∧
 Calls prog 13 #[.pointer t36a, .slice t157.a t157.l t157.c] w1_16 fun en w1_17 =>
 ∃ t158a : ByteArray, ∃ t158b : Int, en = .returned (.tuple #[.string t158a, .int .i64 t158b]) ∧
 ∃ J_5 : Bool → World → Prop, (IfB (!(t151a.toList == t158a.toList))
 (J_5 true w1_17)
 (J_5 (t151b != t158b) w1_17)) ∧
 (∀ (u_5 : Env) (x168 : Bool) (w1_18 : World), J_5 x168 w1_18 →
 IfB x168
 (Q (.bool false) w1_18)
 (∃ S : World → Prop, S w1_18.drew ∧
 IfB (t151b == (0 : Int))
 (∃ t173 : Int, (∀ w', S w' → Ld w' ((⟨b14, 0, none⟩ : Addr).add 1) (.int .i64 t173)) ∧
 IfB (decide (t173 ≥ (0 : Int)))
 (∃ t180 : Int, (∀ w', S w' → Ld w' ((⟨b14, 0, none⟩ : Addr).add 1) (.int .i64 t180)) ∧
 ∃ t185 : Int, (∀ w', S w' → Ld w' ((⟨b14, 0, none⟩ : Addr).add 1) (.int .i64 t185)) ∧
 Calls prog 18 #[.pointer t31, .string t151a, .int .i64 t180] w1_18.drew fun en w1_19 =>
 ∃ t181 : Int, en = .returned (.int .i64 t181) ∧
 S w1_19 ∧
 Calls prog 18 #[.pointer t36a, .string t158a, .int .i64 t185] w1_19 fun en w1_20 =>
 ∃ t186 : Int, en = .returned (.int .i64 t186) ∧
 IfB (t181 != t186)
 (Q (.bool false) w1_20)
 (J_3  w1_20))
 (J_3  w1_18.drew))
 (J_3  w1_18.drew))))
 (J_3  w1_15))) ∧
 (∀ (u_4 : Env) (w1_15 : World), J_3  w1_15 →
 Calls prog 16 #[.pointer t31] w1_15.drew fun en w1_16 =>
 ∃ t190 : Sl, en = .returned (.slice t190.a t190.l t190.c) ∧
 (RunT prog .str (convert 31 9 (.slice t190.a t190.l t190.c)) w1_16 fun (t191 : ByteArray) w1_17 =>
 Calls prog 16 #[.pointer t36a] w1_17 fun en w1_18 =>
 ∃ t193 : Sl, en = .returned (.slice t193.a t193.l t193.c) ∧
 RunT prog .str (convert 31 9 (.slice t193.a t193.l t193.c)) w1_18 fun (t194 : ByteArray) w1_19 =>
 IfB (!(t191.toList == t194.toList))
 (Q (.bool false) w1_19)
 (∃ n', n' < n ∧ I n' (IntKind.wrap .i64 (x13 + (1 : Int))) w1_19)) ∧
 (Calls prog 16 #[.pointer t36a] w1_16 fun en w1_17 =>
 ∃ t193 : Sl, en = .returned (.slice t193.a t193.l t193.c) ∧
 (RunT prog .str (convert 31 9 (.slice t190.a t190.l t190.c)) w1_17 fun (t191 : ByteArray) w1_18 =>
 RunT prog .str (convert 31 9 (.slice t193.a t193.l t193.c)) w1_18 fun (t194 : ByteArray) w1_19 =>
 IfB (!(t191.toList == t194.toList))
 (Q (.bool false) w1_19)
 (∃ n', n' < n ∧ I n' (IntKind.wrap .i64 (x13 + (1 : Int))) w1_19)) ∧
 (RunT prog .str (convert 31 9 (.slice t193.a t193.l t193.c)) w1_17 fun (t194 : ByteArray) w1_18 =>
 RunT prog .str (convert 31 9 (.slice t190.a t190.l t190.c)) w1_18 fun (t191 : ByteArray) w1_19 =>
 IfB (!(t191.toList == t194.toList))
 (Q (.bool false) w1_19)
 (∃ n', n' < n ∧ I n' (IntKind.wrap .i64 (x13 + (1 : Int))) w1_19)))))))
 (Q (.bool true) w1_11)))))
def an9 : Ann := { cut := fun i => bif Nat.beq i 2 then some [(28, .bool)] else bif Nat.beq i 9 then some [(74, .bool)] else bif Nat.beq i 15 then some [(138, .bool)] else bif Nat.beq i 17 then some [(146, .bool)] else bif Nat.beq i 20 then some [(168, .bool)] else bif Nat.beq i 23 then some [] else none, loop := fun i => bif Nat.beq i 11 then [(13, .int .i64)] else [] }
theorem eq9 (x0 : Sl) (x1 : Sl) (w : World) (Q : Value → World → Prop) : F9 x0 x1 w Q = vc prog an9 (Try.f9.body.getD .skip) (envOf [.slice x0.a x0.l x0.c, .slice x1.a x1.l x1.c]) w (retK prog Try.f9 Q) := by kernel_rfl
theorem ok9 : codeOk Try.f9.ntmps (Try.f9.body.getD .skip) = true := by kernel_rfl
theorem W9 {x0 : Sl} {x1 : Sl} {w : World} {Q : Value → World → Prop} (h : F9 x0 x1 w Q) : Calls prog 9 #[.slice x0.a x0.l x0.c, .slice x1.a x1.l x1.c] w fun en w' => ∃ v, en = .returned v ∧ Q v w' :=
  calls_of_vc good follows an9 (args := [.slice x0.a x0.l x0.c, .slice x1.a x1.l x1.c]) Try.func9 (by kernel_rfl) ok9 (of_decide_eq_true (by kernel_rfl)) (Eq.mp (eq9 x0 x1 w Q) h)

/-- bastion/bastionlaw24.StrideOrder -/
def F10 (x0 : Sl) (x1 : Sl) (x2 : Sl) (w : World) (Q : Value → World → Prop) : Prop :=
 ∃ J : Bool → World → Prop, (Calls prog 11 #[] w fun en w1 =>
 ∃ t19 : Bool, en = .returned (.bool t19) ∧
 IfB (!t19)
 (J true w1)
 (Calls prog 22 #[.slice x0.a x0.l x0.c] w1 fun en w1_1 =>
 ∃ t23 : Bool, en = .returned (.bool t23) ∧
 IfB t23
 (J true w1_1)
 (J (decide (IntKind.wrap .i64 (((x1.l : Nat) : Int) + ((x2.l : Nat) : Int)) > (400 : Int))) w1_1))) ∧
 (∀ (u : Env) (x32 : Bool) (w1 : World), J x32 w1 →
 IfB x32
 (Calls prog 11 #[] w1 fun en w1_1 =>
 ∃ t33 : Bool, en = .returned (.bool t33) ∧
 Q (.bool t33) w1_1)
 (Calls prog 37 #[.slice x0.a x0.l x0.c] w1 fun en w1_1 =>
 ∃ t35 : Option Addr, en = .returned (.pointer t35) ∧
 Calls prog 16 #[.pointer t35] w1_1 fun en w1_2 =>
 ∃ t38 : Sl, en = .returned (.slice t38.a t38.l t38.c) ∧
 Calls prog 20 #[.slice t38.a t38.l t38.c] w1_2 fun en w1_3 =>
 ∃ t39a : Option Addr, ∃ t39b : Int, en = .returned (.tuple #[.pointer t39a, .int .i64 t39b]) ∧
 IfB (t39b != (0 : Int))
 (Q (.bool false) w1_3)
 (∃ (I : Nat → Sl → Int → World → Prop) (n0 : Nat), I n0 (⟨none, 0, 0⟩ : Sl) (IntKind.wrap .i64 (((x1.l : Nat) : Int) - (1 : Int))) w1_3 ∧
 ∀ (n : Nat) (u_1 : Env) (x10 : Sl) (x11 : Int) (w1_4 : World), I n x10 x11 w1_4 →
 IfB (decide (x11 ≥ (0 : Int)))
 (∃ p54, x1.a = some p54 ∧ 0 ≤ x11 ∧ x11 < ((x1.l : Nat) : Int) ∧
 ∃ t55 : ByteArray, Ld w1_4 (p54.add ((x11).toNat * 1)) (.string t55) ∧
 RunT prog .slice (Instr.buildSlice 28 1 #[(0, .string t55)]) w1_4 fun (t56 : Sl) w1_5 =>
 RunT prog .slice (Builtin.append_ #[28, 28] 28 #[.slice x10.a x10.l x10.c, .slice t56.a t56.l t56.c]) w1_5 fun (t57 : Sl) w1_6 =>
 IfB (decide (x11 < ((x2.l : Nat) : Int)))
 (∃ p66, x2.a = some p66 ∧ 0 ≤ x11 ∧ x11 < ((x2.l : Nat) : Int) ∧
 ∃ t67 : ByteArray, Ld w1_6 (p66.add ((x11).toNat * 1)) (.string t67) ∧
 Calls prog 19 #[.pointer t35, .string t67] w1_6 fun en w1_7 =>
 ∃ t68a : Int, ∃ t68b : Int, ∃ t68c : Bool, en = .returned (.tuple #[.int .i64 t68a, .int .i64 t68b, .bool t68c]) ∧
 IfB (!t68c)
 (∃ S : World → Prop, S w1_7.drew ∧
 ∃ p77, x2.a = some p77 ∧ 0 ≤ x11 ∧ x11 < ((x2.l : Nat) : Int) ∧
 ∃ t78 : ByteArray, (∀ w', S w' → Ld w' (p77.add ((x11).toNat * 1)) (.string t78)) ∧
 ∃ p81, x1.a = some p81 ∧ 0 ≤ x11 ∧ x11 < ((x1.l : Nat) : Int) ∧
 ∃ t82 : ByteArray, (∀ w', S w' → Ld w' (p81.add ((x11).toNat * 1)) (.string t82)) ∧
 RunT prog .slice (Instr.buildSlice 28 2 #[(0, .string t78), (1, .string t82)]) w1_7.drew fun (t83 : Sl) w1_8 =>
 RunT prog .slice (Builtin.append_ #[28, 28] 28 #[.slice t57.a t57.l t57.c, .slice t83.a t83.l t83.c]) w1_8 fun (t84 : Sl) w1_9 =>
 ∃ n', n' < n ∧ I n' t84 (IntKind.wrap .i64 (x11 - (1 : Int))) w1_9)
 (∃ n', n' < n ∧ I n' t57 (IntKind.wrap .i64 (x11 - (1 : Int))) w1_7))
 (∃ n', n' < n ∧ I n' t57 (IntKind.wrap .i64 (x11 - (1 : Int))) w1_6))
 (Calls prog 13 #[.pointer t35, .slice x1.a x1.l x1.c] w1_4 fun en w1_5 =>
 ∃ t88a : ByteArray, ∃ t88b : Int, en = .returned (.tuple #[.string t88a, .int .i64 t88b]) ∧
 Calls prog 13 #[.pointer t39a, .slice x10.a x10.l x10.c] w1_5 fun en w1_6 =>
 ∃ t94a : ByteArray, ∃ t94b : Int, en = .returned (.tuple #[.string t94a, .int .i64 t94b]) ∧
 IfB (t88a.toList == t94a.toList)
 (IfB (t88b == t94b)
 (Calls prog 16 #[.pointer t35] w1_6.drew fun en w1_7 =>
 ∃ t107 : Sl, en = .returned (.slice t107.a t107.l t107.c) ∧
 (RunT prog .str (convert 31 9 (.slice t107.a t107.l t107.c)) w1_7 fun (t108 : ByteArray) w1_8 =>
 Calls prog 16 #[.pointer t39a] w1_8 fun en w1_9 =>
 ∃ t110 : Sl, en = .returned (.slice t110.a t110.l t110.c) ∧
 RunT prog .str (convert 31 9 (.slice t110.a t110.l t110.c)) w1_9 fun (t111 : ByteArray) w1_10 =>
 Q (.bool (t108.toList == t111.toList)) w1_10) ∧
 (Calls prog 16 #[.pointer t39a] w1_7 fun en w1_8 =>
 ∃ t110 : Sl, en = .returned (.slice t110.a t110.l t110.c) ∧
 (RunT prog .str (convert 31 9 (.slice t107.a t107.l t107.c)) w1_8 fun (t108 : ByteArray) w1_9 =>
 RunT prog .str (convert 31 9 (.slice t110.a t110.l t110.c)) w1_9 fun (t111 : ByteArray) w1_10 =>
 Q (.bool (t108.toList == t111.toList)) w1_10) ∧
 (RunT prog .str (convert 31 9 (.slice t110.a t110.l t110.c)) w1_8 fun (t111 : ByteArray) w1_9 =>
 RunT prog .str (convert 31 9 (.slice t107.a t107.l t107.c)) w1_9 fun (t108 : ByteArray) w1_10 =>
 Q (.bool (t108.toList == t111.toList)) w1_10)))
 ((Q (.bool false) w1_6.drew) ∧
 ((Q (.bool false) w1_6.drew) ∧
 (Q (.bool false) w1_6.drew))))
 ((Q (.bool false) w1_6.drew) ∧
 ((Q (.bool false) w1_6.drew) ∧
 (Q (.bool false) w1_6.drew)))))))
def an10 : Ann := { cut := fun i => bif Nat.beq i 2 then some [(32, .bool)] else none, loop := fun i => bif Nat.beq i 9 then [(10, .slice), (11, .int .i64)] else [] }
theorem eq10 (x0 : Sl) (x1 : Sl) (x2 : Sl) (w : World) (Q : Value → World → Prop) : F10 x0 x1 x2 w Q = vc prog an10 (Try.f10.body.getD .skip) (envOf [.slice x0.a x0.l x0.c, .slice x1.a x1.l x1.c, .slice x2.a x2.l x2.c]) w (retK prog Try.f10 Q) := by kernel_rfl
theorem ok10 : codeOk Try.f10.ntmps (Try.f10.body.getD .skip) = true := by kernel_rfl
theorem W10 {x0 : Sl} {x1 : Sl} {x2 : Sl} {w : World} {Q : Value → World → Prop} (h : F10 x0 x1 x2 w Q) : Calls prog 10 #[.slice x0.a x0.l x0.c, .slice x1.a x1.l x1.c, .slice x2.a x2.l x2.c] w fun en w' => ∃ v, en = .returned v ∧ Q v w' :=
  calls_of_vc good follows an10 (args := [.slice x0.a x0.l x0.c, .slice x1.a x1.l x1.c, .slice x2.a x2.l x2.c]) Try.func10 (by kernel_rfl) ok10 (of_decide_eq_true (by kernel_rfl)) (Eq.mp (eq10 x0 x1 x2 w Q) h)

/-- (*bastion/stride.project).byName -/
def F76 (x0 : Option Addr) (x1 : ByteArray) (w : World) (Q : Value → World → Prop) : Prop :=
 ∃ p6, x0 = some p6 ∧
 ∃ t8 : ByteArray, Ld w (p6.add 0) (.string t8) ∧
 Calls prog 73 #[.string t8, .string x1] w fun en w1 =>
 ∃ t10 : Int, en = .returned (.int .i64 t10) ∧
 Q (.int .i64 t10) w1
def an76 : Ann := { cut := fun i => none, loop := fun i => [] }
theorem eq76 (x0 : Option Addr) (x1 : ByteArray) (w : World) (Q : Value → World → Prop) : F76 x0 x1 w Q = vc prog an76 (Try.f76.body.getD .skip) (envOf [.pointer x0, .string x1]) w (retK prog Try.f76 Q) := by kernel_rfl
theorem ok76 : codeOk Try.f76.ntmps (Try.f76.body.getD .skip) = true := by kernel_rfl
theorem W76 {x0 : Option Addr} {x1 : ByteArray} {w : World} {Q : Value → World → Prop} (h : F76 x0 x1 w Q) : Calls prog 76 #[.pointer x0, .string x1] w fun en w' => ∃ v, en = .returned v ∧ Q v w' :=
  calls_of_vc good follows an76 (args := [.pointer x0, .string x1]) Try.func76 (by kernel_rfl) ok76 (of_decide_eq_true (by kernel_rfl)) (Eq.mp (eq76 x0 x1 w Q) h)

/-- (*bastion/code.Reader).Count$1 -/
def F83 (x0 : ByteArray) (x1 : Addr) (w : World) (Q : Value → World → Prop) : Prop :=
 ∃ t6 : Int, Ld w x1 (.int .i64 t6) ∧
 Calls prog 84 #[.string x0, .int .i64 t6] w fun en w1 =>
 ∃ t7a : Int, ∃ t7b : Int, en = .returned (.tuple #[.int .i64 t7a, .int .i64 t7b]) ∧
 Q (.tuple #[.int .i64 t7a, .int .i64 t7b]) w1
def an83 : Ann := { cut := fun i => none, loop := fun i => [] }
theorem eq83 (x0 : ByteArray) (x1 : Addr) (w : World) (Q : Value → World → Prop) : F83 x0 x1 w Q = vc prog an83 (Try.f83.body.getD .skip) (envOf [.string x0, .pointer (some x1)]) w (retK prog Try.f83 Q) := by kernel_rfl
theorem ok83 : codeOk Try.f83.ntmps (Try.f83.body.getD .skip) = true := by kernel_rfl
theorem W83 {x0 : ByteArray} {x1 : Addr} {w : World} {Q : Value → World → Prop} (h : F83 x0 x1 w Q) : Calls prog 83 #[.string x0, .pointer (some x1)] w fun en w' => ∃ v, en = .returned v ∧ Q v w' :=
  calls_of_vc good follows an83 (args := [.string x0, .pointer (some x1)]) Try.func83 (by kernel_rfl) ok83 (of_decide_eq_true (by kernel_rfl)) (Eq.mp (eq83 x0 x1 w Q) h)

/-- (*bastion/code.Reader).Str$1 -/
def F86 (x0 : ByteArray) (x1 : Addr) (w : World) (Q : Value → World → Prop) : Prop :=
 ∃ t9 : Int, Ld w x1 (.int .i64 t9) ∧
 Calls prog 84 #[.string x0, .int .i64 t9] w fun en w1 =>
 ∃ t10a : Int, ∃ t10b : Int, en = .returned (.tuple #[.int .i64 t10a, .int .i64 t10b]) ∧
 IfB (t10b == (0 : Int))
 (Q (.tuple #[.string (⟨#[]⟩ : ByteArray), .int .i64 0]) w1)
 (IfB (decide (t10a > IntKind.wrap .i64 (((x0.size : Nat) : Int) - t10b)))
 (Q (.tuple #[.string (⟨#[]⟩ : ByteArray), .int .i64 0]) w1)
 ((0 ≤ IntKind.wrap .i64 (t10b + t10a) ∧ IntKind.wrap .i64 (t10b + t10a) ≤ ((x0.size : Nat) : Int)) ∧
 (0 ≤ t10b ∧ t10b ≤ (((IntKind.wrap .i64 (t10b + t10a)).toNat : Nat) : Int)) ∧
 Q (.tuple #[.string (x0.extract ((t10b).toNat) ((IntKind.wrap .i64 (t10b + t10a)).toNat)), .int .i64 (IntKind.wrap .i64 (t10b + t10a))]) w1))
def an86 : Ann := { cut := fun i => none, loop := fun i => [] }
theorem eq86 (x0 : ByteArray) (x1 : Addr) (w : World) (Q : Value → World → Prop) : F86 x0 x1 w Q = vc prog an86 (Try.f86.body.getD .skip) (envOf [.string x0, .pointer (some x1)]) w (retK prog Try.f86 Q) := by kernel_rfl
theorem ok86 : codeOk Try.f86.ntmps (Try.f86.body.getD .skip) = true := by kernel_rfl
theorem W86 {x0 : ByteArray} {x1 : Addr} {w : World} {Q : Value → World → Prop} (h : F86 x0 x1 w Q) : Calls prog 86 #[.string x0, .pointer (some x1)] w fun en w' => ∃ v, en = .returned v ∧ Q v w' :=
  calls_of_vc good follows an86 (args := [.string x0, .pointer (some x1)]) Try.func86 (by kernel_rfl) ok86 (of_decide_eq_true (by kernel_rfl)) (Eq.mp (eq86 x0 x1 w Q) h)

/-- (*bastion/code.spot).rest -/
def F97 (x0 : Option Addr) (w : World) (Q : Value → World → Prop) : Prop :=
 ∃ p4, x0 = some p4 ∧
 ∃ t6 : ByteArray, Ld w.drew (p4.add 0) (.string t6) ∧
 ∃ p8, x0 = some p8 ∧
 ∃ t10 : Int, Ld w.drew (p8.add 1) (.int .i64 t10) ∧
 ∃ p12, x0 = some p12 ∧
 ∃ t14 : ByteArray, Ld w.drew (p12.add 0) (.string t14) ∧
 (0 ≤ (if ((t14.size : Nat) : Int) < t10 then ((t14.size : Nat) : Int) else t10) ∧ (if ((t14.size : Nat) : Int) < t10 then ((t14.size : Nat) : Int) else t10) ≤ ((t6.size : Nat) : Int)) ∧
 Q (.string (t6.extract (((if ((t14.size : Nat) : Int) < t10 then ((t14.size : Nat) : Int) else t10)).toNat) t6.size)) w.drew
def an97 : Ann := { cut := fun i => none, loop := fun i => [] }
theorem eq97 (x0 : Option Addr) (w : World) (Q : Value → World → Prop) : F97 x0 w Q = vc prog an97 (Try.f97.body.getD .skip) (envOf [.pointer x0]) w (retK prog Try.f97 Q) := by kernel_rfl
theorem ok97 : codeOk Try.f97.ntmps (Try.f97.body.getD .skip) = true := by kernel_rfl
theorem W97 {x0 : Option Addr} {w : World} {Q : Value → World → Prop} (h : F97 x0 w Q) : Calls prog 97 #[.pointer x0] w fun en w' => ∃ v, en = .returned v ∧ Q v w' :=
  calls_of_vc good follows an97 (args := [.pointer x0]) Try.func97 (by kernel_rfl) ok97 (of_decide_eq_true (by kernel_rfl)) (Eq.mp (eq97 x0 w Q) h)

/-- bastion/code.within -/
def F84 (x0 : ByteArray) (x1 : Int) (w : World) (Q : Value → World → Prop) : Prop :=
 Calls prog 98 #[.string x0] w fun en w1 =>
 ∃ t10a : Int, ∃ t10b : Int, en = .returned (.tuple #[.int .u64 t10a, .int .i64 t10b]) ∧
 IfB (decide (t10a > (2147483647 : Int)))
 (Q (.tuple #[.int .i64 0, .int .i64 0]) w1)
 (IfB (decide (IntKind.wrap .i64 t10a > x1))
 (Q (.tuple #[.int .i64 0, .int .i64 0]) w1)
 (Q (.tuple #[.int .i64 (IntKind.wrap .i64 t10a), .int .i64 t10b]) w1))
def an84 : Ann := { cut := fun i => none, loop := fun i => [] }
theorem eq84 (x0 : ByteArray) (x1 : Int) (w : World) (Q : Value → World → Prop) : F84 x0 x1 w Q = vc prog an84 (Try.f84.body.getD .skip) (envOf [.string x0, .int .i64 x1]) w (retK prog Try.f84 Q) := by kernel_rfl
theorem ok84 : codeOk Try.f84.ntmps (Try.f84.body.getD .skip) = true := by kernel_rfl
theorem W84 {x0 : ByteArray} {x1 : Int} {w : World} {Q : Value → World → Prop} (h : F84 x0 x1 w Q) : Calls prog 84 #[.string x0, .int .i64 x1] w fun en w' => ∃ v, en = .returned v ∧ Q v w' :=
  calls_of_vc good follows an84 (args := [.string x0, .int .i64 x1]) Try.func84 (by kernel_rfl) ok84 (of_decide_eq_true (by kernel_rfl)) (Eq.mp (eq84 x0 x1 w Q) h)

/-- bastion/code.number -/
def F98 (x0 : ByteArray) (w : World) (Q : Value → World → Prop) : Prop :=
 ∃ J : Int → World → Prop, (∃ (I : Nat → Int → World → Prop) (n0 : Nat), I n0 (0 : Int) w ∧
 ∀ (n : Nat) (u : Env) (x4 : Int) (w1 : World), I n x4 w1 →
 IfB (decide (x4 < (if (10 : Int) < ((x0.size : Nat) : Int) then (10 : Int) else ((x0.size : Nat) : Int))))
 (0 ≤ x4 ∧ x4 < ((x0.size : Nat) : Int) ∧
 IfB (decide (bt x0 x4 ≥ (128 : Int)))
 (∃ n', n' < n ∧ I n' (IntKind.wrap .i64 (x4 + (1 : Int))) w1)
 (J x4 w1))
 (J x4 w1)) ∧
 (∀ (u : Env) (x4 : Int) (w1 : World), J x4 w1 →
 ∃ J_1 : Bool → World → Prop, (IfB (decide (x4 ≥ ((x0.size : Nat) : Int)))
 (J_1 true w1)
 (IfB (x4 == (10 : Int))
 (J_1 true w1)
 (IfB (x4 == (9 : Int))
 (0 ≤ x4 ∧ x4 < ((x0.size : Nat) : Int) ∧
 J_1 (decide (bt x0 x4 > (1 : Int))) w1)
 (J_1 false w1)))) ∧
 (∀ (u_1 : Env) (x37 : Bool) (w1_1 : World), J_1 x37 w1_1 →
 IfB x37
 (Q (.tuple #[.int .u64 0, .int .i64 0]) w1_1)
 (∃ (I : Nat → Int → Int → World → Prop) (n0 : Nat), I n0 (0 : Int) x4 w1_1 ∧
 ∀ (n : Nat) (u_2 : Env) (x5 : Int) (x6 : Int) (w1_2 : World), I n x5 x6 w1_2 →
 IfB (decide (x6 ≥ (0 : Int)))
 (0 ≤ (7 : Int) ∧
 0 ≤ x6 ∧ x6 < ((x0.size : Nat) : Int) ∧
 ∃ n', n' < n ∧ I n' (bitsI .or .u64 (IntKind.wrap .u64 (x5 * 2 ^ (min 7 64))) (IntKind.wrap .u64 (bitsI .andNot .u8 (bt x0 x6) (128 : Int)))) (IntKind.wrap .i64 (x6 - (1 : Int))) w1_2)
 (Calls prog 95 #[.int .u64 x5] w1_2 fun en w1_3 =>
 ∃ t52 : Int, en = .returned (.int .i64 t52) ∧
 IfB (t52 != IntKind.wrap .i64 (x4 + (1 : Int)))
 (Q (.tuple #[.int .u64 0, .int .i64 0]) w1_3)
 (Q (.tuple #[.int .u64 x5, .int .i64 (IntKind.wrap .i64 (x4 + (1 : Int)))]) w1_3)))))
def an98 : Ann := { cut := fun i => bif Nat.beq i 4 then some [(4, .int .i64)] else bif Nat.beq i 5 then some [(37, .bool)] else none, loop := fun i => bif Nat.beq i 2 then [(4, .int .i64)] else bif Nat.beq i 8 then [(5, .int .u64), (6, .int .i64)] else [] }
theorem eq98 (x0 : ByteArray) (w : World) (Q : Value → World → Prop) : F98 x0 w Q = vc prog an98 (Try.f98.body.getD .skip) (envOf [.string x0]) w (retK prog Try.f98 Q) := by kernel_rfl
theorem ok98 : codeOk Try.f98.ntmps (Try.f98.body.getD .skip) = true := by kernel_rfl
theorem W98 {x0 : ByteArray} {w : World} {Q : Value → World → Prop} (h : F98 x0 w Q) : Calls prog 98 #[.string x0] w fun en w' => ∃ v, en = .returned v ∧ Q v w' :=
  calls_of_vc good follows an98 (args := [.string x0]) Try.func98 (by kernel_rfl) ok98 (of_decide_eq_true (by kernel_rfl)) (Eq.mp (eq98 x0 w Q) h)
end Go.Proofs.Ythgeacnemojjgaa

/-  YtmcdeldjgfapbaaF2: weakest preconditions of functions, by wip/gen/gen.py; each is held against the machine's code by the kernel. -/
import Derived.Test.YtmcdeldjgfapbaaV
import Derived.Test.YtmcdeldjgfapbaaProg
import Derived.Test.YtmcdeldjgfapbaaGood
import Derived.Test.YtmcdeldjgfapbaaI
import Derived.KernelRfl
set_option linter.unusedVariables false
set_option maxRecDepth 1000000
namespace Go.Proofs.Ytmcdeldjgfapbaa
open Go Go.Proofs.YtmcdeldjgfapbaaV

/-- (*bastion/logs.Log).Lines -/
def F25 (x0 : Option Addr) (x1 : Int) (x2 : Int) (w : World) (Q : Value → World → Prop) : Prop :=
 ∀ b4 w1, NewB w (.cells #[.int .i64 x1] 3) b4 w1 →
 ∀ b5 w1_1, NewB w1 (.cells #[.int .i64 x2] 3) b5 w1_1 →
 ∀ b7 w1_2, NewB w1_1 (.cells #[.slice none 0 0] 31) b7 w1_2 →
 ∀ b8 w1_3, NewB w1_2 (.cells #[.int .i64 0] 3) b8 w1_3 →
 Wr w1_3 (⟨b8, 0, none⟩ : Addr) ∧ ∀ w1_4, w1_4 = w1_3.setCell (⟨b8, 0, none⟩ : Addr) (.int .i64 0) →
 Calls prog 47 #[.pointer x0] w1_4 fun en w1_5 =>
 ∃ t11 : Value, en = .returned (t11) ∧
 ∀ (D l : Nat) (rec : Loop) (w1_6 : World), D = w1_5.heap.size → l = w1_5.heap.size + 1 → w1_6.heap.size = w1_5.heap.size + 2 → Frm none_ w1_5 w1_6 → MarkR w1_6 D → RecR w1_6 l rec .ready none →
 (∀ (W : World) (x12 : ByteArray) (R : Value → World → Prop), RecR W l rec .ready none →
 (RecR W l rec .ready none ∧ ∀ w1_7, Frm (fun b => b = l) W w1_7 → w1_7.heap.size = W.heap.size → RecR w1_7 l rec .busy none →
 ∃ t13 : Int, Ld w1_7 (⟨b8, 0, none⟩ : Addr) (.int .i64 t13) ∧
 ∃ t14 : Int, Ld w1_7 (⟨b5, 0, none⟩ : Addr) (.int .i64 t14) ∧
 IfB (decide (t13 ≥ t14))
 (RecR w1_7 l rec .busy none ∧ ∀ w1_8, Frm (fun b => b = l) w1_7 w1_8 → w1_8.heap.size = w1_7.heap.size → RecR w1_8 l rec .done (some (.exit 0)) → R (.bool false) w1_8)
 (∃ t16 : Int, Ld w1_7 (⟨b8, 0, none⟩ : Addr) (.int .i64 t16) ∧
 ∃ t17 : Int, Ld w1_7 (⟨b4, 0, none⟩ : Addr) (.int .i64 t17) ∧
 IfB (decide (t16 ≥ t17))
 (∃ t19 : Sl, Ld w1_7 (⟨b7, 0, none⟩ : Addr) (.slice t19.a t19.l t19.c) ∧
 RunT prog .slice (Instr.buildSlice 31 1 #[(0, .string x12)]) w1_7 fun (t21 : Sl) w1_8 =>
 RunT prog .slice (Builtin.append_ #[31, 31] 31 #[.slice t19.a t19.l t19.c, .slice t21.a t21.l t21.c]) w1_8 fun (t22 : Sl) w1_9 =>
 Wr w1_9 (⟨b7, 0, none⟩ : Addr) ∧ ∀ w1_10, w1_10 = w1_9.setCell (⟨b7, 0, none⟩ : Addr) (.slice t22.a t22.l t22.c) →
 ∃ t23 : Int, Ld w1_10 (⟨b8, 0, none⟩ : Addr) (.int .i64 t23) ∧
 Wr w1_10 (⟨b8, 0, none⟩ : Addr) ∧ ∀ w1_11, w1_11 = w1_10.setCell (⟨b8, 0, none⟩ : Addr) (.int .i64 (IntKind.wrap .i64 (t23 + (1 : Int)))) →
 RecR w1_11 l rec .busy none ∧ ∀ w1_12, Frm (fun b => b = l) w1_11 w1_12 → w1_12.heap.size = w1_11.heap.size → RecR w1_12 l rec .ready none → R (.bool true) w1_12)
 (∃ t23 : Int, Ld w1_7 (⟨b8, 0, none⟩ : Addr) (.int .i64 t23) ∧
 Wr w1_7 (⟨b8, 0, none⟩ : Addr) ∧ ∀ w1_8, w1_8 = w1_7.setCell (⟨b8, 0, none⟩ : Addr) (.int .i64 (IntKind.wrap .i64 (t23 + (1 : Int)))) →
 RecR w1_8 l rec .busy none ∧ ∀ w1_9, Frm (fun b => b = l) w1_8 w1_9 → w1_9.heap.size = w1_8.heap.size → RecR w1_9 l rec .ready none → R (.bool true) w1_9))) →
 YieldI prog l #[.string x12] W R) →
 RangeCall prog t11 l w1_6 fun w2 =>
 (RecR w2 l rec .ready none ∧ ∀ w3, Frm (fun b => b = l) w2 w3 → w3.heap.size = w2.heap.size →
 ∃ t25 : Sl, Ld w3 (⟨b7, 0, none⟩ : Addr) (.slice t25.a t25.l t25.c) ∧
 RetD ([D] : List Nat) w3 fun w1_7 =>
 Q (.slice t25.a t25.l t25.c) w1_7) ∨
 (RecR w2 l rec .done (some (.exit 0)) ∧ ∀ w3, Frm (fun b => b = l) w2 w3 → w3.heap.size = w2.heap.size →
 ∃ t25 : Sl, Ld w3 (⟨b7, 0, none⟩ : Addr) (.slice t25.a t25.l t25.c) ∧
 RetD ([D] : List Nat) w3 fun w1_7 =>
 Q (.slice t25.a t25.l t25.c) w1_7)
def an25 : Ann := { cut := fun i => none, loop := fun i => bif Nat.beq i 5 then [(12, .str)] else [] }
theorem eq25 (x0 : Option Addr) (x1 : Int) (x2 : Int) (w : World) (Q : Value → World → Prop) : F25 x0 x1 x2 w Q = vcI prog an25 (Try.f25.body.getD .skip) none (envOf [.pointer x0, .int .i64 x1, .int .i64 x2]) [] w (retKI prog Try.f25 Q) := by kernel_rfl
theorem ok25 : codeOkI Try.f25.ntmps an25 (Try.f25.body.getD .skip) = true := by kernel_rfl
theorem W25 {x0 : Option Addr} {x1 : Int} {x2 : Int} {w : World} {Q : Value → World → Prop} (h : F25 x0 x1 x2 w Q) : Calls prog 25 #[.pointer x0, .int .i64 x1, .int .i64 x2] w fun en w' => ∃ v, en = .returned v ∧ Q v w' :=
  calls_of_vcI good follows an25 (args := [.pointer x0, .int .i64 x1, .int .i64 x2]) Try.func25 (by kernel_rfl) ok25 (of_decide_eq_true (by kernel_rfl)) (Eq.mp (eq25 x0 x1 x2 w Q) h)

/-- (*bastion/logs.Log).lines$1 -/
def F60 (x0 : Value) (x1 : Addr) (w : World) (Q : Value → World → Prop) : Prop :=
 ∀ b3 w1, NewB w (.cells #[.pointer none, .slice none 0 0] 90) b3 w1 →
 ∃ t7 : Option Addr, Ld w1 x1 (.pointer t7) ∧
 Calls prog 44 #[.pointer t7, .int .i64 0] w1 fun en w1_1 =>
 ∃ t8 : Sl, en = .returned (.slice t8.a t8.l t8.c) ∧
 ∃ (I : Nat → Int → World → Prop) (n0 : Nat), I n0 (0 : Int) w1_1 ∧
 ∀ (n : Nat) (u : Env) (x10 : Int) (w1_2 : World), I n x10 w1_2 →
 IfB (decide (x10 < ((t8.l : Nat) : Int)))
 (∃ p12, t8.a = some p12 ∧ 0 ≤ x10 ∧ x10 < ((t8.l : Nat) : Int) ∧
 ∃ t13 : ByteArray, Ld w1_2 (p12.add ((x10).toNat * 1)) (.string t13) ∧
 ∃ (I_1 : Nat → ByteArray → World → Prop) (n0_1 : Nat), I_1 n0_1 t13 w1_2 ∧
 ∀ (n_1 : Nat) (u_1 : Env) (x5 : ByteArray) (w1_3 : World), I_1 n_1 x5 w1_3 →
 IfB (!(x5.toList == (⟨#[]⟩ : ByteArray).toList))
 (Calls prog 61 #[.string x5, .int .u8 10] w1_3 fun en w1_4 =>
 ∃ t17 : Int, en = .returned (.int .i64 t17) ∧
 IfB (decide (t17 < (0 : Int)))
 (Calls prog 62 #[.pointer (some (⟨b3, 0, none⟩ : Addr)), .string x5] w1_4 fun en w1_5 =>
 ∃ t21a : Int, ∃ t21b : Value, en = .returned (.tuple #[.int .i64 t21a, t21b]) ∧
 ([] : List Nat) = ([] : List Nat) ∧ ∃ n', n' < n ∧ I n' (IntKind.wrap .i64 (x10 + (1 : Int))) w1_5)
 ((0 ≤ IntKind.wrap .i64 (t17 + (1 : Int)) ∧ IntKind.wrap .i64 (t17 + (1 : Int)) ≤ ((x5.size : Nat) : Int)) ∧
 Calls prog 62 #[.pointer (some (⟨b3, 0, none⟩ : Addr)), .string (x5.extract 0 ((IntKind.wrap .i64 (t17 + (1 : Int))).toNat))] w1_4 fun en w1_5 =>
 ∃ t26a : Int, ∃ t26b : Value, en = .returned (.tuple #[.int .i64 t26a, t26b]) ∧
 (0 ≤ IntKind.wrap .i64 (t17 + (1 : Int)) ∧ IntKind.wrap .i64 (t17 + (1 : Int)) ≤ ((x5.size : Nat) : Int)) ∧
 Calls prog 63 #[.pointer (some (⟨b3, 0, none⟩ : Addr))] w1_5 fun en w1_6 =>
 ∃ t32 : ByteArray, en = .returned (.string t32) ∧
 CallVI prog x0 #[.string t32] w1_6 fun v33 w1_7 =>
 ∃ t33 : Bool, v33 = (.bool t33) ∧
 IfB (!t33)
 (Q (.tuple #[]) w1_7)
 (Calls prog 64 #[.pointer (some (⟨b3, 0, none⟩ : Addr))] w1_7 fun en w1_8 =>
 en = .returned (.tuple #[]) ∧
 ([] : List Nat) = ([] : List Nat) ∧ ∃ n', n' < n_1 ∧ I_1 n' (x5.extract ((IntKind.wrap .i64 (t17 + (1 : Int))).toNat) x5.size) w1_8)))
 (([] : List Nat) = ([] : List Nat) ∧ ∃ n', n' < n ∧ I n' (IntKind.wrap .i64 (x10 + (1 : Int))) w1_3))
 (Calls prog 65 #[.pointer (some (⟨b3, 0, none⟩ : Addr))] w1_2 fun en w1_3 =>
 ∃ t37 : Int, en = .returned (.int .i64 t37) ∧
 IfB (decide (t37 > (0 : Int)))
 (Calls prog 63 #[.pointer (some (⟨b3, 0, none⟩ : Addr))] w1_3 fun en w1_4 =>
 ∃ t40 : ByteArray, en = .returned (.string t40) ∧
 CallVI prog x0 #[.string t40] w1_4 fun v41 w1_5 =>
 ∃ t41 : Bool, v41 = (.bool t41) ∧
 Q (.tuple #[]) w1_5)
 (Q (.tuple #[]) w1_3))
def an60 : Ann := { cut := fun i => none, loop := fun i => bif Nat.beq i 2 then [(10, .int .i64)] else bif Nat.beq i 4 then [(5, .str)] else [] }
theorem eq60 (x0 : Value) (x1 : Addr) (w : World) (Q : Value → World → Prop) : F60 x0 x1 w Q = vcI prog an60 (Try.f60.body.getD .skip) none (envOf [x0, .pointer (some x1)]) [] w (retKI prog Try.f60 Q) := by kernel_rfl
theorem ok60 : codeOkI Try.f60.ntmps an60 (Try.f60.body.getD .skip) = true := by kernel_rfl
theorem W60 {x0 : Value} {x1 : Addr} {w : World} {Q : Value → World → Prop} (h : F60 x0 x1 w Q) : Calls prog 60 #[x0, .pointer (some x1)] w fun en w' => ∃ v, en = .returned v ∧ Q v w' :=
  calls_of_vcI good follows an60 (args := [x0, .pointer (some x1)]) Try.func60 (by kernel_rfl) ok60 (of_decide_eq_true (by kernel_rfl)) (Eq.mp (eq60 x0 x1 w Q) h)
end Go.Proofs.Ytmcdeldjgfapbaa

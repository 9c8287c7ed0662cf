/-  YthgeacnemojjgaaF2: weakest preconditions of functions, by wip/gen/gen.py; each is held against the machine's code by the kernel. -/
import Derived.Test.YthgeacnemojjgaaV
import Derived.Test.YthgeacnemojjgaaProg
import Derived.Test.YthgeacnemojjgaaGood
import Derived.Test.YthgeacnemojjgaaI
import Derived.KernelRfl
set_option linter.unusedVariables false
set_option maxRecDepth 1000000
namespace Go.Proofs.Ythgeacnemojjgaa
open Go Go.Proofs.YthgeacnemojjgaaV

/-- (*bastion/stride.Shares).Next -/
def F13 (x0 : Option Addr) (x1 : Sl) (w : World) (Q : Value → World → Prop) : Prop :=
 ∃ b14 : Bool, BinIs prog .eql 23 (.tmp 13) (.const (.pointer none)) (.pointer x0) (.pointer none) b14 ∧
 IfB b14
 (Q (.tuple #[.string (⟨#[]⟩ : ByteArray), .int .i64 2]) w)
 (∃ p16, x0 = some p16 ∧
 ∃ t18 : Sl, Ld w (p16.add 0) (.slice t18.a t18.l t18.c) ∧
 ∃ (I : Nat → Int → World → Prop) (n0 : Nat), I n0 (0 : Int) w ∧
 ∀ (n : Nat) (u : Env) (x20 : Int) (w1 : World), I n x20 w1 →
 IfB (decide (x20 < ((t18.l : Nat) : Int)))
 (∃ p22, t18.a = some p22 ∧ 0 ≤ x20 ∧ x20 < ((t18.l : Nat) : Int) ∧
 ∃ t23 : Option Addr, Ld w1 (p22.add ((x20).toNat * 1)) (.pointer t23) ∧
 ∃ p27, t23 = some p27 ∧
 ∃ t29 : ByteArray, Ld w1 (p27.add 0) (.string t29) ∧
 Calls prog 38 #[.slice x1.a x1.l x1.c, .string t29] w1 fun en w1_1 =>
 ∃ t30 : Bool, en = .returned (.bool t30) ∧
 ∃ p31, t23 = some p31 ∧
 Wr w1_1 (p31.add 4) ∧ ∀ w1_2, w1_2 = w1_1.setCell (p31.add 4) (.bool t30) →
 ([] : List Nat) = ([] : List Nat) ∧ ∃ n', n' < n ∧ I n' (IntKind.wrap .i64 (x20 + (1 : Int))) w1_2)
 (Calls prog 40 #[.pointer x0, .bool true, .bool true] w1 fun en w1_1 =>
 ∃ t35 : Value, en = .returned (t35) ∧
 Calls prog 39 #[t35, .func (.func 41) #[] #[]] w1_1 fun en w1_2 =>
 ∃ t36 : Option Addr, en = .returned (.pointer t36) ∧
 ∃ b38 : Bool, BinIs prog .eql 74 (.tmp 37) (.const (.pointer none)) (.pointer t36) (.pointer none) b38 ∧
 IfB b38
 (Q (.tuple #[.string (⟨#[]⟩ : ByteArray), .int .i64 5]) w1_2)
 (∃ J : List Nat → Option Addr → World → Prop, (Calls prog 40 #[.pointer x0, .bool true, .bool false] w1_2 fun en w1_3 =>
 ∃ t40 : Value, en = .returned (t40) ∧
 Calls prog 39 #[t40, .func (.func 41) #[] #[]] w1_3 fun en w1_4 =>
 ∃ t41 : Option Addr, en = .returned (.pointer t41) ∧
 ∀ b9 w1_5, NewB w1_4 (.cells #[.pointer none] 74) b9 w1_5 →
 Wr w1_5 (⟨b9, 0, none⟩ : Addr) ∧ ∀ w1_6, w1_6 = w1_5.setCell (⟨b9, 0, none⟩ : Addr) (.pointer t41) →
 ∃ t42 : Option Addr, Ld w1_6 (⟨b9, 0, none⟩ : Addr) (.pointer t42) ∧
 ∃ b43 : Bool, BinIs prog .neq 74 (.tmp 42) (.const (.pointer none)) (.pointer t42) (.pointer none) b43 ∧
 IfB b43
 (Calls prog 40 #[.pointer x0, .bool false, .bool true] w1_6 fun en w1_7 =>
 ∃ t45 : Value, en = .returned (t45) ∧
 ∀ (D l : Nat) (rec : Loop) (w1_8 : World), D = w1_7.heap.size → l = w1_7.heap.size + 1 → w1_8.heap.size = w1_7.heap.size + 2 → Frm none_ w1_7 w1_8 → MarkR w1_8 D → RecR w1_8 l rec .ready none →
 (∀ (W : World) (x46 : Option Addr) (R : Value → World → Prop), RecR W l rec .ready none →
 (RecR W l rec .ready none ∧ ∀ w1_9, Frm (fun b => b = l) W w1_9 → w1_9.heap.size = W.heap.size → RecR w1_9 l rec .busy none →
 ∃ t48 : Option Addr, Ld w1_9 (⟨b9, 0, none⟩ : Addr) (.pointer t48) ∧
 Calls prog 42 #[.pointer x46, .pointer t48] w1_9 fun en w1_10 =>
 ∃ t49 : Int, en = .returned (.int .i64 t49) ∧
 IfB (decide (t49 < (0 : Int)))
 (∃ S : World → Prop, S w1_10.drew ∧
 ∃ t52 : Option Addr, (∀ w', S w' → Ld w' (⟨b9, 0, none⟩ : Addr) (.pointer t52)) ∧
 ∃ p53, t52 = some p53 ∧
 ∃ t55 : Int, (∀ w', S w' → Ld w' (p53.add 2) (.int .i64 t55)) ∧
 ∃ t56 : Option Addr, (∀ w', S w' → Ld w' (⟨b9, 0, none⟩ : Addr) (.pointer t56)) ∧
 ∃ p57, t56 = some p57 ∧
 ∃ t59 : Int, (∀ w', S w' → Ld w' (p57.add 1) (.int .i64 t59)) ∧
 ∃ p61, x46 = some p61 ∧
 ∃ t63 : Int, (∀ w', S w' → Ld w' (p61.add 1) (.int .i64 t63)) ∧
 Calls prog 43 #[.int .i64 t55, .int .i64 t59, .int .i64 t63] w1_10.drew fun en w1_11 =>
 ∃ t64 : Int, en = .returned (.int .i64 t64) ∧
 ∃ p66, x46 = some p66 ∧
 Wr w1_11 (p66.add 2) ∧ ∀ w1_12, w1_12 = w1_11.setCell (p66.add 2) (.int .i64 (if (2147483647 : Int) < t64 then (2147483647 : Int) else t64)) →
 RecR w1_12 l rec .busy none ∧ ∀ w1_13, Frm (fun b => b = l) w1_12 w1_13 → w1_13.heap.size = w1_12.heap.size → RecR w1_13 l rec .ready none → R (.bool true) w1_13)
 (RecR w1_10 l rec .busy none ∧ ∀ w1_11, Frm (fun b => b = l) w1_10 w1_11 → w1_11.heap.size = w1_10.heap.size → RecR w1_11 l rec .ready none → R (.bool true) w1_11)) →
 YieldI prog l #[.pointer x46] W R) →
 RangeCall prog t45 l w1_8 fun w2 =>
 (RecR w2 l rec .ready none ∧ ∀ w3, Frm (fun b => b = l) w2 w3 → w3.heap.size = w2.heap.size →
 Calls prog 40 #[.pointer x0, .bool true, .bool true] w3 fun en w1_9 =>
 ∃ t69 : Value, en = .returned (t69) ∧
 Calls prog 39 #[t69, .func (.func 41) #[] #[]] w1_9 fun en w1_10 =>
 ∃ t70 : Option Addr, en = .returned (.pointer t70) ∧
 J ([D] : List Nat) t70 w1_10) ∨
 (False))
 (J ([] : List Nat) t36 w1_6)) ∧
 (∀ (u_1 : Env) (ds : List Nat) (x8 : Option Addr) (w1_3 : World), J ds x8 w1_3 →
 ∃ p72, x0 = some p72 ∧
 ∃ t74 : Sl, Ld w1_3 (p72.add 0) (.slice t74.a t74.l t74.c) ∧
 ∃ (I_1 : Nat → Int → World → Prop) (n0_1 : Nat), I_1 n0_1 (0 : Int) w1_3 ∧
 ∀ (n_1 : Nat) (u_2 : Env) (x76 : Int) (w1_4 : World), I_1 n_1 x76 w1_4 →
 IfB (decide (x76 < ((t74.l : Nat) : Int)))
 (∃ p78, t74.a = some p78 ∧ 0 ≤ x76 ∧ x76 < ((t74.l : Nat) : Int) ∧
 ∃ t79 : Option Addr, Ld w1_4 (p78.add ((x76).toNat * 1)) (.pointer t79) ∧
 ∃ p82, t79 = some p82 ∧
 ∃ t84 : Bool, Ld w1_4 (p82.add 4) (.bool t84) ∧
 ∃ p85, t79 = some p85 ∧
 Wr w1_4 (p85.add 3) ∧ ∀ w1_5, w1_5 = w1_4.setCell (p85.add 3) (.bool t84) →
 ds = ds ∧ ∃ n', n' < n_1 ∧ I_1 n' (IntKind.wrap .i64 (x76 + (1 : Int))) w1_5)
 (∃ p89, x8 = some p89 ∧
 ∃ t91 : ByteArray, Ld w1_4 (p89.add 0) (.string t91) ∧
 RetD ds w1_4 fun w1_5 =>
 Q (.tuple #[.string t91, .int .i64 0]) w1_5)))))
def an13 : Ann := { cut := fun i => bif Nat.beq i 18 then some [(8, .ptr)] else none, loop := fun i => bif Nat.beq i 4 then [(20, .int .i64)] else bif Nat.beq i 15 then [(46, .ptr)] else bif Nat.beq i 19 then [(76, .int .i64)] else [] }
theorem eq13 (x0 : Option Addr) (x1 : Sl) (w : World) (Q : Value → World → Prop) : F13 x0 x1 w Q = vcI prog an13 (Try.f13.body.getD .skip) none (envOf [.pointer x0, .slice x1.a x1.l x1.c]) [] w (retKI prog Try.f13 Q) := by kernel_rfl
theorem ok13 : codeOkI Try.f13.ntmps an13 (Try.f13.body.getD .skip) = true := by kernel_rfl
theorem W13 {x0 : Option Addr} {x1 : Sl} {w : World} {Q : Value → World → Prop} (h : F13 x0 x1 w Q) : Calls prog 13 #[.pointer x0, .slice x1.a x1.l x1.c] w fun en w' => ∃ v, en = .returned v ∧ Q v w' :=
  calls_of_vcI good follows an13 (args := [.pointer x0, .slice x1.a x1.l x1.c]) Try.func13 (by kernel_rfl) ok13 (of_decide_eq_true (by kernel_rfl)) (Eq.mp (eq13 x0 x1 w Q) h)

/-- bastion/stride.least -/
def F39 (x0 : Value) (x1 : Value) (w : World) (Q : Value → World → Prop) : Prop :=
 ∀ b3 w1, NewB w (.cells x1.cells 82) b3 w1 →
 ∀ b5 w1_1, NewB w1 (.cells #[.pointer none] 74) b5 w1_1 →
 ∀ (D l : Nat) (rec : Loop) (w1_2 : World), D = w1_1.heap.size → l = w1_1.heap.size + 1 → w1_2.heap.size = w1_1.heap.size + 2 → Frm none_ w1_1 w1_2 → MarkR w1_2 D → RecR w1_2 l rec .ready none →
 (∀ (W : World) (x8 : Option Addr) (R : Value → World → Prop), RecR W l rec .ready none →
 (RecR W l rec .ready none ∧ ∀ w1_3, Frm (fun b => b = l) W w1_3 → w1_3.heap.size = W.heap.size → RecR w1_3 l rec .busy none →
 ∃ t9 : Option Addr, Ld w1_3 (⟨b5, 0, none⟩ : Addr) (.pointer t9) ∧
 ∃ b10 : Bool, BinIs prog .eql 74 (.tmp 9) (.const (.pointer none)) (.pointer t9) (.pointer none) b10 ∧
 IfB b10
 (Wr w1_3 (⟨b5, 0, none⟩ : Addr) ∧ ∀ w1_4, w1_4 = w1_3.setCell (⟨b5, 0, none⟩ : Addr) (.pointer x8) →
 RecR w1_4 l rec .busy none ∧ ∀ w1_5, Frm (fun b => b = l) w1_4 w1_5 → w1_5.heap.size = w1_4.heap.size → RecR w1_5 l rec .ready none → R (.bool true) w1_5)
 (∃ t12 : Value, Ld w1_3 (⟨b3, 0, none⟩ : Addr) (t12) ∧
 ∃ t14 : Option Addr, Ld w1_3 (⟨b5, 0, none⟩ : Addr) (.pointer t14) ∧
 CallVI prog t12 #[.pointer x8, .pointer t14] w1_3 fun v15 w1_4 =>
 ∃ t15 : Int, v15 = (.int .i64 t15) ∧
 IfB (decide (t15 < (0 : Int)))
 (Wr w1_4 (⟨b5, 0, none⟩ : Addr) ∧ ∀ w1_5, w1_5 = w1_4.setCell (⟨b5, 0, none⟩ : Addr) (.pointer x8) →
 RecR w1_5 l rec .busy none ∧ ∀ w1_6, Frm (fun b => b = l) w1_5 w1_6 → w1_6.heap.size = w1_5.heap.size → RecR w1_6 l rec .ready none → R (.bool true) w1_6)
 (RecR w1_4 l rec .busy none ∧ ∀ w1_5, Frm (fun b => b = l) w1_4 w1_5 → w1_5.heap.size = w1_4.heap.size → RecR w1_5 l rec .ready none → R (.bool true) w1_5))) →
 YieldI prog l #[.pointer x8] W R) →
 RangeCall prog x0 l w1_2 fun w2 =>
 (RecR w2 l rec .ready none ∧ ∀ w3, Frm (fun b => b = l) w2 w3 → w3.heap.size = w2.heap.size →
 ∃ t19 : Option Addr, Ld w3 (⟨b5, 0, none⟩ : Addr) (.pointer t19) ∧
 RetD ([D] : List Nat) w3 fun w1_3 =>
 Q (.pointer t19) w1_3) ∨
 (False)
def an39 : Ann := { cut := fun i => none, loop := fun i => bif Nat.beq i 4 then [(8, .ptr)] else [] }
theorem eq39 (x0 : Value) (x1 : Value) (w : World) (Q : Value → World → Prop) : F39 x0 x1 w Q = vcI prog an39 (Try.f39.body.getD .skip) none (envOf [x0, x1]) [] w (retKI prog Try.f39 Q) := by kernel_rfl
theorem ok39 : codeOkI Try.f39.ntmps an39 (Try.f39.body.getD .skip) = true := by kernel_rfl
theorem W39 {x0 : Value} {x1 : Value} {w : World} {Q : Value → World → Prop} (h : F39 x0 x1 w Q) : Calls prog 39 #[x0, x1] w fun en w' => ∃ v, en = .returned v ∧ Q v w' :=
  calls_of_vcI good follows an39 (args := [x0, x1]) Try.func39 (by kernel_rfl) ok39 (of_decide_eq_true (by kernel_rfl)) (Eq.mp (eq39 x0 x1 w Q) h)

/-- (*bastion/stride.Shares).those$1 -/
def F71 (x0 : Value) (x1 : Addr) (x2 : Addr) (x3 : Addr) (w : World) (Q : Value → World → Prop) : Prop :=
 ∃ t7 : Option Addr, Ld w x1 (.pointer t7) ∧
 ∃ p8, t7 = some p8 ∧
 ∃ t10 : Sl, Ld w (p8.add 0) (.slice t10.a t10.l t10.c) ∧
 ∃ (I : Nat → Int → World → Prop) (n0 : Nat), I n0 (0 : Int) w ∧
 ∀ (n : Nat) (u : Env) (x12 : Int) (w1 : World), I n x12 w1 →
 IfB (decide (x12 < ((t10.l : Nat) : Int)))
 (∃ p14, t10.a = some p14 ∧ 0 ≤ x12 ∧ x12 < ((t10.l : Nat) : Int) ∧
 ∃ t15 : Option Addr, Ld w1 (p14.add ((x12).toNat * 1)) (.pointer t15) ∧
 ∃ p17, t15 = some p17 ∧
 ∃ t19 : Bool, Ld w1 (p17.add 4) (.bool t19) ∧
 IfB t19
 (∃ p22, t15 = some p22 ∧
 ∃ t24 : Bool, Ld w1 (p22.add 3) (.bool t24) ∧
 IfB t24
 (∃ t26 : Bool, Ld w1 x2 (.bool t26) ∧
 IfB t26
 (CallVI prog x0 #[.pointer t15] w1 fun v42 w1_1 =>
 ∃ t42 : Bool, v42 = (.bool t42) ∧
 IfB (!t42)
 (Q (.tuple #[]) w1_1)
 (([] : List Nat) = ([] : List Nat) ∧ ∃ n', n' < n ∧ I n' (IntKind.wrap .i64 (x12 + (1 : Int))) w1_1))
 (∃ p30, t15 = some p30 ∧
 ∃ t32 : Bool, Ld w1 (p30.add 3) (.bool t32) ∧
 IfB (!t32)
 (∃ t35 : Bool, Ld w1 x3 (.bool t35) ∧
 IfB t35
 (CallVI prog x0 #[.pointer t15] w1 fun v42 w1_1 =>
 ∃ t42 : Bool, v42 = (.bool t42) ∧
 IfB (!t42)
 (Q (.tuple #[]) w1_1)
 (([] : List Nat) = ([] : List Nat) ∧ ∃ n', n' < n ∧ I n' (IntKind.wrap .i64 (x12 + (1 : Int))) w1_1))
 (([] : List Nat) = ([] : List Nat) ∧ ∃ n', n' < n ∧ I n' (IntKind.wrap .i64 (x12 + (1 : Int))) w1))
 (([] : List Nat) = ([] : List Nat) ∧ ∃ n', n' < n ∧ I n' (IntKind.wrap .i64 (x12 + (1 : Int))) w1)))
 (∃ p30, t15 = some p30 ∧
 ∃ t32 : Bool, Ld w1 (p30.add 3) (.bool t32) ∧
 IfB (!t32)
 (∃ t35 : Bool, Ld w1 x3 (.bool t35) ∧
 IfB t35
 (CallVI prog x0 #[.pointer t15] w1 fun v42 w1_1 =>
 ∃ t42 : Bool, v42 = (.bool t42) ∧
 IfB (!t42)
 (Q (.tuple #[]) w1_1)
 (([] : List Nat) = ([] : List Nat) ∧ ∃ n', n' < n ∧ I n' (IntKind.wrap .i64 (x12 + (1 : Int))) w1_1))
 (([] : List Nat) = ([] : List Nat) ∧ ∃ n', n' < n ∧ I n' (IntKind.wrap .i64 (x12 + (1 : Int))) w1))
 (([] : List Nat) = ([] : List Nat) ∧ ∃ n', n' < n ∧ I n' (IntKind.wrap .i64 (x12 + (1 : Int))) w1)))
 (([] : List Nat) = ([] : List Nat) ∧ ∃ n', n' < n ∧ I n' (IntKind.wrap .i64 (x12 + (1 : Int))) w1))
 (Q (.tuple #[]) w1)
def an71 : Ann := { cut := fun i => none, loop := fun i => bif Nat.beq i 1 then [(12, .int .i64)] else [] }
theorem eq71 (x0 : Value) (x1 : Addr) (x2 : Addr) (x3 : Addr) (w : World) (Q : Value → World → Prop) : F71 x0 x1 x2 x3 w Q = vcI prog an71 (Try.f71.body.getD .skip) none (envOf [x0, .pointer (some x1), .pointer (some x2), .pointer (some x3)]) [] w (retKI prog Try.f71 Q) := by kernel_rfl
theorem ok71 : codeOkI Try.f71.ntmps an71 (Try.f71.body.getD .skip) = true := by kernel_rfl
theorem W71 {x0 : Value} {x1 : Addr} {x2 : Addr} {x3 : Addr} {w : World} {Q : Value → World → Prop} (h : F71 x0 x1 x2 x3 w Q) : Calls prog 71 #[x0, .pointer (some x1), .pointer (some x2), .pointer (some x3)] w fun en w' => ∃ v, en = .returned v ∧ Q v w' :=
  calls_of_vcI good follows an71 (args := [x0, .pointer (some x1), .pointer (some x2), .pointer (some x3)]) Try.func71 (by kernel_rfl) ok71 (of_decide_eq_true (by kernel_rfl)) (Eq.mp (eq71 x0 x1 x2 x3 w Q) h)
end Go.Proofs.Ythgeacnemojjgaa

/- Maps with int keys: looking up. -/
import Derived.Test.YtlbipbepeeopaaaOp
import Derived.Maps.RangeRun
set_option linter.unusedVariables false
set_option linter.unusedSimpArgs false
set_option maxRecDepth 20000
namespace Go.Proofs.Ytlbipbepeeopaaa
open Go Go.Proofs.YtlbipbepeeopaaaV
def IntKeys (l : List MapEntry) : Prop := ∀ e ∈ l, ∃ a : Int, e.key = .int .i64 a
/-- Where an int stands among the keys. -/
def findI (k : Int) : List MapEntry → Nat → Option (Nat × Value)
  | [], _ => none
  | e :: r, i => match e.key with
    | .int .i64 a => if a = k then some (i, e.val) else findI k r (i + 1)
    | _ => none
theorem findNow_int (k : Int) : ∀ (l : List MapEntry) (i : Nat), IntKeys l → Instr.findNow (.int .i64) (.int .i64 k) l i = some (findI k l i)
  | [], _, _ => rfl
  | e :: r, i, h => by
    obtain ⟨a, ha⟩ := h e (by simp)
    rw [Instr.findNow, findI, ha]
    simp only [Instr.sameNow, if_true]
    by_cases hk : k = a
    · subst hk; simp
    · have : (k == a) = false := by simpa using hk
      rw [this, if_neg (fun h => hk h.symm)]
      exact findNow_int k r (i + 1) (fun x hx => h x (by simp [hx]))
theorem un26 : prog.underlying 26 = some (.map 3 3) := by kernel_rfl
theorem un77 : prog.underlying 77 = some (.map 3 9) := by kernel_rfl
theorem checkKey_int (c : Bool) (k : Int) (w : World) : (Instr.checkKey c 10000 3 (.int .i64 k)).run prog w = .ok () w := by
  unfold Instr.checkKey
  simp [run_underlying un3]
theorem zero3 (w : World) : (zeroValue 3).run prog w = .ok (.int .i64 0) w := by kernel_rfl
theorem zero9 (w : World) : (zeroValue 9).run prog w = .ok (.string ⟨#[]⟩) w := by kernel_rfl
theorem run_look26 {w : World} {b clock : Nat} {es : Array MapEntry} (hb : w.heap[b]? = some (.map es clock)) (hk : IntKeys es.toList) (k : Int) :
    (Instr.lookup 26 (.map (some b)) (.int .i64 k) false).run prog w = .ok (((findI k es.toList 0).map (·.2)).getD (.int .i64 0)) w := by
  have hf := MapKept.run_findKey (P := prog) (w := w) (kt := 3) un3 (findNow_int k es.toList 0 hk)
  have hg := MapKept.run_getObj_map (P := prog) hb
  simp only [Instr.lookup, Sem.run_bind, run_underlying un26, Result.andThen_ok, hg, Sem.run_pure, checkKey_int, hf]
  cases h : findI k es.toList 0 with
  | none => simp [zero3]
  | some p => simp
theorem run_updNew {t e : TypeId} (ht : prog.underlying t = some (.map 3 e)) {w : World} {b clock : Nat} {es : Array MapEntry} (hb : w.heap[b]? = some (.map es clock)) (hk : IntKeys es.toList) (k : Int) (v : Value) (hn : findI k es.toList 0 = none) :
    (Instr.mapUpdate t (.map (some b)) (.int .i64 k) v).run prog w = .ok () (ChangeMaps.setBlock w b (.map (es.push ⟨.int .i64 k, v, clock⟩) (clock + 1))) := by
  have hf := MapKept.run_findKey (P := prog) (w := w) (kt := 3) un3 (findNow_int k es.toList 0 hk)
  rw [hn] at hf
  have hg := MapKept.run_getObj_map (P := prog) hb
  have hs : (setObj b (.map (es.push ⟨.int .i64 k, v, clock⟩) (clock + 1))).run prog w = .ok () (ChangeMaps.setBlock w b (.map (es.push ⟨.int .i64 k, v, clock⟩) (clock + 1))) := by
    simp [setObj, Sem.run, hb, ChangeMaps.setBlock]
  simp only [Instr.mapUpdate, Sem.run_bind, run_underlying ht, Result.andThen_ok, hg, Sem.run_pure, checkKey_int, hf, hs]
theorem findI_push (k j : Int) (v : Value) (c : Nat) : ∀ (l : List MapEntry) (i : Nat), IntKeys l → findI j (l ++ [⟨.int .i64 k, v, c⟩]) i = match findI j l i with | some p => some p | none => if k = j then some (i + l.length, v) else none
  | [], i, _ => by simp [findI]
  | e :: r, i, h => by
    obtain ⟨a, ha⟩ := h e (by simp)
    rw [List.cons_append, findI, findI, ha]
    by_cases hj : a = j
    · simp [hj]
    · simp only [if_neg hj]
      rw [findI_push k j v c r (i + 1) (fun x hx => h x (by simp [hx])), List.length_cons]
      cases findI j r (i + 1) with
      | none =>
        have : i + 1 + r.length = i + (r.length + 1) := by omega
        rw [this]
      | some p => rfl
end Go.Proofs.Ytlbipbepeeopaaa

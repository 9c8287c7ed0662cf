/- Two closed facts of the loaded program that every walk uses. -/
import Derived.Test.YtlbipbepeeopaaaProg
import Derived.Test.YtlbipbepeeopaaaV
import Derived.KernelRfl
namespace Go.Proofs.Ytlbipbepeeopaaa
open Go Go.Proofs.YtlbipbepeeopaaaV
noncomputable abbrev prog : Program := Try.prog
theorem names_ok : prog.funcs.toList.all (fun fn => !(fn.name == "runtime.NumGoroutine")) = true := by kernel_rfl
theorem good : NoNum prog := fun f fn h => by
  have := List.all_eq_true.1 names_ok fn (by simpa using Array.mem_of_getElem? h)
  simpa using this
theorem follows : prog.follows .mixedOrders = true := by kernel_rfl
end Go.Proofs.Ytlbipbepeeopaaa

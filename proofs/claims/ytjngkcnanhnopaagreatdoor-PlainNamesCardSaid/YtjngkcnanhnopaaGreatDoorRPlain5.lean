import Derived.Test.YtjngkcnanhnopaaGreatDoorBPlain
/-! covenant/covenantlaw23.forms: run by the kernel. -/
namespace Go.Proofs.YtjngkcnanhnopaaGreatDoor.Ev
open Go Go.RowKit
set_option linter.unusedVariables false
set_option maxRecDepth 1000000 in
theorem ran5 : runK Tryz.prog (extL exts) spec3 60 15 = true := by kernel_rfl
set_option maxRecDepth 1000000 in
theorem one5 : bodiesB Tryz.prog [15] = true := by kernel_rfl
theorem closed5 : (∃ fn, Tryz.prog.funcs[(15 : Nat)]? = some fn ∧ fn.body.isNone = false) ∧ ∀ W m, CallsIn Fence.wide m Tryz.prog 15 #[] W fun e W' => e = .returned (.bool true) ∧ Below W.heap.size W W' :=
  closed_true hm (names_of hnm) hext spec3_ok one5 ran5
end Go.Proofs.YtjngkcnanhnopaaGreatDoor.Ev

import Derived.Test.YtjngkcnanhnopaaGreatDoorBPlain
/-! covenant/covenantlaw23.works: run by the kernel. -/
namespace Go.Proofs.YtjngkcnanhnopaaGreatDoor.Ev
open Go Go.RowKit
set_option linter.unusedVariables false
set_option maxRecDepth 1000000 in
theorem ran0 : runK Tryz.prog (extL exts) spec3 60 5 = true := by kernel_rfl
set_option maxRecDepth 1000000 in
theorem one0 : bodiesB Tryz.prog [5] = true := by kernel_rfl
theorem closed0 : (∃ fn, Tryz.prog.funcs[(5 : Nat)]? = some fn ∧ fn.body.isNone = false) ∧ ∀ W m, CallsIn Fence.wide m Tryz.prog 5 #[] W fun e W' => e = .returned (.bool true) ∧ Below W.heap.size W W' :=
  closed_true hm (names_of hnm) hext spec3_ok one0 ran0
end Go.Proofs.YtjngkcnanhnopaaGreatDoor.Ev

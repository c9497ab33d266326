import Derived.Test.YtjngkcnanhnopaaGreatDoorBPlain
/-! covenant/covenantlaw23.lates: run by the kernel. -/
namespace Go.Proofs.YtjngkcnanhnopaaGreatDoor.Ev
open Go Go.RowKit
set_option linter.unusedVariables false
set_option maxRecDepth 1000000 in
theorem ran2 : runK Tryz.prog (extL exts) spec3 60 12 = true := by kernel_rfl
set_option maxRecDepth 1000000 in
theorem one2 : bodiesB Tryz.prog [12] = true := by kernel_rfl
theorem closed2 : (∃ fn, Tryz.prog.funcs[(12 : Nat)]? = some fn ∧ fn.body.isNone = false) ∧ ∀ W m, CallsIn Fence.wide m Tryz.prog 12 #[] W fun e W' => e = .returned (.bool true) ∧ Below W.heap.size W W' :=
  closed_true hm (names_of hnm) hext spec3_ok one2 ran2
end Go.Proofs.YtjngkcnanhnopaaGreatDoor.Ev

import Derived.Test.YtjngkcnanhnopaaGreatDoorBPlain
/-! covenant/covenantlaw23.denies: run by the kernel. -/
namespace Go.Proofs.YtjngkcnanhnopaaGreatDoor.Ev
open Go Go.RowKit
set_option linter.unusedVariables false
set_option maxRecDepth 1000000 in
theorem ran4 : runK Tryz.prog (extL exts) spec3 60 14 = true := by kernel_rfl
set_option maxRecDepth 1000000 in
theorem one4 : bodiesB Tryz.prog [14] = true := by kernel_rfl
theorem closed4 : (∃ fn, Tryz.prog.funcs[(14 : Nat)]? = some fn ∧ fn.body.isNone = false) ∧ ∀ W m, CallsIn Fence.wide m Tryz.prog 14 #[] W fun e W' => e = .returned (.bool true) ∧ Below W.heap.size W W' :=
  closed_true hm (names_of hnm) hext spec3_ok one4 ran4
end Go.Proofs.YtjngkcnanhnopaaGreatDoor.Ev

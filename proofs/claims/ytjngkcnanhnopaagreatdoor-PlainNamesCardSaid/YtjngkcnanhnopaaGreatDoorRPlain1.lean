import Derived.Test.YtjngkcnanhnopaaGreatDoorMPlain1a
import Derived.Test.YtjngkcnanhnopaaGreatDoorMPlain1b
/-! covenant/covenantlaw23.kinds: its parts joined. -/
namespace Go.Proofs.YtjngkcnanhnopaaGreatDoor.Ev
open Go Go.RowKit
set_option linter.unusedVariables false
set_option maxRecDepth 1000000 in
theorem cb1 : Tryz.f11.body = some c0_1 := by kernel_rfl
theorem leaf1_ok : LeafOk Tryz.prog Tryz.f11.ntmps (leafK Tryz.prog (extL exts) spec3 60 Tryz.f11.ntmps) := leafK_ok hm (names_of hnm) hext spec3_ok
set_option maxRecDepth 1000000 in
theorem one1 : bodiesB Tryz.prog [11] = true := by kernel_rfl
theorem closed1 : (∃ fn, Tryz.prog.funcs[(11 : Nat)]? = some fn ∧ fn.body.isNone = false) ∧ ∀ W m, CallsIn Fence.wide m Tryz.prog 11 #[] W fun e W' => e = .returned (.bool true) ∧ Below W.heap.size W W' :=
  ⟨bodies_mem one1 List.mem_cons_self, fun W m => closed_of Tryz.func11 cb1 (cut_ok leaf1_ok cut1_0 (end_ok leaf1_ok cut1_1)) W m⟩
end Go.Proofs.YtjngkcnanhnopaaGreatDoor.Ev

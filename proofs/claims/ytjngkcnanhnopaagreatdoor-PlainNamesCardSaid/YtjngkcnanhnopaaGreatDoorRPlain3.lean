import Derived.Test.YtjngkcnanhnopaaGreatDoorMPlain3a
import Derived.Test.YtjngkcnanhnopaaGreatDoorMPlain3b
import Derived.Test.YtjngkcnanhnopaaGreatDoorMPlain3c
/-! covenant/covenantlaw23.follows: its parts joined. -/
namespace Go.Proofs.YtjngkcnanhnopaaGreatDoor.Ev
open Go Go.RowKit
set_option linter.unusedVariables false
set_option maxRecDepth 1000000 in
theorem cb3 : Tryz.f13.body = some c0_3 := by kernel_rfl
theorem leaf3_ok : LeafOk Tryz.prog Tryz.f13.ntmps (leafK Tryz.prog (extL exts) spec3 60 Tryz.f13.ntmps) := leafK_ok hm (names_of hnm) hext spec3_ok
set_option maxRecDepth 1000000 in
theorem one3 : bodiesB Tryz.prog [13] = true := by kernel_rfl
theorem closed3 : (∃ fn, Tryz.prog.funcs[(13 : Nat)]? = some fn ∧ fn.body.isNone = false) ∧ ∀ W m, CallsIn Fence.wide m Tryz.prog 13 #[] W fun e W' => e = .returned (.bool true) ∧ Below W.heap.size W W' :=
  ⟨bodies_mem one3 List.mem_cons_self, fun W m => closed_of Tryz.func13 cb3 (cut_ok leaf3_ok cut3_0 (cut_ok leaf3_ok cut3_1 (end_ok leaf3_ok cut3_2))) W m⟩
end Go.Proofs.YtjngkcnanhnopaaGreatDoor.Ev

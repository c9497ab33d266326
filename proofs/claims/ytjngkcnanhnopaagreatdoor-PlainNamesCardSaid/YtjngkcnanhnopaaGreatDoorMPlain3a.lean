import Derived.Test.YtjngkcnanhnopaaGreatDoorMPlain3
/-! covenant/covenantlaw23.follows: a part, run by the kernel. -/
namespace Go.Proofs.YtjngkcnanhnopaaGreatDoor.Ev
open Go Go.RowKit
set_option linter.unusedVariables false
set_option maxRecDepth 1000000 in
theorem cut3_0 : cutB c0_3 (leafK Tryz.prog (extL exts) spec3 60 Tryz.f13.ntmps) 13 [] ⟨.leaf, ⟨.leaf, 0, 0, []⟩⟩ cp3_1 ct3_1 ch3_1 1831 = true := by kernel_rfl
end Go.Proofs.YtjngkcnanhnopaaGreatDoor.Ev

import Derived.Test.YtjngkcnanhnopaaGreatDoorMPlain3
/-! covenant/covenantlaw23.follows: a part, run by the kernel. -/
namespace Go.Proofs.YtjngkcnanhnopaaGreatDoor.Ev
open Go Go.RowKit
set_option linter.unusedVariables false
set_option maxRecDepth 1000000 in
theorem cut3_2 : endB Tryz.prog Tryz.f13 c0_3 (leafK Tryz.prog (extL exts) spec3 60 Tryz.f13.ntmps) 5 cp3_2 (mkSt ct3_2 ch3_2 3446) = true := by kernel_rfl
end Go.Proofs.YtjngkcnanhnopaaGreatDoor.Ev

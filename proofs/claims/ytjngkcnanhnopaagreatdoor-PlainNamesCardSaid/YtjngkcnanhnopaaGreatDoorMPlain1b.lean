import Derived.Test.YtjngkcnanhnopaaGreatDoorMPlain1
/-! covenant/covenantlaw23.kinds: a part, run by the kernel. -/
namespace Go.Proofs.YtjngkcnanhnopaaGreatDoor.Ev
open Go Go.RowKit
set_option linter.unusedVariables false
set_option maxRecDepth 1000000 in
theorem cut1_1 : endB Tryz.prog Tryz.f11 c0_1 (leafK Tryz.prog (extL exts) spec3 60 Tryz.f11.ntmps) 27 cp1_1 (mkSt ct1_1 ch1_1 1286) = true := by kernel_rfl
end Go.Proofs.YtjngkcnanhnopaaGreatDoor.Ev

import Derived.Test.YtjngkcnanhnopaaGreatDoorRPlain0
import Derived.Test.YtjngkcnanhnopaaGreatDoorRPlain1
import Derived.Test.YtjngkcnanhnopaaGreatDoorRPlain2
import Derived.Test.YtjngkcnanhnopaaGreatDoorRPlain3
import Derived.Test.YtjngkcnanhnopaaGreatDoorRPlain4
import Derived.Test.YtjngkcnanhnopaaGreatDoorRPlain5
/-! covenant/covenantlaw23.PlainNames: run by the kernel, whatever a tape may bring. -/
namespace Go.Proofs.YtjngkcnanhnopaaGreatDoor.Ev
open Go Go.RowKit
set_option linter.unusedVariables false
def cl : List FuncId := [5, 11, 12, 13, 14, 15]
noncomputable def specs : SpecT := closedSpec spec3 cl
theorem hspec : SpecOk Tryz.prog specs := closedSpec_ok spec3_ok fun g hg => by
  rcases List.mem_cons.1 hg with rfl | hg
  · exact closed0
  rcases List.mem_cons.1 hg with rfl | hg
  · exact closed1
  rcases List.mem_cons.1 hg with rfl | hg
  · exact closed2
  rcases List.mem_cons.1 hg with rfl | hg
  · exact closed3
  rcases List.mem_cons.1 hg with rfl | hg
  · exact closed4
  rcases List.mem_cons.1 hg with rfl | hg
  · exact closed5
  cases hg
set_option maxRecDepth 1000000 in
theorem ranK : runK Tryz.prog (extL exts) specs 60 3 = true := by kernel_rfl
theorem ran : runE Tryz.prog (extL exts) specs 60 3 = true := Eq.trans (runK_eq Tryz.prog (extL exts) specs 60 3).symm ranK
end Go.Proofs.YtjngkcnanhnopaaGreatDoor.Ev

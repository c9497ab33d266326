import Derived.Test.YtdammjolkcjogaaBAwkM
/-! covenant/covenantlaw22.awake: run by the kernel, whatever a tape may bring. -/
namespace Go.Proofs.Ytdammjolkcjogaa.Ev
open Go Go.RowKit
set_option linter.unusedVariables false
def cl : List FuncId := []
noncomputable def specs : SpecT := closedSpec spec3 cl
theorem hspec : SpecOk Try.prog specs := closedSpec_ok spec3_ok fun g hg => by
  cases hg
set_option maxRecDepth 1000000 in
theorem ranK : runK Try.prog (extL exts) specs 60 20 = true := by kernel_rfl
theorem ran : runE Try.prog (extL exts) specs 60 20 = true := Eq.trans (runK_eq Try.prog (extL exts) specs 60 20).symm ranK
end Go.Proofs.Ytdammjolkcjogaa.Ev

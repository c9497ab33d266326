import Derived.Test.YtnnembfeaimjeaaGreatDoorRows
import Derived.ProofKit
import Derived.JoinedOf
import Derived.SevenTiedAt
/-! JudgeNames: the closed facts of its row, each by itself. -/
namespace Go.Proofs.YtnnembfeaimjeaaGreatDoor.judgeNames
open Go Go.ChangeShapes Go.WideShapes Go.ChangeAt Go.RowKit
set_option linter.unusedVariables false
set_option maxHeartbeats 4000000 in
set_option maxRecDepth 1000000 in
theorem facts : joinedFacts Tryz.prog 3 Tryz.f3 Rows.judgeNamesSpec Rows.judgeNamesRow = true := by
  unfold joinedFacts
  simp only [Bool.and_eq_true]
  refine ⟨⟨⟨⟨⟨⟨⟨⟨⟨⟨⟨⟨⟨⟨⟨⟨⟨⟨⟨⟨⟨⟨⟨⟨⟨⟨⟨⟨⟨⟨⟨?_, ?_⟩, ?_⟩, ?_⟩, ?_⟩, ?_⟩, ?_⟩, ?_⟩, ?_⟩, ?_⟩, ?_⟩, ?_⟩, ?_⟩, ?_⟩, ?_⟩, ?_⟩, ?_⟩, ?_⟩, ?_⟩, ?_⟩, ?_⟩, ?_⟩, ?_⟩, ?_⟩, ?_⟩, ?_⟩, ?_⟩, ?_⟩, ?_⟩, ?_⟩, ?_⟩, ?_⟩
  all_goals as_aux_lemma => kernel_rfl
set_option maxRecDepth 1000000 in
theorem cw : Rows.judgeNamesRow.wfByText (OpenSpec.ofChange Rows.judgeNamesSpec) = true := by kernel_rfl
set_option maxRecDepth 1000000 in
theorem cm : Tryz.prog.mainIs = some (true, ("4622802c96ff4d050cd2709c272f806e3e7e1791f016a711efb51d7fc06594fd" : String).toList) := by kernel_rfl
set_option maxRecDepth 1000000 in
theorem cl : false = Tryz.prog.looks [] := by kernel_rfl
set_option maxRecDepth 1000000 in
theorem cg : false = Rows.judgeNamesRow.goesBy Tryz.prog := by kernel_rfl
end Go.Proofs.YtnnembfeaimjeaaGreatDoor.judgeNames

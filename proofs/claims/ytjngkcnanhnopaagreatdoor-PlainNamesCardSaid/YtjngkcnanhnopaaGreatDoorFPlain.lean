import Derived.Test.YtjngkcnanhnopaaGreatDoorRows
import Derived.ProofKit
import Derived.JoinedOf
import Derived.SevenTiedAt
/-! PlainNames: the closed facts of its row, each by itself. -/
namespace Go.Proofs.YtjngkcnanhnopaaGreatDoor.plainNames
open Go Go.ChangeShapes Go.WideShapes Go.ChangeAt Go.RowKit
set_option linter.unusedVariables false
set_option maxHeartbeats 4000000 in
set_option maxRecDepth 1000000 in
theorem facts : joinedFacts Tryz.prog 3 Tryz.f3 Rows.plainNamesSpec Rows.plainNamesRow = true := by
  unfold joinedFacts
  simp only [Bool.and_eq_true]
  refine ⟨⟨⟨⟨⟨⟨⟨⟨⟨⟨⟨⟨⟨⟨⟨⟨⟨⟨⟨⟨⟨⟨⟨⟨⟨⟨⟨⟨⟨⟨⟨?_, ?_⟩, ?_⟩, ?_⟩, ?_⟩, ?_⟩, ?_⟩, ?_⟩, ?_⟩, ?_⟩, ?_⟩, ?_⟩, ?_⟩, ?_⟩, ?_⟩, ?_⟩, ?_⟩, ?_⟩, ?_⟩, ?_⟩, ?_⟩, ?_⟩, ?_⟩, ?_⟩, ?_⟩, ?_⟩, ?_⟩, ?_⟩, ?_⟩, ?_⟩, ?_⟩, ?_⟩
  all_goals as_aux_lemma => kernel_rfl
set_option maxRecDepth 1000000 in
theorem cw : Rows.plainNamesRow.wfByText (OpenSpec.ofChange Rows.plainNamesSpec) = true := by kernel_rfl
set_option maxRecDepth 1000000 in
theorem cm : Tryz.prog.mainIs = some (true, ("5fe46bedc73498946f4749b45f895f80433cf7cd948869a2eda45800c1df3496" : String).toList) := by kernel_rfl
set_option maxRecDepth 1000000 in
theorem cl : true = Tryz.prog.looks [] := by kernel_rfl
set_option maxRecDepth 1000000 in
theorem cg : false = Rows.plainNamesRow.goesBy Tryz.prog := by kernel_rfl
end Go.Proofs.YtjngkcnanhnopaaGreatDoor.plainNames

import Derived.Test.YtlikabehjiocjaaGreatDoorRows
import Derived.ProofKit
import Derived.JoinedOf
import Derived.SevenTiedAt
/-! WriteNames: the closed facts of its row, each by itself. -/
namespace Go.Proofs.YtlikabehjiocjaaGreatDoor.writeNames
open Go Go.ChangeShapes Go.WideShapes Go.ChangeAt Go.RowKit
set_option linter.unusedVariables false
set_option maxHeartbeats 4000000 in
set_option maxRecDepth 1000000 in
theorem facts : joinedFacts Tryz.prog 3 Tryz.f3 Rows.writeNamesSpec Rows.writeNamesRow = true := by
  unfold joinedFacts
  simp only [Bool.and_eq_true]
  refine ⟨⟨⟨⟨⟨⟨⟨⟨⟨⟨⟨⟨⟨⟨⟨⟨⟨⟨⟨⟨⟨⟨⟨⟨⟨⟨⟨⟨⟨⟨⟨?_, ?_⟩, ?_⟩, ?_⟩, ?_⟩, ?_⟩, ?_⟩, ?_⟩, ?_⟩, ?_⟩, ?_⟩, ?_⟩, ?_⟩, ?_⟩, ?_⟩, ?_⟩, ?_⟩, ?_⟩, ?_⟩, ?_⟩, ?_⟩, ?_⟩, ?_⟩, ?_⟩, ?_⟩, ?_⟩, ?_⟩, ?_⟩, ?_⟩, ?_⟩, ?_⟩, ?_⟩
  all_goals as_aux_lemma => kernel_rfl
set_option maxRecDepth 1000000 in
theorem cw : Rows.writeNamesRow.wfByText (OpenSpec.ofChange Rows.writeNamesSpec) = true := by kernel_rfl
set_option maxRecDepth 1000000 in
theorem cm : Tryz.prog.mainIs = some (true, ("b082ee008951bf5a0fc08759fcc9f978e649db537fe2e5932dae19a58ec83ce2" : String).toList) := by kernel_rfl
set_option maxRecDepth 1000000 in
theorem cl : true = Tryz.prog.looks [] := by kernel_rfl
set_option maxRecDepth 1000000 in
theorem cg : false = Rows.writeNamesRow.goesBy Tryz.prog := by kernel_rfl
end Go.Proofs.YtlikabehjiocjaaGreatDoor.writeNames

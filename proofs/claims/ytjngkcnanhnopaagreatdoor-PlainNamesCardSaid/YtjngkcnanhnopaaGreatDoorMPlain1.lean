import Derived.Test.YtjngkcnanhnopaaGreatDoorBPlain
/-! covenant/covenantlaw23.kinds: where it is cut. -/
namespace Go.Proofs.YtjngkcnanhnopaaGreatDoor.Ev
open Go Go.RowKit
set_option linter.unusedVariables false
noncomputable def c0_1 : Code := match Tryz.f11.body with
  | some c => c
  | none => .skip
def cp1_1 : List D := [.r, .r, .r]
def ct1_1 : List (Nat × V) := [(1, .ptr (some (4, 0))), (0, .bool false)]
def ch1_1 : List (Nat × O) := [(4, .cells [.int .i64 0, .slice none 0 (.exact 0), .slice none 0 (.exact 0), .slice (some (1, 0)) 1 (.exact 1), .slice none 0 (.exact 0), .slice none 0 (.exact 0), .ptr (some (3, 0)), .ptr none, .map none, .slice none 0 (.exact 0)] 62 none), (1, .cells [.str [114, 111, 111, 116]] 9 none), (3, .cells [.map (some 2)] 112 none), (2, .map [] none)]
end Go.Proofs.YtjngkcnanhnopaaGreatDoor.Ev

import Derived.Test.YtlikabehjiocjaaGreatDoorRows
import Derived.Test.YtlikabehjiocjaaGreatDoorKy
import Derived.Test.YtlikabehjiocjaaGreatDoorJc
/-! WriteNames: run by the kernel, whatever a tape may bring. -/
namespace Go.Proofs.YtlikabehjiocjaaGreatDoor.Ev
open Go Go.RowKit
set_option linter.unusedVariables false
set_option maxRecDepth 1000000 in
theorem hm : Tryz.prog.follows .mixedOrders = true := by kernel_rfl
set_option maxRecDepth 1000000 in
theorem hnm : Tryz.prog.funcs.toList.all (fun fn => !(fn.name == "runtime.NumGoroutine")) = true := by kernel_rfl
def exts : List (FuncId × (H → List V → Option (V × H))) := [(361, pureE cmpE), (393, pureE idxE), (206, clnE)]
set_option maxRecDepth 1000000 in
theorem hext : ExtOk Tryz.prog (extL exts) := extL_ok _ fun p hp => by
  rcases List.mem_cons.1 hp with rfl | hp
  · exact pureE_ok (cmpE_ok Tryz.func361 (by kernel_rfl) (by kernel_rfl) (by kernel_rfl) (by kernel_rfl))
  rcases List.mem_cons.1 hp with rfl | hp
  · exact pureE_ok (idxE_ok Tryz.func393 (by kernel_rfl) (by kernel_rfl) (by kernel_rfl) (by kernel_rfl))
  rcases List.mem_cons.1 hp with rfl | hp
  · exact clnE_ok Tryz.func206 (by kernel_rfl) (by kernel_rfl) (by kernel_rfl) (by kernel_rfl)
  cases hp
/-- Functions that are run all ways. -/
def joins : List FuncId := [52, 132, 74]
set_option maxRecDepth 1000000 in
theorem hbody : bodiesB Tryz.prog joins = true := by kernel_rfl
noncomputable def specs : SpecT := joinSpec Tryz.prog (extL exts) noSpec (drawK Tryz.prog) 40 joins
theorem hspec : SpecOk Tryz.prog specs := joinSpec_ok (names_of hnm) hext noSpec_ok (fun call hc => drawK_ok hm hc) hbody
set_option maxRecDepth 1000000 in
theorem ranK : runK Tryz.prog (extL exts) specs 60 3 = true := by kernel_rfl
theorem ran : runE Tryz.prog (extL exts) specs 60 3 = true := Eq.trans (runK_eq Tryz.prog (extL exts) specs 60 3).symm ranK
end Go.Proofs.YtlikabehjiocjaaGreatDoor.Ev

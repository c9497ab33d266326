import Derived.Test.YtjngkcnanhnopaaGreatDoorRows
import Derived.Test.YtjngkcnanhnopaaGreatDoorKy
import Derived.Test.YtjngkcnanhnopaaGreatDoorJg
/-! covenant/covenantlaw23.PlainNames: the calls that are run by themselves. -/
namespace Go.Proofs.YtjngkcnanhnopaaGreatDoor.Ev
open Go Go.RowKit
set_option linter.unusedVariables false
set_option maxRecDepth 1000000 in
theorem hm : Tryz.prog.follows .mixedOrders = true := by kernel_rfl
set_option maxRecDepth 1000000 in
theorem hnm : Tryz.prog.funcs.toList.all (fun fn => !(fn.name == "runtime.NumGoroutine")) = true := by kernel_rfl
def exts : List (FuncId × (H → List V → Option (V × H))) := [(351, pureE cmpE), (328, pureE idxE), (68, clnE)]
set_option maxRecDepth 1000000 in
theorem hext : ExtOk Tryz.prog (extL exts) := extL_ok _ fun p hp => by
  rcases List.mem_cons.1 hp with rfl | hp
  · exact pureE_ok (cmpE_ok Tryz.func351 (by kernel_rfl) (by kernel_rfl) (by kernel_rfl) (by kernel_rfl))
  rcases List.mem_cons.1 hp with rfl | hp
  · exact pureE_ok (idxE_ok Tryz.func328 (by kernel_rfl) (by kernel_rfl) (by kernel_rfl) (by kernel_rfl))
  rcases List.mem_cons.1 hp with rfl | hp
  · exact clnE_ok Tryz.func68 (by kernel_rfl) (by kernel_rfl) (by kernel_rfl) (by kernel_rfl)
  cases hp
def flats : List FuncId := [191]
set_option maxRecDepth 1000000 in
theorem flats_b : bodiesB Tryz.prog flats = true := by kernel_rfl
def rens : List FuncId := [21]
set_option maxRecDepth 1000000 in
theorem rens_b : bodiesB Tryz.prog rens = true := by kernel_rfl
def rens2 : List FuncId := [95, 52, 36]
set_option maxRecDepth 1000000 in
theorem rens2_b : bodiesB Tryz.prog rens2 = true := by kernel_rfl
noncomputable def spec1 : SpecT := joinSpec Tryz.prog (extL exts) noSpec (drawK Tryz.prog) 40 flats
theorem spec1_ok : SpecOk Tryz.prog spec1 := joinSpec_ok (names_of hnm) hext noSpec_ok (fun call hc => drawK_ok hm hc) flats_b
noncomputable def spec2 : SpecT := renSpec Tryz.prog (extL exts) spec1 (drawK Tryz.prog) 40 rens
theorem spec2_ok : SpecOk Tryz.prog spec2 := renSpec_ok (names_of hnm) hext spec1_ok (fun call hc => drawK_ok hm hc) rens_b
noncomputable def spec3 : SpecT := renSpec Tryz.prog (extL exts) spec2 (drawK Tryz.prog) 40 rens2
theorem spec3_ok : SpecOk Tryz.prog spec3 := renSpec_ok (names_of hnm) hext spec2_ok (fun call hc => drawK_ok hm hc) rens2_b
noncomputable def callM : CallT := evCallK Tryz.prog (extL exts) spec3 (drawK Tryz.prog) 60
theorem callM_ok : CallOk Tryz.prog callM := callK_ok hm (names_of hnm) hext spec3_ok
end Go.Proofs.YtjngkcnanhnopaaGreatDoor.Ev

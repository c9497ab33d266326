import Derived.Test.YtdammjolkcjogaaRows
import Derived.Test.YtdammjolkcjogaaGKC
import Derived.Test.YtdammjolkcjogaaGJA
/-! covenant/covenantlaw22.awake: the calls that are run by themselves. -/
namespace Go.Proofs.Ytdammjolkcjogaa.Ev
open Go Go.RowKit
set_option linter.unusedVariables false
set_option maxRecDepth 1000000 in
theorem hm : Try.prog.follows .mixedOrders = true := by kernel_rfl
set_option maxRecDepth 1000000 in
theorem hnm : Try.prog.funcs.toList.all (fun fn => !(fn.name == "runtime.NumGoroutine")) = true := by kernel_rfl
def exts : List (FuncId × (H → List V → Option (V × H))) := [(52, clnE)]
set_option maxRecDepth 1000000 in
theorem hext : ExtOk Try.prog (extL exts) := extL_ok _ fun p hp => by
  rcases List.mem_cons.1 hp with rfl | hp
  · exact clnE_ok Try.func52 (by kernel_rfl) (by kernel_rfl) (by kernel_rfl) (by kernel_rfl)
  cases hp
def flats : List FuncId := [23]
set_option maxRecDepth 1000000 in
theorem flats_b : bodiesB Try.prog flats = true := by kernel_rfl
def rens : List FuncId := [14]
set_option maxRecDepth 1000000 in
theorem rens_b : bodiesB Try.prog rens = true := by kernel_rfl
def rens2 : List FuncId := [19]
set_option maxRecDepth 1000000 in
theorem rens2_b : bodiesB Try.prog rens2 = true := by kernel_rfl
noncomputable def spec1 : SpecT := joinSpec Try.prog (extL exts) noSpec (drawK Try.prog) 40 flats
theorem spec1_ok : SpecOk Try.prog spec1 := joinSpec_ok (names_of hnm) hext noSpec_ok (fun call hc => drawK_ok hm hc) flats_b
noncomputable def spec2 : SpecT := renSpec Try.prog (extL exts) spec1 (drawK Try.prog) 40 rens
theorem spec2_ok : SpecOk Try.prog spec2 := renSpec_ok (names_of hnm) hext spec1_ok (fun call hc => drawK_ok hm hc) rens_b
noncomputable def spec3 : SpecT := renSpec Try.prog (extL exts) spec2 (drawK Try.prog) 40 rens2
theorem spec3_ok : SpecOk Try.prog spec3 := renSpec_ok (names_of hnm) hext spec2_ok (fun call hc => drawK_ok hm hc) rens2_b
noncomputable def callM : CallT := evCallK Try.prog (extL exts) spec3 (drawK Try.prog) 60
theorem callM_ok : CallOk Try.prog callM := callK_ok hm (names_of hnm) hext spec3_ok
end Go.Proofs.Ytdammjolkcjogaa.Ev

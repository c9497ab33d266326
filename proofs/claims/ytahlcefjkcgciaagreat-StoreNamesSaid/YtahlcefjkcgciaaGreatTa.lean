import Derived.Test.YtahlcefjkcgciaaGreatRows
import Derived.Test.YtahlcefjkcgciaaGreatKt
/-! The evaluator: what the kernel checks. -/
namespace Go.Proofs.YtahlcefjkcgciaaGreat.Ev
open Go Go.RowKit
set_option linter.unusedVariables false
set_option maxRecDepth 1000000 in
theorem hm : Tryz.prog.follows .mixedOrders = true := by kernel_rfl
set_option maxRecDepth 1000000 in
theorem hnm : Tryz.prog.funcs.toList.all (fun fn => !(fn.name == "runtime.NumGoroutine")) = true := by kernel_rfl
set_option maxRecDepth 1000000 in
theorem hext : ExtOk Tryz.prog (ext1 202) :=
  ext1_ok Tryz.func202 (by kernel_rfl) (by kernel_rfl) (by kernel_rfl) (by kernel_rfl)
end Go.Proofs.YtahlcefjkcgciaaGreat.Ev

import Derived.Test.YtahlcefjkcgciaaGreatTa
/-! The evaluator: the law, run by the kernel. -/
namespace Go.Proofs.YtahlcefjkcgciaaGreat.Ev
open Go Go.RowKit
set_option maxRecDepth 1000000 in
theorem ran : runE Tryz.prog (ext1 202) noSpec 60 3 = true := by kernel_rfl
end Go.Proofs.YtahlcefjkcgciaaGreat.Ev

import Derived.Test.YteejeakbagbcoaaOp
import Derived.Test.YteejeakbagbcoaaWa
import Derived.OpenShut
/-! The waits that a law is handed, opened. -/
namespace Go.Proofs.Yteejeakbagbcoaa
open Go.RowKit Go.ChangeShapes Go.WideShapes
open Go.Proofs.YteejeakbagbcoaaW.PrintWords Go.Proofs.YteejeakbagbcoaaW.PrintLast Go.Proofs.YteejeakbagbcoaaW.PrintMore
set_option linter.unusedVariables false

theorem Op.arr2 {α : Type} {P : Program} {w : World} {t e : TypeId} {d : Kd α} {good : α → Prop} (ht : P.underlying t = some (.array 2 e)) (hc : P.cellsOf e = d.sz) (hct : P.cellsOf t = d.sz + d.sz) (h : Op P w e d good) : Op P w t (Kd.pair d d) (fun x => good x.1 ∧ good x.2) := by
  intro H enc base spare held fuel cs x hx hs
  obtain ⟨xs, n, rfl, rfl, hl, hlen, hf⟩ := DataW.trod_array ht hx
  match xs, hlen with
  | [x1, x2], _ =>
    have h0 := hf 0 (by omega)
    have h1 := hf 1 (by omega)
    rw [hc] at h0 h1
    simp only [Nat.zero_mul, Nat.one_mul, List.drop_zero] at h0 h1
    obtain ⟨a, a1, a2⟩ := h H enc base spare held n _ x1 (by simpa using h0) (fun m hm => hs m (by simp [DataW.weights, ht, DataW.weightsAll, hm]))
    obtain ⟨b, b1, b2⟩ := h H enc base spare held n _ x2 (by simpa using h1) (fun m hm => hs m (by simp [DataW.weights, ht, DataW.weightsAll, hm]))
    refine ⟨(a, b), ⟨_, _, ?_, a1, b1⟩, a2, b2⟩
    have h2 : (cs.drop d.sz).length = d.sz := by rw [List.length_drop, hl, hct]; omega
    rw [List.take_of_length_le (Nat.le_of_eq h2), List.take_append_drop]

set_option maxRecDepth 100000 in
theorem op_edges (w : World) : Op Try.prog w 23 (Kd.slice 22 kEdge) (fun l => l.length < 4611686018427387904 ∧ ∀ e ∈ l, okI e.1 ∧ okI e.2) :=
  (Op.slice (B := 16) _ Try.underlying23 (by kernel_rfl) (by kernel_rfl) (Op.arr2 Try.underlying22 (by kernel_rfl) (by kernel_rfl) (Op.int Try.underlying3))).weaken (fun l h => by
    obtain ⟨h1, h2⟩ := h
    unfold reachBytes at h1
    exact ⟨by omega, h2⟩)
theorem op_int (w : World) : Op Try.prog w 3 (Kd.int .i64) okI := Op.int Try.underlying3
end Go.Proofs.Yteejeakbagbcoaa

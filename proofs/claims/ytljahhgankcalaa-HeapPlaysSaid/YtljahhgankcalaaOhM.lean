import Derived.Test.YtljahhgankcalaaOp
import Derived.Test.YtljahhgankcalaaG5
/-! The steps of a heap law, opened. -/
namespace Go.Proofs.Ytljahhgankcalaa
open Go.RowKit Go.ChangeShapes Go.WideShapes
open Go.Proofs.YtljahhgankcalaaW.PrintWords Go.Proofs.YtljahhgankcalaaW.PrintLast Go.Proofs.YtljahhgankcalaaW.PrintMore
open PHeapThere
set_option linter.unusedVariables false

set_option maxRecDepth 100000 in
theorem op_val (w : World) : Op Try.prog w 91 kVal (fun x => (Lit.int .u8 x.f0).wf = true ∧ (Lit.int .i64 x.f1).wf = true ∧ (Lit.int .i64 x.f2).wf = true ∧ x.f3.size ≤ reachBytes) :=
  Op.iso (fun a => ⟨a.1, a.2.1, a.2.2.1, a.2.2.2⟩) (fun _ => rfl)
    (Op.struct Try.underlying91 (by kernel_rfl)
      (OpF.cons (Op.int Try.underlying5) rfl (by kernel_rfl) (OpF.cons (Op.int Try.underlying3) rfl (by kernel_rfl) (OpF.cons (Op.int Try.underlying3) rfl (by kernel_rfl) (OpF.one (Op.string Try.underlying9) rfl (by kernel_rfl))))))
set_option maxRecDepth 100000 in
theorem op_vals (w : World) : Op Try.prog w 30 (Kd.slice 91 kVal) (fun l => l.length * 40 ≤ reachBytes ∧ ∀ x ∈ l, (Lit.int .u8 x.f0).wf = true ∧ (Lit.int .i64 x.f1).wf = true ∧ (Lit.int .i64 x.f2).wf = true ∧ x.f3.size ≤ reachBytes) :=
  Op.slice _ Try.underlying30 (by kernel_rfl) (by kernel_rfl) (op_val w)
def wf64 (n : Int) : Prop := (Lit.int .i64 n).wf = true
def okRow (l : List AVal) : Prop := l.length * 40 ≤ reachBytes ∧ ∀ x ∈ l, (Lit.int .u8 x.f0).wf = true ∧ (Lit.int .i64 x.f1).wf = true ∧ (Lit.int .i64 x.f2).wf = true ∧ x.f3.size ≤ reachBytes
set_option maxRecDepth 100000 in
theorem op_tup (w : World) : Op Try.prog w 32 kTup (fun x => wf64 x.f0 ∧ wf64 x.f1 ∧ wf64 x.f2 ∧ wf64 x.f3 ∧ wf64 x.f4 ∧ wf64 x.f5 ∧ okRow x.f6) :=
  Op.iso (fun a => ⟨a.1, a.2.1, a.2.2.1, a.2.2.2.1, a.2.2.2.2.1, a.2.2.2.2.2.1, a.2.2.2.2.2.2⟩) (fun _ => rfl)
    (Op.struct Try.underlying32 (by kernel_rfl)
      (OpF.cons (Op.int Try.underlying3) rfl (by kernel_rfl) (OpF.cons (Op.int Try.underlying3) rfl (by kernel_rfl) (OpF.cons (Op.int Try.underlying3) rfl (by kernel_rfl) (OpF.cons (Op.int Try.underlying3) rfl (by kernel_rfl)
      (OpF.cons (Op.int Try.underlying3) rfl (by kernel_rfl) (OpF.cons (Op.int Try.underlying3) rfl (by kernel_rfl) (OpF.one (op_vals w) rfl (by kernel_rfl)))))))))
set_option maxRecDepth 100000 in
theorem op_step (w : World) : Op Try.prog w 34 kStep (fun x => (Lit.int .u8 x.f0).wf = true ∧ (wf64 x.f1.f0 ∧ wf64 x.f1.f1 ∧ wf64 x.f1.f2 ∧ wf64 x.f1.f3 ∧ wf64 x.f1.f4 ∧ wf64 x.f1.f5 ∧ okRow x.f1.f6) ∧ wf64 x.f2 ∧ wf64 x.f3 ∧ wf64 x.f4) :=
  Op.iso (fun a => ⟨a.1, a.2.1, a.2.2.1, a.2.2.2.1, a.2.2.2.2⟩) (fun _ => rfl)
    (Op.struct Try.underlying34 (by kernel_rfl)
      (OpF.cons (Op.int Try.underlying5) rfl (by kernel_rfl) (OpF.cons (op_tup w) rfl (by kernel_rfl) (OpF.cons (Op.int Try.underlying3) rfl (by kernel_rfl) (OpF.cons (Op.int Try.underlying3) rfl (by kernel_rfl) (OpF.one (Op.int Try.underlying3) rfl (by kernel_rfl)))))))
set_option maxRecDepth 100000 in
theorem op_steps (w : World) : Op Try.prog w 22 (Kd.slice 34 kStep) Sized :=
  (Op.slice (B := 104) _ Try.underlying22 (by kernel_rfl) (by kernel_rfl) (op_step w)).weaken (fun l h => by
    obtain ⟨h1, h2⟩ := h
    unfold reachBytes at h1
    refine ⟨by omega, fun i => ?_⟩
    by_cases hi : i < l.length
    · have h3 := (h2 l[i] (List.getElem_mem hi)).2.1.2.2.2.2.2.2
      have e : l.getD i zStep = l[i] := by rw [List.getD_eq_getElem?_getD, List.getElem?_eq_getElem hi]; rfl
      rw [e]
      unfold okRow reachBytes at h3
      refine ⟨by omega, fun j => ?_⟩
      by_cases hj : j < l[i].f1.f6.length
      · have h4 := (h3.2 l[i].f1.f6[j] (List.getElem_mem hj)).2.2.2
        rw [List.getD_eq_getElem?_getD, List.getElem?_eq_getElem hj]
        show l[i].f1.f6[j].f3.size ≤ 140737488351232
        omega
      · rw [List.getD_eq_getElem?_getD, List.getElem?_eq_none (by omega)]
        exact Nat.zero_le _
    · have e : l.getD i zStep = zStep := by rw [List.getD_eq_getElem?_getD, List.getElem?_eq_none (by omega)]; rfl
      rw [e]
      exact ⟨Nat.zero_le _, fun j => Nat.zero_le _⟩)
end Go.Proofs.Ytljahhgankcalaa

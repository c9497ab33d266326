/- WaitsTell: a walk through WaitsTell itself; each of waits' functions is shown to tell what the paths along waits are; then the row. -/
import Derived.Test.YteejeakbagbcoaaRows
import Derived.Test.YteejeakbagbcoaaWy
import Derived.Test.YteejeakbagbcoaaWop
import Derived.WalkKit
import Derived.ProofKit
import Derived.OpenShut
import Derived.ShutString
import Derived.ChangeOld
import Derived.Below
import Derived.SizedLaws
namespace Go.Proofs.Yteejeakbagbcoaa
open Go.RowKit Go.ChangeShapes Go.WideShapes
open Go.Proofs.YteejeakbagbcoaaW.PrintWords Go.Proofs.YteejeakbagbcoaaW.PrintLast Go.Proofs.YteejeakbagbcoaaW.PrintMore
set_option maxRecDepth 100000 in
theorem op_ints (w : World) : Op Try.prog w 26 (Kd.slice 3 (Kd.int .i64)) (fun l => l.length < 4611686018427387904) :=
  (Op.slice (B := 8) _ Try.underlying26 (by kernel_rfl) (by kernel_rfl) (Op.int Try.underlying3)).weaken (fun l h => by
    obtain ⟨h1, h2⟩ := h
    unfold reachBytes at h1
    omega)
end Go.Proofs.Yteejeakbagbcoaa
namespace Go.Proofs.Yteejeakbagbcoaa.waitsTell
open Go.ChangeShapes Go.WideShapes Go.ChangeAt Go.RowKit
open Go.Proofs.YteejeakbagbcoaaW.PrintWords Go.Proofs.YteejeakbagbcoaaW.PrintLast Go.Proofs.YteejeakbagbcoaaW.PrintMore
set_option linter.unusedVariables false
theorem own : ownKnob Try.prog.godebug = none := by kernel_rfl
set_option maxRecDepth 100000 in
theorem lifted (os : Os) (started : os.Started) (H : Type) (enc : TypeId × Value → H) :
    ReturnsInHanded {} Try.checked os 4 .any (Rows.waitsTellSpec.pre6 enc Try.prog Try.f4 Rows.waitsTellRow.domain false) (Rows.waitsTellSpec.post enc Try.prog Try.f4 false true false false) := by
  refine returnsInHanded_of_change_sized (C := Try.checked) own started (by kernel_rfl) Try.func4
    (ChangeSpec.witness6 (enc := enc) (C := Try.checked) false ⟨#[], #[.slice none 0 0, .int .i64 0, .slice none 0 0], []⟩ 8 (by kernel_rfl) (by kernel_rfl) (by kernel_rfl) (by kernel_rfl)) ?_
  intro W base args ds gs before hval0 hW hcnd hsz0 _
  have hsz : (DataW.weightsEach Try.prog (Try.f4.params.toList ++ Rows.waitsTellSpec.plain.varTypes Try.prog) (ds ++ gs)).all (· ≤ reachBytes) = true := hsz0
  have hval : ∀ (j : Nat) t v, Try.f4.params[j]? = some t → args[j]? = some v → Value.okWide Try.prog W .any base t v := hval0
  have hW' := hW
  obtain ⟨p, q, hA0, hV, rfl, hfz, hnd⟩ := hW
  have hA : DataW.TrodAll enc Try.prog W 0 (fun _ => true) true Try.f4.params.toList args.toList ds p := hA0
  rw [Try.params4] at hA hval hsz
  obtain ⟨v0, vs0, d0, ds0, p0, q0, hargs, rfl, rfl, h0, r0⟩ := trodAll_cons hA
  obtain ⟨v1, vs1, d1, ds1, p1, q1, hargs1, rfl, rfl, h1, r1⟩ := trodAll_cons r0
  obtain ⟨v2, vs2, d2, ds2, p2, q2, hargs2, rfl, rfl, h2, r2⟩ := trodAll_cons r1
  obtain ⟨rfl, rfl, rfl⟩ := trodAll_nil r2
  obtain rfl : args = #[v0, v1, v2] := by cases args; simp_all
  obtain ⟨rfl, rfl⟩ := trodVars_none hV
  obtain ⟨a0, len0, cap0, rfl⟩ := okWide_slice Try.underlying23 (hval 0 23 v0 rfl rfl)
  obtain ⟨n1, rfl⟩ := okWide_int Try.underlying3 (hval 1 3 v1 rfl rfl)
  obtain ⟨a1, len1, cap1, rfl⟩ := okWide_slice Try.underlying26 (hval 2 26 v2 rfl rfl)
  have k0 := h0
  have k1 := h1
  have k2 := h2
  have lt0 : ∀ x ∈ p0, x.block < W.heap.size := by obtain ⟨m, hm⟩ := k0; exact DataW.trod_lt m _ _ _ hm
  have lt1 : ∀ x ∈ p1, x.block < W.heap.size := by obtain ⟨m, hm⟩ := k1; exact DataW.trod_lt m _ _ _ hm
  have lt2 : ∀ x ∈ p2, x.block < W.heap.size := by obtain ⟨m, hm⟩ := k2; exact DataW.trod_lt m _ _ _ hm
  obtain ⟨es, ⟨A, c, hc, hlen, hC⟩, hS, hok⟩ := (op_edges W).trod h0 hsz (j := 0) rfl rfl
  obtain ⟨rfl, rfl, rfl⟩ : a0 = A ∧ len0 = es.length ∧ cap0 = c := by simpa [Value.cells] using hc
  obtain ⟨n, hn, hnk⟩ := (op_int W).trod h1 hsz (j := 1) rfl rfl
  obtain ⟨more, ⟨A1, c1, hc1, hlen1, hC1⟩, hS1⟩ := (op_ints W).trod h2 hsz (j := 2) rfl rfl
  obtain ⟨rfl, rfl, rfl⟩ : a1 = A1 ∧ len1 = more.length ∧ cap1 = c1 := by simpa [Value.cells] using hc1
  obtain rfl : n1 = n := by
    have hn' : [Value.int .i64 n1] = [Value.int .i64 n] := hn
    simpa using hn'
  clear hA0 hval0 hsz0 hsz hval
  refine (tell_law a0 a1 cap0 cap1 es more n1 W hC hlen hok hnk hC1 hlen1 hS hS1).mono fun e W' ⟨he, bel⟩ => ?_
  subst he
  exact ⟨_, rfl, _, _, _, [], _, [], hW', trodAll_mk1 (shut_bool Try.underlying4 _), (trodAll_cons_mk (Below.trod Try.laidOut (by kernel_rfl) (of_decide_eq_true (by kernel_rfl)) k0 bel lt0) (trodAll_cons_mk (Below.trod Try.laidOut (by kernel_rfl) (of_decide_eq_true (by kernel_rfl)) k1 bel lt1) (trodAll_cons_mk (Below.trod Try.laidOut (by kernel_rfl) (of_decide_eq_true (by kernel_rfl)) k2 bel lt2) trodAll_mk0))), rfl, bel.frame _, fun h => by cases h⟩
theorem over : Rows.waitsTellRow.holds Try.pinned (OpenSpec.ofChange Rows.waitsTellSpec) :=
  OpenClaim.holds_of_wide 4 Try.f4 rfl rfl rfl rfl rfl rfl rfl ⟨rfl, rfl, rfl, rfl, rfl⟩ rfl rfl rfl rfl rfl (by kernel_rfl) Try.func4 (by kernel_rfl)
    (of_decide_eq_true (by kernel_rfl)) (by unfold Func.isWrapper; first | (rw [if_pos (by decide +kernel)]; kernel_rfl) | (rw [if_neg (by decide +kernel)]; exact ⟨rfl, rfl⟩))
    (fun os started H enc _ => lifted os started H enc)
theorem proved : Rows.WaitsTellSaid := over
#print axioms proved
end Go.Proofs.Yteejeakbagbcoaa.waitsTell
namespace Go.Proofs.Yteejeakbagbcoaa
/-- The row, under a short name, for the claim. -/
theorem waitsTell_holds : Rows.WaitsTellSaid := waitsTell.proved
end Go.Proofs.Yteejeakbagbcoaa

import Derived.Test.YtdammjolkcjogaaMg
import Derived.Test.YtdammjolkcjogaaPModelNamesx9
/-! model: Same, of nobody's instance. -/
namespace Go.Proofs.Ytdammjolkcjogaa
open Go.RowKit Go.Maps Go.MapKept Go.WideMaps Go.Shelf
open Go.Proofs.YtdammjolkcjogaaW.PrintWords Go.Proofs.YtdammjolkcjogaaW.PrintLast Go.Proofs.YtdammjolkcjogaaW.PrintMore
open PModelNames
set_option linter.unusedVariables false
set_option linter.unusedSimpArgs false

theorem C_none {α : Type} (d : Kd α) (w : World) (A : Option Addr) : Kd.C d w A 0 [] := ⟨rfl, by decide, fun h => absurd h (by simp)⟩
set_option maxRecDepth 100000 in
/-- Nobody's, and one without rows. -/
theorem same_nobody (bv : Value) (w : World) (hb : ∀ W, Below w.heap.size w W → Calls Try.prog 10 #[bv] W fun e w' => ∃ A c, e = .returned (.slice A 0 c) ∧ Below W.heap.size W w') :
    Calls Try.prog 15 #[.pointer none, bv] w fun e w' => e = .returned (.bool true) ∧ Below w.heap.size w w' := by
  have h1 := Aside0.mk (fun (W : World) => tables_nil W)
  replace hb := Aside0.mk hb
  go_enter Try.func15, Try.ntmps15
  go_wp2_with fail
  refine (h1.out _).mono ?_
  rintro e w1 ⟨rfl, b1⟩
  replace b1 := Aside0.mk b1
  go_wp2_with fail
  refine (hb.out _ b1.out).mono ?_
  rintro e w2 ⟨A, c, rfl, b2⟩
  replace b2 := Aside0.mk (b1.out.trans (b2.mono b1.out.size))
  go_wp2_with fail
  refine (slices_Equal_int_int.calls 1 none 0 [] A c [] true w2 (C_none _ _ _) (Nat.zero_le _) (C_none _ _ _) (Nat.zero_le _) rfl).mono ?_
  rintro e w3 ⟨rfl, d3⟩
  have b3 := Aside0.mk (b2.out.trans (d3.below.mono b2.out.size))
  clear d3
  go_wp2_with fail
  refine (h1.out _).mono ?_
  rintro e w4 ⟨rfl, b4⟩
  replace b4 := Aside0.mk (b3.out.trans (b4.mono b3.out.size))
  go_wp2
  go_loopw [16] (fun v16 wr => v16 = .int .i64 0 ∧ wr = w4) (fun v16 _ => 0)
  case atStart => exact ⟨rfl, rfl⟩
  case round =>
    obtain ⟨rfl, rfl⟩ := hrel
    go_wp2
    go_ret
    exact ⟨rfl, b4.out⟩
set_option maxRecDepth 100000 in
/-- One with rows, and nobody's. -/
theorem same_not (av : Value) (w : World) (ha : ∀ W, Below w.heap.size w W → Calls Try.prog 10 #[av] W fun e w' => ∃ v x T, e = .returned v ∧ Kd.R kInt 3 w' W.heap.size (fun _ => True) v (x :: T) ∧ Below W.heap.size W w') :
    Calls Try.prog 15 #[av, .pointer none] w fun e w' => e = .returned (.bool false) ∧ Below w.heap.size w w' := by
  have h0 := ha w (Below.refl _ _)
  have h1 := Aside0.mk (fun (W : World) => tables_nil W)
  clear ha
  go_enter Try.func15, Try.ntmps15
  go_wp2_with fail
  refine h0.mono ?_
  clear h0
  rintro e w1 ⟨v, x, T, rfl, hv, b1⟩
  obtain ⟨A, c, ev⟩ := Kd.R_slice hv
  subst ev
  have hrd := Aside0.mk (Kd.R_reads' hv)
  replace b1 := Aside0.mk b1
  clear hv
  go_wp2_with fail
  refine (h1.out _).mono ?_
  rintro e w2 ⟨rfl, b2⟩
  have hC := Kd.C_below hrd.out.2.2 b2
  replace b2 := Aside0.mk (b1.out.trans (b2.mono b1.out.size))
  go_wp2_with fail
  refine (slices_Equal_int_int.calls 1 A c (x :: T) none 0 [] false w2 hC hrd.out.2.1 (C_none _ _ _) (Nat.zero_le _) (by unfold slices_Equal_int_int.f; rw [if_neg (by simp; omega)])).mono ?_
  rintro e w3 ⟨rfl, d3⟩
  have b3 := Aside0.mk (b2.out.trans (d3.below.mono b2.out.size))
  clear d3 hC
  go_wp2
  go_ret
  exact ⟨rfl, b3.out⟩
end Go.Proofs.Ytdammjolkcjogaa

import Derived.Test.YtdammjolkcjogaaMr
/-! model: a value in memory; key.May at one column; small numbers. -/
namespace Go.Proofs.Ytdammjolkcjogaa
open Go.RowKit Go.Maps Go.MapKept Go.WideMaps
open Go.Proofs.YtdammjolkcjogaaW.PrintWords Go.Proofs.YtdammjolkcjogaaW.PrintLast Go.Proofs.YtdammjolkcjogaaW.PrintMore
open PModelNames
set_option linter.unusedVariables false
set_option linter.unusedSimpArgs false

def VCells (w : World) (g : Nat) (x : AVal) : Prop := w.cell? ⟨g, 0, none⟩ = some (.int .u8 x.f0) ∧ w.cell? ⟨g, 1, none⟩ = some (.int .i64 x.f1) ∧ w.cell? ⟨g, 2, none⟩ = some (.int .i64 x.f2) ∧ w.cell? ⟨g, 3, none⟩ = some (.string x.f3)
theorem VCells.mv {w w' : World} {g : Nat} {x : AVal} (h : VCells w g x) (hb : Below w.heap.size w w') : VCells w' g x := by
  have mv : ∀ (p : Addr) (v : Value), w.cell? p = some v → w'.cell? p = some v := fun p v hp => (hb.cell (p := p) (World.block_lt_of_cell? w _ hp)).trans hp
  exact ⟨mv _ _ h.1, mv _ _ h.2.1, mv _ _ h.2.2.1, mv _ _ h.2.2.2⟩
theorem VCells.C {w : World} {g : Nat} {x : AVal} (h : VCells w g x) : Kd.C kVal w (some ⟨g, 0, none⟩) 1 [x] := by
  refine ⟨rfl, by decide, fun _ => ⟨_, rfl, fun i y hi => ?_⟩⟩
  cases i with
  | succ i => simp at hi
  | zero =>
    obtain rfl : x = y := by simpa using hi
    refine ⟨[.int .u8 x.f0, .int .i64 x.f1, .int .i64 x.f2, .string x.f3], rfl, k53_mk w x, fun j v hj => ?_⟩
    match j with
    | 0 => cases hj; exact h.1
    | 1 => cases hj; exact h.2.1
    | 2 => cases hj; exact h.2.2.1
    | 3 => cases hj; exact h.2.2.2
    | n + 4 => cases hj
set_option maxRecDepth 100000 in
theorem contains_none (a : Option Addr) (c : Nat) (x : Int) (w : World) : Calls Try.prog 78 #[.slice a 0 c, .int .i64 x] w fun e w' => e = .returned (.bool false) ∧ Below w.heap.size w w' :=
  (slices_Contains_int_int.calls 1 a c [] x false w ⟨rfl, by decide, fun h => absurd h (by simp)⟩ (Nat.zero_le _) rfl).mono (fun e w' h => ⟨h.1, h.2.below⟩)
set_option maxRecDepth 100000 in
set_option maxHeartbeats 1000000 in
theorem may_one (gc cc : Nat) (n : Int) (w : World) (hn : 1 ≤ n) (hcc : (1 : Int) ≤ (cc : Int)) (c0 : w.cell? ⟨gc, 0, none⟩ = some (.int .i64 0)) :
    Calls Try.prog 60 #[.slice (some ⟨gc, 0, none⟩) 1 cc, .int .i64 n] w fun e w' => e = .returned (.bool true) ∧ Below w.heap.size w w' := by
  have d1 : decide (n < 1) = false := decide_eq_false (by omega)
  have d2 : decide (n ≤ 0) = false := decide_eq_false (by omega)
  have d3 : decide (1 > n) = false := decide_eq_false (by omega)
  have hct := contains_none (some ⟨gc, 0, none⟩) cc 0 w
  go_enter Try.func60, Try.ntmps60
  go_wp2
  go_loopw [18] (fun v18 wr => (v18 = .int .i64 0 ∧ wr = w) ∨ (v18 = .int .i64 1 ∧ Aside0 (Below w.heap.size w wr))) (fun v18 _ => 2 - (intOf v18).toNat)
  case atStart => exact .inl ⟨rfl, rfl⟩
  case round =>
    rcases hrel with ⟨rfl, rfl⟩ | ⟨rfl, hB⟩
    · go_wp2_with (go_at_call 78; refine hct.mono ?_; rintro e w1 ⟨rfl, hB⟩; replace hB := Aside0.mk hB)
      go_roundw
      case measure => simp [intOf]
      case rel => exact .inr ⟨by go_num, hB⟩
    · go_wp2
      go_ret
      exact ⟨rfl, hB.out⟩
theorem Try.makeOne (W : World) : (Instr.makeSlice 25 (.int .i64 1) (.int .i64 1)).run Try.prog W = .ok (.slice (some ⟨W.heap.size, 0, none⟩) 1 1) (W.alloc (.cells #[.int .u8 0, .int .i64 0, .int .i64 0, .string ⟨#[]⟩] 53)) := by kernel_rfl
theorem R_vcells {w : World} {e base : Nat} {ok : Nat → Prop} {v : Value} {a : AVal} {l : List AVal} (h : Kd.R kVal e w base ok v (a :: l)) : ∃ g c, v = .slice (some ⟨g, 0, none⟩) (l.length + 1) c ∧ VCells w g a := by
  obtain ⟨g, cap, cur, cs, hv, _, _, hg, h1, h2, _, hM, _, hc⟩ := R_elem h (i := 0) (by simp)
  have e1 := k53_openM hM
  refine ⟨g, cap, by simpa using hv, ?_, ?_, ?_, ?_⟩
  · exact (blk_cell hg 0).trans (by simpa [e1] using hc 0 _ (by rw [e1]; rfl))
  · exact (blk_cell hg 1).trans (by simpa [e1] using hc 1 _ (by rw [e1]; rfl))
  · exact (blk_cell hg 2).trans (by simpa [e1] using hc 2 _ (by rw [e1]; rfl))
  · exact (blk_cell hg 3).trans (by simpa [e1] using hc 3 _ (by rw [e1]; rfl))
theorem okI_small {a : Int} (h0 : -9223372036854775808 ≤ a) (h1 : a ≤ 9223372036854775807) : okI a := by
  unfold okI
  exact WalkArith.wf_i64 ⟨h0, h1⟩
end Go.Proofs.Ytdammjolkcjogaa

import Derived.Test.YtdammjolkcjogaaClf
import Derived.BigRegion
/-! chain's written.note: the first row; the same row again. -/
namespace Go.Proofs.Ytdammjolkcjogaa
open Go.RowKit Go.Maps Go.MapKept Go.WideMaps
open Go.Proofs.YtdammjolkcjogaaW.PrintWords Go.Proofs.YtdammjolkcjogaaW.PrintLast Go.Proofs.YtdammjolkcjogaaW.PrintMore
open PModelNames
set_option linter.unusedVariables false
set_option linter.unusedSimpArgs false
set_option maxRecDepth 100000 in
theorem nan1 (w : World) : Calls Try.prog 79 #[.int .i64 1] w fun e w' => e = .returned (.bool false) ∧ w' = w := by
  go_enter Try.func79, Try.ntmps79
  go_wp2
  go_ret
  exact ⟨rfl, rfl⟩
set_option maxRecDepth 100000 in
theorem cmp11 (w : World) : Calls Try.prog 64 #[.int .i64 1, .int .i64 1] w fun e w' => e = .returned (.int .i64 0) ∧ w' = w := by
  have hn := Aside0.mk nan1
  go_enter Try.func64, Try.ntmps64
  go_wp2_with (go_at_call 79; refine (hn.out _).mono ?_; rintro e w' ⟨rfl, rfl⟩)
  go_ret
  exact ⟨rfl, rfl⟩
set_option maxRecDepth 100000 in
theorem or00 (g : Nat) (w : World) (h0 : w.cell? ⟨g, 0, none⟩ = some (.int .i64 0)) (h1 : w.cell? ⟨g, 1, none⟩ = some (.int .i64 0)) : Calls Try.prog 63 #[.slice (some ⟨g, 0, none⟩) 2 2] w fun e w' => e = .returned (.int .i64 0) ∧ w' = w := by
  go_enter Try.func63, Try.ntmps63
  go_wp2
  go_loopw [5, 8] (fun v5 v8 wr => (v8 = .int .i64 0 ∨ v8 = .int .i64 1 ∨ v8 = .int .i64 2) ∧ wr = w) (fun _ v8 _ => 3 - (intOf v8).toNat)
  case atStart => exact ⟨.inl rfl, rfl⟩
  case round =>
    obtain ⟨hv, rfl⟩ := hrel
    rcases hv with rfl | rfl | rfl
    · go_wp2
      go_roundw
      case measure => simp [intOf]
      case rel => simp
    · go_wp2
      go_roundw
      case measure => simp [intOf]
      case rel => simp
    · go_wp2
      go_ret
      exact ⟨rfl, rfl⟩
set_option maxRecDepth 100000 in
set_option maxHeartbeats 2000000 in
theorem note1_eq (u1 u2 u3 u4 : Option Addr) (n1 c1 n2 c2 n3 c3 n4 c4 : Nat) (w : World) : Calls Try.prog 62 #[.agg #[.int .i64 1, .int .i64 1, .slice u1 n1 c1, .slice u2 n2 c2], .agg #[.int .i64 1, .int .i64 1, .slice u3 n3 c3, .slice u4 n4 c4]] w fun e w' => e = .returned (.int .i64 0) ∧ Below w.heap.size w w' := by
  have hc := Aside0.mk cmp11
  have ho := Aside0.mk or00
  go_enter Try.func62, Try.ntmps62
  go_upto_region 1 with (fail)
  go_region_held3 (fun W => W.cell? ⟨w.heap.size, 0, none⟩ = some (.int .i64 1) ∧ W.cell? ⟨w.heap.size, 1, none⟩ = some (.int .i64 1) ∧ W.cell? ⟨w.heap.size + 1, 0, none⟩ = some (.int .i64 1) ∧ W.cell? ⟨w.heap.size + 1, 1, none⟩ = some (.int .i64 1)) (go_keep) ((first
    | (go_at_call 64; refine (hc.out _).mono ?_; rintro e w' ⟨rfl, rfl⟩)
    | (go_at_call 63; refine (ho.out _ _ (by go_simp) (by go_simp)).mono ?_; rintro e w' ⟨rfl, rfl⟩)))
  all_goals
    go_wp2
    go_ret
    refine ⟨rfl, ?_⟩
    repeat' (first | exact Below.refl _ _ | refine Below.drew ?_ | refine Below.alloc ?_ (by simp <;> omega) _ | refine pw_below_drewN ?_ _)
set_option maxRecDepth 100000 in
set_option maxHeartbeats 2000000 in
theorem search0 (t0 f : Value) (h : t0 = .agg #[.int .i64 1, .int .i64 1, .slice none 0 0, .slice none 0 0] ∨ ∃ u1 n1 c1 u2 n2 c2, t0 = .agg #[.int .i64 1, .int .i64 1, .slice u1 n1 c1, .slice u2 n2 c2]) (w : World) : Calls Try.prog 61 #[.slice none 0 0, t0, f] w fun e w' => e = .returned (.tuple #[.int .i64 0, .bool false]) ∧ Below w.heap.size w w' := by
  obtain ⟨u1, n1, c1, u2, n2, c2, rfl⟩ : ∃ u1 n1 c1 u2 n2 c2, t0 = .agg #[.int .i64 1, .int .i64 1, .slice u1 n1 c1, .slice u2 n2 c2] := by
    rcases h with rfl | h
    · exact ⟨_, _, _, _, _, _, rfl⟩
    · exact h
  clear h
  go_enter Try.func61, Try.ntmps61
  go_wp2
  go_loopw [9, 10] (fun v9 v10 wr => v9 = .int .i64 0 ∧ v10 = .int .i64 0 ∧ Below w.heap.size w wr) (fun _ _ _ => 0)
  case atStart => exact ⟨rfl, rfl, (Below.refl _ w).alloc (Nat.le_refl _) _⟩
  case round =>
    obtain ⟨rfl, rfl, hB⟩ := hrel
    have hB := Aside0.mk hB
    go_wp2
    go_region
    all_goals
      go_wp2
      go_ret2
      exact ⟨rfl, by first | exact hB.out | exact hB.out.drew⟩
set_option maxRecDepth 100000 in
set_option maxHeartbeats 4000000 in
theorem search1 (ob oc : Nat) (a1 a2 u1 u2 : Option Addr) (k1 d1 k2 d2 n1 c1 n2 c2 : Nat) (w : World) (hoc : 1 ≤ oc) (b0 : w.cell? ⟨ob, 0, none⟩ = some (.int .i64 1)) (b1 : w.cell? ⟨ob, 1, none⟩ = some (.int .i64 1)) (b2 : w.cell? ⟨ob, 2, none⟩ = some (.slice a1 k1 d1)) (b3 : w.cell? ⟨ob, 3, none⟩ = some (.slice a2 k2 d2)) :
    Calls Try.prog 61 #[.slice (some ⟨ob, 0, none⟩) 1 oc, .agg #[.int .i64 1, .int .i64 1, .slice u1 n1 c1, .slice u2 n2 c2], .func (.func 62) #[] #[]] w fun e w' => e = .returned (.tuple #[.int .i64 0, .bool true]) ∧ Below w.heap.size w w' := by
  have hn := Aside0.mk note1_eq
  have bl : ob < w.heap.size := World.block_lt_of_cell? w _ b0
  obtain ⟨w2, hw2⟩ : ∃ W, w.alloc (.cells #[.int .i64 1, .int .i64 1, .slice u1 n1 c1, .slice u2 n2 c2] 101) = W := ⟨_, rfl⟩
  have B2 : Below w.heap.size w w2 := by rw [← hw2]; exact (Below.refl _ w).alloc (Nat.le_refl _) _
  have z2 : w2.heap[w.heap.size]? = some (.cells #[.int .i64 1, .int .i64 1, .slice u1 n1 c1, .slice u2 n2 c2] 101 (0, 0)) := by rw [← hw2]; exact heap_alloc_new w _
  have mv : ∀ {p : Addr} {u : Value}, w.cell? p = some u → w2.cell? p = some u := fun h => (B2.cell (World.block_lt_of_cell? w _ h)).trans h
  have HF : Aside0 (∀ W, Below w2.heap.size w2 W → W.cell? ⟨ob, 0, none⟩ = some (.int .i64 1) ∧ W.cell? ⟨ob, 1, none⟩ = some (.int .i64 1) ∧ W.cell? ⟨ob, 2, none⟩ = some (.slice a1 k1 d1) ∧ W.cell? ⟨ob, 3, none⟩ = some (.slice a2 k2 d2) ∧ W.cell? ⟨w.heap.size, 0, none⟩ = some (.int .i64 1) ∧ W.cell? ⟨w.heap.size, 1, none⟩ = some (.int .i64 1) ∧ W.cell? ⟨w.heap.size, 2, none⟩ = some (.slice u1 n1 c1) ∧ W.cell? ⟨w.heap.size, 3, none⟩ = some (.slice u2 n2 c2)) := ⟨fun W hb => by
    have go : ∀ {p : Addr} {u : Value}, w2.cell? p = some u → W.cell? p = some u := fun h => (hb.cell (World.block_lt_of_cell? w2 _ h)).trans h
    exact ⟨go (mv b0), go (mv b1), go (mv b2), go (mv b3), go (blk_cell z2 0), go (blk_cell z2 1), go (blk_cell z2 2), go (blk_cell z2 3)⟩⟩
  have B2' := Aside0.mk B2
  clear b0 b1 b2 b3 mv z2 B2
  go_enter Try.func61, Try.ntmps61
  go_wp2
  clear hw2
  go_loopw [9, 10, 11] (fun v9 v10 v11 wr => v9 = .int .i64 0 ∧ ((v10 = .int .i64 1 ∧ wr = w2) ∨ (v10 = .int .i64 0 ∧ Aside0 (Below w2.heap.size w2 wr)))) (fun _ v10 _ _ => (intOf v10).toNat)
  case atStart => exact ⟨rfl, .inl ⟨rfl, rfl⟩⟩
  case round =>
    obtain ⟨rfl, ⟨rfl, rfl⟩ | ⟨rfl, hB⟩⟩ := hrel
    · obtain ⟨f0, f1, f2, f3, f4, f5, f6, f7⟩ := HF.out _ (Below.refl _ _)
      go_upto_region 5 with (fail)
      go_region_held3 (fun W => W.cell? ⟨ob, 0, none⟩ = some (.int .i64 1) ∧ W.cell? ⟨ob, 1, none⟩ = some (.int .i64 1) ∧ W.cell? ⟨ob, 2, none⟩ = some (.slice a1 k1 d1) ∧ W.cell? ⟨ob, 3, none⟩ = some (.slice a2 k2 d2) ∧ W.cell? ⟨w.heap.size, 0, none⟩ = some (.int .i64 1) ∧ W.cell? ⟨w.heap.size, 1, none⟩ = some (.int .i64 1) ∧ W.cell? ⟨w.heap.size, 2, none⟩ = some (.slice u1 n1 c1) ∧ W.cell? ⟨w.heap.size, 3, none⟩ = some (.slice u2 n2 c2)) (go_keep) ((go_at_call 62; refine (hn.out _ _ _ _ _ _ _ _ _ _ _ _ _).mono ?_; rintro e w' ⟨rfl, hB⟩; have hBn := Aside0.mk (((Below.refl _ _).drew).trans hB); obtain ⟨q0, q1, q2, q3, q4, q5, q6, q7⟩ := HF.out _ hBn.out; clear hB))
      all_goals
        clear f0 f1 f2 f3 f4 f5 f6 f7
        go_wp2
        go_roundw
        case measure => simp [intOf]
        case rel => exact ⟨rfl, .inr ⟨rfl, by first | exact hBn | exact ⟨hBn.out.drew⟩⟩⟩
    · obtain ⟨f0, f1, f2, f3, f4, f5, f6, f7⟩ := HF.out _ hB.out
      have hs := hB.out.size
      go_upto_region 8 with (fail)
      go_region_held3 (fun W => W.cell? ⟨ob, 0, none⟩ = some (.int .i64 1) ∧ W.cell? ⟨ob, 1, none⟩ = some (.int .i64 1) ∧ W.cell? ⟨ob, 2, none⟩ = some (.slice a1 k1 d1) ∧ W.cell? ⟨ob, 3, none⟩ = some (.slice a2 k2 d2) ∧ W.cell? ⟨w.heap.size, 0, none⟩ = some (.int .i64 1) ∧ W.cell? ⟨w.heap.size, 1, none⟩ = some (.int .i64 1) ∧ W.cell? ⟨w.heap.size, 2, none⟩ = some (.slice u1 n1 c1) ∧ W.cell? ⟨w.heap.size, 3, none⟩ = some (.slice u2 n2 c2)) (go_keep) ((go_at_call 62; refine (hn.out _ _ _ _ _ _ _ _ _ _ _ _ _).mono ?_; rintro e w' ⟨rfl, hBc⟩; have hBn := Aside0.mk ((hB.out.drew).trans (hBc.mono hs)); obtain ⟨q0, q1, q2, q3, q4, q5, q6, q7⟩ := HF.out _ hBn.out; clear hBc))
      all_goals
        go_wp2
        go_ret2
        exact ⟨rfl, by first | exact B2'.out.trans (hBn.out.mono B2'.out.size) | exact (B2'.out.trans (hBn.out.mono B2'.out.size)).drew⟩
end Go.Proofs.Ytdammjolkcjogaa

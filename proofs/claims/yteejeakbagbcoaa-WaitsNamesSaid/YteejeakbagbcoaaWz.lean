import Derived.Test.YteejeakbagbcoaaWw
/-! WaitsNames, walked: made by gennames.py. -/
namespace Go.Proofs.Yteejeakbagbcoaa
open Go.RowKit Go.Maps Go.MapKept Go.WideMaps
open Go.Proofs.YteejeakbagbcoaaW.PrintWords Go.Proofs.YteejeakbagbcoaaW.PrintLast Go.Proofs.YteejeakbagbcoaaW.PrintMore
set_option linter.unusedVariables false
set_option linter.unusedSimpArgs false

theorem edg_nil (w : World) : Edg w none 0 [] := ⟨⟨rfl, Nat.zero_le _, fun h => absurd h (Nat.lt_irrefl _)⟩, Nat.le_refl _, by simp, by simp⟩
def ex8 : Edges := [(1, 2), (2, 1), (2, 3), (3, 2), (4, 1), (3, 5), (6, 7), (7, 6)]
def ex4 : Edges := [(1, 2), (1, 2), (0, 0), (-1, 2)]

set_option maxRecDepth 100000 in
set_option maxHeartbeats 4000000 in
theorem names_law (w : World) : Calls Try.prog 3 #[] w fun e w' => e = .returned (.bool true) ∧ Below w.heap.size w w' := by
  have hblk := blk_new w (.cells #[.int .i64 1, .int .i64 2, .int .i64 2, .int .i64 1, .int .i64 2, .int .i64 3, .int .i64 3, .int .i64 2, .int .i64 4, .int .i64 1, .int .i64 3, .int .i64 5, .int .i64 6, .int .i64 7, .int .i64 7, .int .i64 6] 22)
  have hB1 : Below w.heap.size w (w.alloc (.cells #[.int .i64 1, .int .i64 2, .int .i64 2, .int .i64 1, .int .i64 2, .int .i64 3, .int .i64 3, .int .i64 2, .int .i64 4, .int .i64 1, .int .i64 3, .int .i64 5, .int .i64 6, .int .i64 7, .int .i64 7, .int .i64 6] 22)) := (Below.refl _ w).alloc (Nat.le_refl _) _
  obtain ⟨w0, hw0⟩ : ∃ w0, w.alloc (.cells #[.int .i64 1, .int .i64 2, .int .i64 2, .int .i64 1, .int .i64 2, .int .i64 3, .int .i64 3, .int .i64 2, .int .i64 4, .int .i64 1, .int .i64 3, .int .i64 5, .int .i64 6, .int .i64 7, .int .i64 7, .int .i64 6] 22) = w0 := ⟨_, rfl⟩
  rw [hw0] at hblk hB1
  have hE : Edg w0 (some ⟨w.heap.size, 0, none⟩) 8 ex8 := ⟨C_edges hblk rfl (by decide), by decide, ok_edges (by decide +kernel), by decide⟩
  obtain ⟨bn, hbn⟩ : ∃ bn, w.heap.size = bn := ⟨_, rfl⟩
  rw [hbn] at hE
  have HB0 := Aside0.mk hB1
  clear hblk hB1
  replace hE := Aside0.mk hE
  have n := works_calls w0
  go_enter Try.func3, Try.ntmps3
  go_wp2_with fail
  refine n.mono ?_
  clear n
  rintro e w1 ⟨rfl, hB⟩
  have HB1 := Aside0.mk hB
  clear hB
  have n := circle_calls none 0 [] 1 w1 (edg_nil w1) (by unfold okI; decide +kernel)
  change Calls Try.prog 12 #[.slice none 0 0, .int .i64 1] _ _ at n
  go_wp2_with fail
  refine n.mono ?_
  clear n
  rintro e w2a ⟨v2, l2, rfl, hC, hR, hB⟩
  obtain rfl := circle_want hC (want := []) (by decide) (by decide +kernel) (by decide +kernel)
  obtain ⟨a2, c2, rfl, _, hr⟩ := Kd.R_reads hR
  have HA2 := Aside0.mk (HB1.out.trans (hB.mono HB1.out.size))
  have n := is_same a2 none c2 0 [] w2a hr (C_none _) (by decide)
  change Calls Try.prog 11 #[.slice a2 0 c2, .slice none 0 0] _ _ at n
  clear hC hR hB hr
  go_wp2_with fail
  refine n.mono ?_
  clear n
  rintro e w2 ⟨rfl, hB⟩
  have HB2 := Aside0.mk (HA2.out.trans (hB.mono HA2.out.size))
  clear hB
  have n := any_calls none 0 [] w2 (edg_nil w2)
  change Calls Try.prog 13 #[.slice none 0 0] _ _ at n
  go_wp2_with fail
  refine n.mono ?_
  clear n
  rintro e w3a ⟨v3, l3, rfl, hC, hR, hB⟩
  obtain rfl := any_want hC (want := []) (by decide) (by decide +kernel) (by decide +kernel)
  obtain ⟨a3, c3, rfl, _, hr⟩ := Kd.R_reads hR
  have HA3 := Aside0.mk (HB2.out.trans (hB.mono HB2.out.size))
  have n := is_same a3 none c3 0 [] w3a hr (C_none _) (by decide)
  change Calls Try.prog 11 #[.slice a3 0 c3, .slice none 0 0] _ _ at n
  clear hC hR hB hr
  go_wp2_with fail
  refine n.mono ?_
  clear n
  rintro e w3 ⟨rfl, hB⟩
  have HB3 := Aside0.mk (HA3.out.trans (hB.mono HA3.out.size))
  clear hB
  have n := reach_calls none 0 [] 0 w3 (edg_nil w3) (by unfold okI; decide +kernel)
  change Calls Try.prog 14 #[.slice none 0 0, .int .i64 0] _ _ at n
  go_wp2_with fail
  refine n.mono ?_
  clear n
  rintro e w4a ⟨v4, l4, rfl, hC, hR, hB⟩
  obtain rfl := reach_want hC (want := []) (by decide) (by decide +kernel) (by decide +kernel)
  obtain ⟨a4, c4, rfl, _, hr⟩ := Kd.R_reads hR
  have HA4 := Aside0.mk (HB3.out.trans (hB.mono HB3.out.size))
  have n := is_same a4 none c4 0 [] w4a hr (C_none _) (by decide)
  change Calls Try.prog 11 #[.slice a4 0 c4, .slice none 0 0] _ _ at n
  clear hC hR hB hr
  go_wp2_with fail
  refine n.mono ?_
  clear n
  rintro e w4 ⟨rfl, hB⟩
  have HB4 := Aside0.mk (HA4.out.trans (hB.mono HA4.out.size))
  clear hB
  have n := victim_nil 0 w4
  go_wp2_with fail
  refine n.mono ?_
  clear n
  rintro e w5 ⟨rfl, rfl⟩
  have HB5 := HB4
  have hBv : Below w5.heap.size w5 (w5.alloc (.cells #[.int .i64 (-3), .int .i64 (-7)] 3)) := (Below.refl _ w5).alloc (Nat.le_refl _) _
  have n := victim_calls w5.heap.size 0 2 [-3, -7] (w5.alloc (.cells #[.int .i64 (-3), .int .i64 (-7)] 3)) (by decide) (by decide) (fun j hj => by
    have hb := blk_new w5 (.cells #[.int .i64 (-3), .int .i64 (-7)] 3)
    have hj2 : j = 0 ∨ j = 1 := by simp at hj; omega
    rcases hj2 with rfl | rfl
    · exact blk_cell hb 0
    · exact blk_cell hb 1)
  rw [show Lib.maxOf [-3, -7] = -3 from by decide] at n
  change Calls Try.prog 15 #[.slice (some ⟨w5.heap.size, 0, none⟩) 2 2] _ _ at n
  have HV6 := Aside0.mk (HB5.out.trans (hBv.mono HB5.out.size))
  clear hBv
  go_wp2_with fail
  refine n.mono ?_
  clear n
  rintro e w6 ⟨rfl, hw6⟩
  have HB6 : Aside0 (Below w0.heap.size w0 w6) := by rw [hw6]; exact HV6
  clear hw6 HV6
  have n := circle_calls (some ⟨bn, 0, none⟩) 8 ex8 1 w6 (hE.out.below HB6.out) (by unfold okI; decide +kernel)
  change Calls Try.prog 12 #[.slice (some ⟨bn, 0, none⟩) 8 8, .int .i64 1] _ _ at n
  go_wp2_with fail
  refine n.mono ?_
  clear n
  rintro e w7a ⟨v7, l7, rfl, hC, hR, hB⟩
  obtain rfl := circle_want hC (want := [1, 2, 3]) (by decide) (by decide +kernel) (by decide +kernel)
  obtain ⟨a7, c7, rfl, _, hr⟩ := Kd.R_reads hR
  have HA7 := Aside0.mk (HB6.out.trans (hB.mono HB6.out.size))
  have hBl : Below w7a.heap.size w7a (w7a.alloc (.cells #[.int .i64 1, .int .i64 2, .int .i64 3] 3)) := (Below.refl _ w7a).alloc (Nat.le_refl _) _
  have n := is_same a7 (some ⟨w7a.heap.size, 0, none⟩) c7 3 [1, 2, 3] _ (Kd.C_below hr hBl) (C_ints (xs := [1, 2, 3]) (blk_new w7a _) rfl (by decide)) (by decide)
  change Calls Try.prog 11 #[.slice a7 3 c7, .slice (some ⟨w7a.heap.size, 0, none⟩) 3 3] _ _ at n
  replace HA7 := Aside0.mk (HA7.out.trans (hBl.mono HA7.out.size))
  clear hC hR hB hr hBl
  go_wp2_with fail
  refine n.mono ?_
  clear n
  rintro e w7 ⟨rfl, hB⟩
  have HB7 := Aside0.mk (HA7.out.trans (hB.mono HA7.out.size))
  clear hB
  have n := circle_calls (some ⟨bn, 0, none⟩) 8 ex8 3 w7 (hE.out.below HB7.out) (by unfold okI; decide +kernel)
  change Calls Try.prog 12 #[.slice (some ⟨bn, 0, none⟩) 8 8, .int .i64 3] _ _ at n
  go_wp2_with fail
  refine n.mono ?_
  clear n
  rintro e w8a ⟨v8, l8, rfl, hC, hR, hB⟩
  obtain rfl := circle_want hC (want := [1, 2, 3]) (by decide) (by decide +kernel) (by decide +kernel)
  obtain ⟨a8, c8, rfl, _, hr⟩ := Kd.R_reads hR
  have HA8 := Aside0.mk (HB7.out.trans (hB.mono HB7.out.size))
  have hBl : Below w8a.heap.size w8a (w8a.alloc (.cells #[.int .i64 1, .int .i64 2, .int .i64 3] 3)) := (Below.refl _ w8a).alloc (Nat.le_refl _) _
  have n := is_same a8 (some ⟨w8a.heap.size, 0, none⟩) c8 3 [1, 2, 3] _ (Kd.C_below hr hBl) (C_ints (xs := [1, 2, 3]) (blk_new w8a _) rfl (by decide)) (by decide)
  change Calls Try.prog 11 #[.slice a8 3 c8, .slice (some ⟨w8a.heap.size, 0, none⟩) 3 3] _ _ at n
  replace HA8 := Aside0.mk (HA8.out.trans (hBl.mono HA8.out.size))
  clear hC hR hB hr hBl
  go_wp2_with fail
  refine n.mono ?_
  clear n
  rintro e w8 ⟨rfl, hB⟩
  have HB8 := Aside0.mk (HA8.out.trans (hB.mono HA8.out.size))
  clear hB
  have n := circle_calls (some ⟨bn, 0, none⟩) 8 ex8 4 w8 (hE.out.below HB8.out) (by unfold okI; decide +kernel)
  change Calls Try.prog 12 #[.slice (some ⟨bn, 0, none⟩) 8 8, .int .i64 4] _ _ at n
  go_wp2_with fail
  refine n.mono ?_
  clear n
  rintro e w9a ⟨v9, l9, rfl, hC, hR, hB⟩
  obtain rfl := circle_want hC (want := []) (by decide) (by decide +kernel) (by decide +kernel)
  obtain ⟨a9, c9, rfl, _, hr⟩ := Kd.R_reads hR
  have HA9 := Aside0.mk (HB8.out.trans (hB.mono HB8.out.size))
  have n := is_same a9 none c9 0 [] w9a hr (C_none _) (by decide)
  change Calls Try.prog 11 #[.slice a9 0 c9, .slice none 0 0] _ _ at n
  clear hC hR hB hr
  go_wp2_with fail
  refine n.mono ?_
  clear n
  rintro e w9 ⟨rfl, hB⟩
  have HB9 := Aside0.mk (HA9.out.trans (hB.mono HA9.out.size))
  clear hB
  have n := reach_calls (some ⟨bn, 0, none⟩) 8 ex8 4 w9 (hE.out.below HB9.out) (by unfold okI; decide +kernel)
  change Calls Try.prog 14 #[.slice (some ⟨bn, 0, none⟩) 8 8, .int .i64 4] _ _ at n
  go_wp2_with fail
  refine n.mono ?_
  clear n
  rintro e w10a ⟨v10, l10, rfl, hC, hR, hB⟩
  obtain rfl := reach_want hC (want := [1, 2, 3, 5]) (by decide) (by decide +kernel) (by decide +kernel)
  obtain ⟨a10, c10, rfl, _, hr⟩ := Kd.R_reads hR
  have HA10 := Aside0.mk (HB9.out.trans (hB.mono HB9.out.size))
  have hBl : Below w10a.heap.size w10a (w10a.alloc (.cells #[.int .i64 1, .int .i64 2, .int .i64 3, .int .i64 5] 3)) := (Below.refl _ w10a).alloc (Nat.le_refl _) _
  have n := is_same a10 (some ⟨w10a.heap.size, 0, none⟩) c10 4 [1, 2, 3, 5] _ (Kd.C_below hr hBl) (C_ints (xs := [1, 2, 3, 5]) (blk_new w10a _) rfl (by decide)) (by decide)
  change Calls Try.prog 11 #[.slice a10 4 c10, .slice (some ⟨w10a.heap.size, 0, none⟩) 4 4] _ _ at n
  replace HA10 := Aside0.mk (HA10.out.trans (hBl.mono HA10.out.size))
  clear hC hR hB hr hBl
  go_wp2_with fail
  refine n.mono ?_
  clear n
  rintro e w10 ⟨rfl, hB⟩
  have HB10 := Aside0.mk (HA10.out.trans (hB.mono HA10.out.size))
  clear hB
  have n := circle_calls (some ⟨bn, 0, none⟩) 8 ex8 7 w10 (hE.out.below HB10.out) (by unfold okI; decide +kernel)
  change Calls Try.prog 12 #[.slice (some ⟨bn, 0, none⟩) 8 8, .int .i64 7] _ _ at n
  go_wp2_with fail
  refine n.mono ?_
  clear n
  rintro e w11a ⟨v11, l11, rfl, hC, hR, hB⟩
  obtain rfl := circle_want hC (want := [6, 7]) (by decide) (by decide +kernel) (by decide +kernel)
  obtain ⟨a11, c11, rfl, _, hr⟩ := Kd.R_reads hR
  have HA11 := Aside0.mk (HB10.out.trans (hB.mono HB10.out.size))
  have hBl : Below w11a.heap.size w11a (w11a.alloc (.cells #[.int .i64 6, .int .i64 7] 3)) := (Below.refl _ w11a).alloc (Nat.le_refl _) _
  have n := is_same a11 (some ⟨w11a.heap.size, 0, none⟩) c11 2 [6, 7] _ (Kd.C_below hr hBl) (C_ints (xs := [6, 7]) (blk_new w11a _) rfl (by decide)) (by decide)
  change Calls Try.prog 11 #[.slice a11 2 c11, .slice (some ⟨w11a.heap.size, 0, none⟩) 2 2] _ _ at n
  replace HA11 := Aside0.mk (HA11.out.trans (hBl.mono HA11.out.size))
  clear hC hR hB hr hBl
  go_wp2_with fail
  refine n.mono ?_
  clear n
  rintro e w11 ⟨rfl, hB⟩
  have HB11 := Aside0.mk (HA11.out.trans (hB.mono HA11.out.size))
  clear hB
  have n := any_calls (some ⟨bn, 0, none⟩) 8 ex8 w11 (hE.out.below HB11.out)
  change Calls Try.prog 13 #[.slice (some ⟨bn, 0, none⟩) 8 8] _ _ at n
  go_wp2_with fail
  refine n.mono ?_
  clear n
  rintro e w12a ⟨v12, l12, rfl, hC, hR, hB⟩
  obtain rfl := any_want hC (want := [1, 2, 3, 6, 7]) (by decide) (by decide +kernel) (by decide +kernel)
  obtain ⟨a12, c12, rfl, _, hr⟩ := Kd.R_reads hR
  have HA12 := Aside0.mk (HB11.out.trans (hB.mono HB11.out.size))
  have hBl : Below w12a.heap.size w12a (w12a.alloc (.cells #[.int .i64 1, .int .i64 2, .int .i64 3, .int .i64 6, .int .i64 7] 3)) := (Below.refl _ w12a).alloc (Nat.le_refl _) _
  have n := is_same a12 (some ⟨w12a.heap.size, 0, none⟩) c12 5 [1, 2, 3, 6, 7] _ (Kd.C_below hr hBl) (C_ints (xs := [1, 2, 3, 6, 7]) (blk_new w12a _) rfl (by decide)) (by decide)
  change Calls Try.prog 11 #[.slice a12 5 c12, .slice (some ⟨w12a.heap.size, 0, none⟩) 5 5] _ _ at n
  replace HA12 := Aside0.mk (HA12.out.trans (hBl.mono HA12.out.size))
  clear hC hR hB hr hBl
  go_wp2_with fail
  refine n.mono ?_
  clear n
  rintro e w12 ⟨rfl, hB⟩
  have HB12 := Aside0.mk (HA12.out.trans (hB.mono HA12.out.size))
  clear hB
  have hblk1 := blk_new w12 (.cells #[.int .i64 1, .int .i64 2, .int .i64 1, .int .i64 2, .int .i64 0, .int .i64 0, .int .i64 (-1), .int .i64 2] 22)
  have hBx : Below w12.heap.size w12 (w12.alloc (.cells #[.int .i64 1, .int .i64 2, .int .i64 1, .int .i64 2, .int .i64 0, .int .i64 0, .int .i64 (-1), .int .i64 2] 22)) := (Below.refl _ w12).alloc (Nat.le_refl _) _
  have HBx := Aside0.mk (HB12.out.trans (hBx.mono HB12.out.size))
  have hE1 : Edg (w12.alloc (.cells #[.int .i64 1, .int .i64 2, .int .i64 1, .int .i64 2, .int .i64 0, .int .i64 0, .int .i64 (-1), .int .i64 2] 22)) (some ⟨w12.heap.size, 0, none⟩) 4 ex4 := ⟨C_edges hblk1 rfl (by decide), by decide, ok_edges (by decide +kernel), by decide⟩
  clear hblk1 hBx
  have n := any_calls (some ⟨w12.heap.size, 0, none⟩) 4 ex4 (w12.alloc (.cells #[.int .i64 1, .int .i64 2, .int .i64 1, .int .i64 2, .int .i64 0, .int .i64 0, .int .i64 (-1), .int .i64 2] 22)) hE1
  change Calls Try.prog 13 #[.slice (some ⟨w12.heap.size, 0, none⟩) 4 4] _ _ at n
  go_wp2_with fail
  refine n.mono ?_
  clear n
  rintro e w13a ⟨v13, l13, rfl, hC, hR, hB⟩
  obtain rfl := any_want hC (want := [0]) (by decide) (by decide +kernel) (by decide +kernel)
  obtain ⟨a13, c13, rfl, _, hr⟩ := Kd.R_reads hR
  have HA13 := Aside0.mk (HBx.out.trans (hB.mono HBx.out.size))
  have hBl : Below w13a.heap.size w13a (w13a.alloc (.cells #[.int .i64 0] 3)) := (Below.refl _ w13a).alloc (Nat.le_refl _) _
  have n := is_same a13 (some ⟨w13a.heap.size, 0, none⟩) c13 1 [0] _ (Kd.C_below hr hBl) (C_ints (xs := [0]) (blk_new w13a _) rfl (by decide)) (by decide)
  change Calls Try.prog 11 #[.slice a13 1 c13, .slice (some ⟨w13a.heap.size, 0, none⟩) 1 1] _ _ at n
  replace HA13 := Aside0.mk (HA13.out.trans (hBl.mono HA13.out.size))
  clear hC hR hB hr hBl hE1
  go_wp2_with fail
  refine n.mono ?_
  clear n
  rintro e w13 ⟨rfl, hB⟩
  have HB13 := Aside0.mk (HA13.out.trans (hB.mono HA13.out.size))
  clear hB
  go_wp2
  go_ret
  exact ⟨rfl, HB0.out.trans (HB13.out.mono HB0.out.size)⟩
end Go.Proofs.Yteejeakbagbcoaa

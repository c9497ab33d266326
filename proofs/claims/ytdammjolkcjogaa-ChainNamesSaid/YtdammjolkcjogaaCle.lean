import Derived.Test.YtdammjolkcjogaaCld
/-! chain.Apply at an instance of one row: a column is set; the row goes. -/
namespace Go.Proofs.Ytdammjolkcjogaa
open Go.RowKit Go.Maps Go.MapKept Go.WideMaps
open Go.Proofs.YtdammjolkcjogaaW.PrintWords Go.Proofs.YtdammjolkcjogaaW.PrintLast Go.Proofs.YtdammjolkcjogaaW.PrintMore
open PModelNames
set_option linter.unusedVariables false
set_option linter.unusedSimpArgs false
theorem row_diff_one (a b : AVal) (h : a.f0 ≠ b.f0 ∨ a.f1 ≠ b.f1) : row_Same.f 2 [a] [b] = some false := by
  unfold row_Same.f
  have h : api_Value_53.f 2 [a] [b] = some false := by
    unfold api_Value_53.f
    simp [api_Value_53.l0, rd_T53, wrap64]
    exact fun h0 h1 => by
      rcases h with h | h
      · exact absurd h0 h
      · exact absurd h1 h
  rw [h]
  rfl
theorem R_vc {w : World} {e base : Nat} {ok : Nat → Prop} {v : Value} {a : AVal} (h : Kd.R kVal e w base ok v [a]) : ∃ g c, v = .slice (some ⟨g, 0, none⟩) 1 c ∧ 1 ≤ c ∧ VCells w g a := by
  obtain ⟨g, c, e1, h1⟩ := R_vcells h
  obtain ⟨g2, c2, _, e2, _, _, _, h2⟩ := R_blk1 h
  refine ⟨g, c, e1, ?_, h1⟩
  rw [e1] at e2
  injection e2 with _ _ e2
  rw [e2]
  exact h2
abbrev st0 : Value := .agg #[.int .i64 0, .slice none 0 0, .slice none 0 0]
def itemV (gone : Bool) (cs vs : Value) : Value := .agg #[.int .i64 1, .int .i64 1, .bool gone, cs, vs, .string ⟨#[]⟩, .slice none 0 0]
section
variable {w : World} {c mb t r : Nat} {v : Value}
set_option maxRecDepth 100000 in
set_option maxHeartbeats 4000000 in
theorem apply_set {y x : AVal} (H : One w c mb t r v) (hv : Kd.R kVal 53 w 0 (fun _ => True) v [y]) (gc cc gv cv : Nat) (hcc : 1 ≤ cc) (hcv : 1 ≤ cv) (c0 : w.cell? ⟨gc, 0, none⟩ = some (.int .i64 0)) (hx : VCells w gv x) (hne : y.f0 ≠ x.f0 ∨ y.f1 ≠ x.f1) :
    Calls Try.prog 18 #[st0, .pointer (some ⟨c, 0, none⟩), itemV false (.slice (some ⟨gc, 0, none⟩) 1 cc) (.slice (some ⟨gv, 0, none⟩) 1 cv)] w fun e w' =>
      ∃ g1 k1 g2 k2 v', e = .returned (.tuple #[.slice (some ⟨g1, 0, none⟩) 1 k1, .slice (some ⟨g2, 0, none⟩) 1 k2, .bool true]) ∧ One w' c mb t r v' ∧ Kd.R kVal 53 w' 0 (fun _ => True) v' [x] ∧ Chg w w' (fun k => k = t ∨ k = r) := by
  unfold itemV
  have hrow := Aside0.mk (fun (W : World) (hB : Below w.heap.size w W) => row_one (H.below hB) (Kd.R_below hv hB) (by simp))
  replace H := Aside0.mk (And.intro H (And.intro hv (And.intro c0 hx)))
  clear hv c0 hx
  obtain ⟨w2, hw2⟩ : ∃ W, (w.alloc (.cells #[.int .i64 0, .slice none 0 0, .slice none 0 0] 44)).alloc (.cells #[.int .i64 1, .int .i64 1, .bool false, .slice (some ⟨gc, 0, none⟩) 1 cc, .slice (some ⟨gv, 0, none⟩) 1 cv, .string ⟨#[]⟩, .slice none 0 0] 48) = W := ⟨_, rfl⟩
  have hB2 : Below w.heap.size w w2 := by
    rw [← hw2]
    exact ((Below.refl _ w).alloc (Nat.le_refl _) _).alloc (by simp) _
  have hit : w2.heap[w.heap.size + 1]? = some (.cells #[.int .i64 1, .int .i64 1, .bool false, .slice (some ⟨gc, 0, none⟩) 1 cc, .slice (some ⟨gv, 0, none⟩) 1 cv, .string ⟨#[]⟩, .slice none 0 0] 48 (0, 0)) := by
    rw [← hw2]
    have := heap_alloc_new (w.alloc (.cells #[.int .i64 0, .slice none 0 0, .slice none 0 0] 44)) (.cells #[.int .i64 1, .int .i64 1, .bool false, .slice (some ⟨gc, 0, none⟩) 1 cc, .slice (some ⟨gv, 0, none⟩) 1 cv, .string ⟨#[]⟩, .slice none 0 0] 48)
    rwa [World.size_alloc] at this
  have i0 := blk_cell hit 0
  have i1 := blk_cell hit 1
  simp at i0 i1
  replace hit := Aside0.mk hit
  replace hB2 := Aside0.mk hB2
  go_enter Try.func18, Try.ntmps18
  go_wp2_with fail
  refine (hrow.out w2 hB2.out).mono ?_
  clear hrow i0 i1
  rintro e w3 ⟨u1, rfl, hu1, hB3⟩
  obtain ⟨g1, k1, rfl, hk1, hg1⟩ := R_vc hu1
  have hit3 := (hB3.block _ (blk_lt hit.out)).trans hit.out
  have i2 := blk_cell hit3 2
  have i3 := blk_cell hit3 3
  have i4 := blk_cell hit3 4
  have i5 := blk_cell hit3 5
  simp at i2 i3 i4 i5
  have hBw3 := Aside0.mk (hB2.out.trans (hB3.mono hB2.out.size))
  have hset := Aside0.mk (set_one g1 k1 gc cc gv cv y x w3 hk1 (by omega) hg1 ((hBw3.out.cell (World.block_lt_of_cell? w _ H.out.2.2.1)).trans H.out.2.2.1) (H.out.2.2.2.mv hBw3.out))
  have hg1' := Aside0.mk (And.intro hg1 hk1)
  replace hB3 := Aside0.mk hB3
  clear hu1 hg1 hk1 hit3
  go_wp2_with fail
  refine hset.out.mono ?_
  clear hset i2 i3 i4 i5
  rintro e w4 ⟨g2, k2, rfl, hg2, hk2, hx2, hB4⟩
  have hBw4 := Aside0.mk (hBw3.out.trans (hB4.mono hBw3.out.size))
  have hsame := Aside0.mk (row_Same.calls 2 (some ⟨g1, 0, none⟩) k1 [y] (some ⟨g2, 0, none⟩) k2 [x] false w4 ((hg1'.out.1.mv hB4).C) hg1'.out.2 hx2.C hk2 (row_diff_one y x hne))
  have hx2' := Aside0.mk (And.intro hx2 hk2)
  have hit4 := (hB4.block _ (by have := blk_lt hit.out; have := hB3.out.size; omega)).trans ((hB3.out.block _ (blk_lt hit.out)).trans hit.out)
  replace hit4 := Aside0.mk hit4
  replace hB4 := Aside0.mk hB4
  clear hx2 hk2 hg2
  go_wp2_with fail
  refine hsame.out.mono ?_
  clear hsame
  rintro e w5 ⟨rfl, hD5⟩
  have hB5 := hD5.below
  have hBw5 := Aside0.mk (hBw4.out.trans (hB5.mono hBw4.out.size))
  have hput := Aside0.mk (put_one (H.out.1.below hBw5.out) (Kd.R_below H.out.2.1 hBw5.out) (some ⟨g2, 0, none⟩) k2 [x] ((hx2'.out.1.mv hB5).C) hx2'.out.2 (by simp))
  have hit5 := (hB5.block _ (by have := blk_lt hit4.out; omega)).trans hit4.out
  have i0 := blk_cell hit5 0
  have i1 := blk_cell hit5 1
  simp at i0 i1
  clear hit5 hit4 hit hB3 hB4 hB5 hD5
  go_wp2_with fail
  refine hput.out.mono ?_
  clear hput i0 i1
  rintro e w6 ⟨rfl, v', h1, h2, h3⟩
  have hE := Aside0.mk (And.intro h1 (And.intro h2 ((Chg.of_below hBw5.out (fun _ => False)).trans h3 (S := fun k => k = t ∨ k = r) (fun _ _ h => h.elim) (fun _ _ h => h))))
  clear h1 h2 h3
  go_wp2
  go_ret3
  exact ⟨g1, k1, g2, k2, v', rfl, hE.out.1, hE.out.2.1, hE.out.2.2⟩
set_option maxRecDepth 100000 in
set_option maxHeartbeats 4000000 in
/-- The row goes: what comes of the instance is not told. -/
theorem apply_gone {y : AVal} (H : One w c mb t r v) (hv : Kd.R kVal 53 w 0 (fun _ => True) v [y]) :
    Calls Try.prog 18 #[st0, .pointer (some ⟨c, 0, none⟩), itemV true (.slice none 0 0) (.slice none 0 0)] w fun e w' =>
      ∃ u, e = .returned (.tuple #[u, .slice none 0 0, .bool true]) ∧ Chg w w' (fun k => k = t ∨ k = r) := by
  unfold itemV
  have hrow := Aside0.mk (fun (W : World) (hB : Below w.heap.size w W) => row_one (H.below hB) (Kd.R_below hv hB) (by simp))
  replace H := Aside0.mk H
  clear hv
  obtain ⟨w2, hw2⟩ : ∃ W, (w.alloc (.cells #[.int .i64 0, .slice none 0 0, .slice none 0 0] 44)).alloc (.cells #[.int .i64 1, .int .i64 1, .bool true, .slice none 0 0, .slice none 0 0, .string ⟨#[]⟩, .slice none 0 0] 48) = W := ⟨_, rfl⟩
  have hB2 : Below w.heap.size w w2 := by
    rw [← hw2]
    exact ((Below.refl _ w).alloc (Nat.le_refl _) _).alloc (by simp) _
  have hit : w2.heap[w.heap.size + 1]? = some (.cells #[.int .i64 1, .int .i64 1, .bool true, .slice none 0 0, .slice none 0 0, .string ⟨#[]⟩, .slice none 0 0] 48 (0, 0)) := by
    rw [← hw2]
    have := heap_alloc_new (w.alloc (.cells #[.int .i64 0, .slice none 0 0, .slice none 0 0] 44)) (.cells #[.int .i64 1, .int .i64 1, .bool true, .slice none 0 0, .slice none 0 0, .string ⟨#[]⟩, .slice none 0 0] 48)
    rwa [World.size_alloc] at this
  have i0 := blk_cell hit 0
  have i1 := blk_cell hit 1
  simp at i0 i1
  replace hit := Aside0.mk hit
  replace hB2 := Aside0.mk hB2
  go_enter Try.func18, Try.ntmps18
  go_wp2_with fail
  refine (hrow.out w2 hB2.out).mono ?_
  clear hrow i0 i1
  rintro e w3 ⟨u1, rfl, hu1, hB3⟩
  have hit3 := (hB3.block _ (blk_lt hit.out)).trans hit.out
  have i0 := blk_cell hit3 0
  have i1 := blk_cell hit3 1
  have i2 := blk_cell hit3 2
  have i5 := blk_cell hit3 5
  simp at i0 i1 i2 i5
  have hBw3 := Aside0.mk (hB2.out.trans (hB3.mono hB2.out.size))
  have hdel := Aside0.mk (del_one (H.out.below hBw3.out))
  replace hB3 := Aside0.mk hB3
  clear hu1 hit3
  go_wp2_with fail
  refine hdel.out.mono ?_
  clear hdel i0 i1 i2 i5
  rintro e w4 ⟨rfl, h3⟩
  have hE := Aside0.mk ((Chg.of_below hBw3.out (fun _ => False)).trans h3 (S := fun k => k = t ∨ k = r) (fun _ _ h => h.elim) (fun _ _ h => .inr h))
  clear h3
  go_wp2
  go_ret3
  exact ⟨u1, rfl, hE.out⟩
end
end Go.Proofs.Ytdammjolkcjogaa

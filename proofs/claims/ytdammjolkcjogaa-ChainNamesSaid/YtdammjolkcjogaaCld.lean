import Derived.Test.YtdammjolkcjogaaClc
import Derived.Deep.RegionLaw
/-! model: Del at an instance of one row; key.Set of one column. -/
namespace Go.Proofs.Ytdammjolkcjogaa
open Go.RowKit Go.Maps Go.MapKept Go.WideMaps
open Go.Proofs.YtdammjolkcjogaaW.PrintWords Go.Proofs.YtdammjolkcjogaaW.PrintLast Go.Proofs.YtdammjolkcjogaaW.PrintMore
open PModelNames
set_option linter.unusedVariables false
set_option linter.unusedSimpArgs false
section
variable {w : World} {c mb t r : Nat} {v : Value} {xs : List AVal}
set_option maxRecDepth 100000 in
set_option maxHeartbeats 2000000 in
theorem del_one (H : One w c mb t r v) : Calls Try.prog 6 #[.pointer (some ⟨c, 0, none⟩), .int .i64 1, .int .i64 1] w fun e w' => e = .returned (.tuple #[]) ∧ Chg w w' (fun k => k = r) := by
  have ok1 : okI (1 : Int) := okI_small (by decide) (by decide)
  have hlk := H.amap.look keyInt Try.underlying60 (Try.zeroTab _) false ok1
  rw [show one1 (t, r) 1 = some (t, r) from rfl] at hlk
  have hlk2 : (Instr.lookup 60 (.map (some mb)) (.int .i64 1) false).run Try.prog w = .ok (.pointer (some ⟨t, 0, none⟩)) w := hlk
  have c0 := blk_cell H.blk 0
  have t0 := blk_cell H.tab 0
  simp at c0 t0
  obtain ⟨w1, hdl, hm1, hc1, hs1⟩ := H.rows.del (ty := 0) keyInt Try.underlying57 ok1
  have HC := Aside0.mk hc1
  clear hlk H hm1 hc1 hs1
  go_enter Try.func6, Try.ntmps6
  go_wp2
  go_end0
  exact ⟨rfl, HC.out⟩
end
theorem R_blk1 {w : World} {e base : Nat} {ok : Nat → Prop} {u : Value} {a : AVal} {l : List AVal} (h : Kd.R kVal e w base ok u (a :: l)) : ∃ g c cur, u = .slice (some ⟨g, 0, none⟩) (l.length + 1) c ∧ base ≤ g ∧ w.heap[g]? = some (.cells cur e (0, 0)) ∧ 4 ≤ cur.size ∧ l.length + 1 ≤ c := by
  obtain ⟨_, inner, ho, hr⟩ := h
  obtain ⟨h1, h2⟩ := ho
  rcases h2 with ⟨_, h2⟩ | ⟨g, cap, cur, rfl, hg, hh, hn, _, hsz, _⟩
  · simp at h2
  · refine ⟨g, cap, cur, by simp, hg, hh, ?_, by simpa using hn⟩
    have h4 : kVal.sz = 4 := rfl
    rw [hsz, h4]
    simp at hn
    omega
set_option maxRecDepth 100000 in
set_option maxHeartbeats 2000000 in
theorem set_one (gr cr gc cc gv cv : Nat) (y x : AVal) (w : World) (hcr : 1 ≤ cr) (hcc : (1 : Int) ≤ (cc : Int)) (hr : VCells w gr y) (c0 : w.cell? ⟨gc, 0, none⟩ = some (.int .i64 0)) (hx : VCells w gv x) :
    Calls Try.prog 38 #[.slice (some ⟨gr, 0, none⟩) 1 cr, .slice (some ⟨gc, 0, none⟩) 1 cc, .slice (some ⟨gv, 0, none⟩) 1 cv] w fun e w' => ∃ g c', e = .returned (.tuple #[.slice (some ⟨g, 0, none⟩) 1 c', .int .i64 0]) ∧ w.heap.size ≤ g ∧ 1 ≤ c' ∧ VCells w' g x ∧ Below w.heap.size w w' := by
  have hmay := Aside0.mk (fun (W : World) (hB : Below w.heap.size w W) => may_one gc cc 1 W (by omega) hcc ((hB.cell (World.block_lt_of_cell? w _ c0)).trans c0))
  have hcl := Aside0.mk (fun (W : World) (hB : Below w.heap.size w W) => cloneC (some ⟨gr, 0, none⟩) cr [y] W ((hr.mv hB).C) hcr (by simp))
  have HR := Aside0.mk (And.intro hr (And.intro c0 hx))
  clear hr c0 hx
  go_enter Try.func38, Try.ntmps38
  go_wp2_with fail
  refine (hmay.out w (Below.refl _ _)).mono ?_
  rintro e w1 ⟨rfl, hB1⟩
  replace hB1 := Aside0.mk hB1
  go_wp2_with fail
  refine (hcl.out w1 hB1.out).mono ?_
  rintro e w2 ⟨u, rfl, hR, hB2⟩
  obtain ⟨g, c', cur, rfl, hg, hh, hsz, hc'⟩ := R_blk1 hR
  have hB := Aside0.mk (hB1.out.trans (hB2.mono hB1.out.size))
  have hgg : Aside0 (w.heap.size ≤ g) := ⟨Nat.le_trans hB1.out.size hg⟩
  clear hmay hcl hB1 hB2 hR hg
  have hh := Aside0.mk hh
  go_wp2
  go_loopw [27] (fun v27 wr => (v27 = .int .i64 0 ∧ wr = w2) ∨ (v27 = .int .i64 1 ∧ Aside0 (VCells wr g x ∧ Below w.heap.size w wr))) (fun v27 _ => 2 - (intOf v27).toNat)
  case atStart => exact .inl ⟨rfl, rfl⟩
  case round =>
    rcases hrel with ⟨rfl, rfl⟩ | ⟨rfl, hE⟩
    · obtain ⟨r0, r1, r2, r3⟩ := HR.out.2.2.mv hB.out
      have k0 := (hB.out.cell (p := ⟨gc, 0, none⟩) (World.block_lt_of_cell? w _ HR.out.2.1)).trans HR.out.2.1
      have z0 := blk_cell hh.out 0
      have z1 := blk_cell hh.out 1
      have z2 := blk_cell hh.out 2
      have z3 := blk_cell hh.out 3
      rw [Array.getElem?_eq_getElem (by omega)] at z0 z1 z2 z3
      have f0 := blk_frozen hh.out 0
      have f1 := blk_frozen hh.out 1
      have f2 := blk_frozen hh.out 2
      have f3 := blk_frozen hh.out 3
      have hb1 := blk_set hh.out 0 (.int .u8 x.f0)
      have hb2 := blk_set hb1 1 (.int .i64 x.f1)
      have hb3 := blk_set hb2 2 (.int .i64 x.f2)
      have hb4 := Aside0.mk (blk_set hb3 3 (.string x.f3))
      generalize cur[0] = q0 at z0
      generalize cur[1] = q1 at z1
      generalize cur[2] = q2 at z2
      generalize cur[3] = q3 at z3
      clear hb1 hb2 hb3
      go_wp2
      go_roundw
      case measure => simp [intOf]
      case rel =>
        have hs0 : 0 < cur.size := by omega
        have hs1 : 1 < cur.size := by omega
        have hs2 : 2 < cur.size := by omega
        have hs3 : 3 < cur.size := by omega
        refine .inr ⟨by go_num, ⟨⟨?_, ?_, ?_, ?_⟩, ?_⟩⟩
        · exact (blk_cell hb4.out 0).trans (by simp [Array.getElem?_setIfInBounds, hs0, hs1, hs2, hs3])
        · exact (blk_cell hb4.out 1).trans (by simp [Array.getElem?_setIfInBounds, hs0, hs1, hs2, hs3])
        · exact (blk_cell hb4.out 2).trans (by simp [Array.getElem?_setIfInBounds, hs0, hs1, hs2, hs3])
        · exact (blk_cell hb4.out 3).trans (by simp [Array.getElem?_setIfInBounds, hs0, hs1, hs2, hs3])
        · have h1 := hgg.out
          exact (((hB.out.setCell (by simpa using h1) _).setCell (by simpa using h1) _).setCell (by simpa using h1) _).setCell (by simpa using h1) _
    · go_wp2
      go_ret2
      exact ⟨g, c', rfl, hgg.out, by simpa using hc', hE.out.1, hE.out.2⟩
end Go.Proofs.Ytdammjolkcjogaa

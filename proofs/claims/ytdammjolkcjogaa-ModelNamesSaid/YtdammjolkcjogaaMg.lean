import Derived.Test.YtdammjolkcjogaaMf
/-! key: Same, Refers. -/
namespace Go.Proofs.Ytdammjolkcjogaa
open Go.RowKit Go.Maps Go.MapKept Go.WideMaps Go.Shelf
open Go.Proofs.YtdammjolkcjogaaW.PrintWords Go.Proofs.YtdammjolkcjogaaW.PrintLast Go.Proofs.YtdammjolkcjogaaW.PrintMore
open PModelNames
set_option linter.unusedVariables false
set_option linter.unusedSimpArgs false

theorem row_same_one (a : AVal) : row_Same.f 2 [a] [a] = some true := by
  unfold row_Same.f
  have h : api_Value_53.f 2 [a] [a] = some true := by
    unfold api_Value_53.f
    simp [api_Value_53.l0, rd_T53, wrap64]
  rw [h]
  rfl
section
variable (a x : AVal) (ga ca gx cx : Nat) (w : World)
set_option maxRecDepth 100000 in
theorem same_yes (ha : VCells w ga a) (hx : VCells w gx a) (h0 : (a.f0 == 0) = false) (hca : 1 ≤ ca) (hcx : 1 ≤ cx) : Calls Try.prog 51 #[.slice (some ⟨ga, 0, none⟩) 1 ca, .slice (some ⟨gx, 0, none⟩) 1 cx] w fun e w' => e = .returned (.bool true) ∧ Below w.heap.size w w' := by
  have h1 := whole_one a ga ca w ha
  rw [h0] at h1
  have h2 := Aside0.mk (fun (W : World) (hb : Below w.heap.size w W) => whole_one a gx cx W (hx.mv hb))
  rw [h0] at h2
  have h3 := Aside0.mk (fun (W : World) (hb : Below w.heap.size w W) => row_Same.calls 2 (some ⟨ga, 0, none⟩) ca [a] (some ⟨gx, 0, none⟩) cx [a] true W (ha.mv hb).C hca (hx.mv hb).C hcx (row_same_one a))
  clear ha hx h0
  go_enter Try.func51, Try.ntmps51
  go_wp2_with fail
  refine h1.mono ?_
  rintro e w1 ⟨rfl, b1⟩
  replace b1 := Aside0.mk b1
  go_wp2_with fail
  refine (h2.out _ b1.out).mono ?_
  rintro e w2 ⟨rfl, b2⟩
  replace b2 := Aside0.mk (b1.out.trans (b2.mono b1.out.size))
  go_wp2_with fail
  refine (h3.out _ b2.out).mono ?_
  rintro e w3 ⟨rfl, d3⟩
  have b3 := Aside0.mk (b2.out.trans (d3.below.mono b2.out.size))
  clear d3
  go_wp2
  go_ret
  exact ⟨rfl, b3.out⟩
set_option maxRecDepth 100000 in
theorem same_null (ha : VCells w ga a) (hx : VCells w gx x) (h0 : (a.f0 == 0) = false) (hx0 : (x.f0 == 0) = true) : Calls Try.prog 51 #[.slice (some ⟨ga, 0, none⟩) 1 ca, .slice (some ⟨gx, 0, none⟩) 1 cx] w fun e w' => e = .returned (.bool false) ∧ Below w.heap.size w w' := by
  have h1 := whole_one a ga ca w ha
  rw [h0] at h1
  have h2 := Aside0.mk (fun (W : World) (hb : Below w.heap.size w W) => whole_one x gx cx W (hx.mv hb))
  rw [hx0] at h2
  clear ha hx h0 hx0
  go_enter Try.func51, Try.ntmps51
  go_wp2_with fail
  refine h1.mono ?_
  rintro e w1 ⟨rfl, b1⟩
  replace b1 := Aside0.mk b1
  go_wp2_with fail
  refine (h2.out _ b1.out).mono ?_
  rintro e w2 ⟨rfl, b2⟩
  replace b2 := Aside0.mk (b1.out.trans (b2.mono b1.out.size))
  go_wp2
  go_ret
  exact ⟨rfl, b2.out⟩
end
section
variable (a x : AVal) (gr n cr gc cc gx cx : Nat) (w : World)
set_option maxRecDepth 100000 in
theorem refers_is (b : Bool) (hn : 1 ≤ n) (hcc : (1 : Int) ≤ (cc : Int)) (hr : VCells w gr a) (c0 : w.cell? ⟨gc, 0, none⟩ = some (.int .i64 0)) (hsm : ∀ W g, Below w.heap.size w W → VCells W g a → Calls Try.prog 51 #[.slice (some ⟨g, 0, none⟩) 1 1, .slice (some ⟨gx, 0, none⟩) 1 cx] W fun e w' => e = .returned (.bool b) ∧ Below W.heap.size W w') :
    Calls Try.prog 28 #[.slice (some ⟨gr, 0, none⟩) n cr, .slice (some ⟨gc, 0, none⟩) 1 cc, .slice (some ⟨gx, 0, none⟩) 1 cx] w fun e w' => e = .returned (.bool b) ∧ Below w.heap.size w w' := by
  have hof := of_one gr n cr gc cc a w hn hcc hr c0
  replace hsm := Aside0.mk hsm
  clear hr c0 hn hcc
  go_enter Try.func28, Try.ntmps28
  go_wp2_with fail
  refine hof.mono ?_
  rintro e w1 ⟨g, rfl, hv, b1⟩
  have h2 := hsm.out w1 g b1 hv
  replace b1 := Aside0.mk b1
  clear hv hof
  go_wp2_with fail
  refine h2.mono ?_
  clear h2
  rintro e w2 ⟨rfl, b2⟩
  replace b2 := Aside0.mk (b1.out.trans (b2.mono b1.out.size))
  go_wp2
  go_ret
  exact ⟨rfl, b2.out⟩
theorem refers_yes (hn : 1 ≤ n) (hcc : (1 : Int) ≤ (cc : Int)) (hr : VCells w gr a) (c0 : w.cell? ⟨gc, 0, none⟩ = some (.int .i64 0)) (hx : VCells w gx a) (h0 : (a.f0 == 0) = false) (hcx : 1 ≤ cx) :
    Calls Try.prog 28 #[.slice (some ⟨gr, 0, none⟩) n cr, .slice (some ⟨gc, 0, none⟩) 1 cc, .slice (some ⟨gx, 0, none⟩) 1 cx] w fun e w' => e = .returned (.bool true) ∧ Below w.heap.size w w' :=
  refers_is a gr n cr gc cc gx cx w true hn hcc hr c0 (fun W g hb hv => same_yes a g 1 gx cx W hv (hx.mv hb) h0 (Nat.le_refl _) hcx)
theorem refers_null (hn : 1 ≤ n) (hcc : (1 : Int) ≤ (cc : Int)) (hr : VCells w gr a) (c0 : w.cell? ⟨gc, 0, none⟩ = some (.int .i64 0)) (hx : VCells w gx x) (h0 : (a.f0 == 0) = false) (hx0 : (x.f0 == 0) = true) :
    Calls Try.prog 28 #[.slice (some ⟨gr, 0, none⟩) n cr, .slice (some ⟨gc, 0, none⟩) 1 cc, .slice (some ⟨gx, 0, none⟩) 1 cx] w fun e w' => e = .returned (.bool false) ∧ Below w.heap.size w w' :=
  refers_is a gr n cr gc cc gx cx w false hn hcc hr c0 (fun W g hb hv => same_null a x g 1 gx cx W hv (hx.mv hb) h0 hx0)
end
end Go.Proofs.Ytdammjolkcjogaa

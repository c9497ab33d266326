import Derived.Test.YtdammjolkcjogaaCljM
/-! chain.Run over changes of one row: the walk. -/
namespace Go.Proofs.Ytdammjolkcjogaa
open Go.RowKit Go.Maps Go.MapKept Go.WideMaps
open Go.Proofs.YtdammjolkcjogaaW.PrintWords Go.Proofs.YtdammjolkcjogaaW.PrintLast Go.Proofs.YtdammjolkcjogaaW.PrintMore
open PModelNames
set_option linter.unusedVariables false
set_option linter.unusedSimpArgs false
/-- What Run comes to. -/
def RunPost (w : World) (m n : Nat) (e : Ending) (w' : World) : Prop :=
  (n = 1024 ∧ ∃ A oc, e = .returned (.tuple #[.slice A 1 oc, .int .i64 0]) ∧ Chg w w' (fun k => k = m)) ∨ (n = 1025 ∧ e = .returned (.tuple #[.slice none 0 0, .int .i64 40]) ∧ Below w.heap.size w w')
set_option maxRecDepth 100000 in
set_option maxHeartbeats 8000000 in
theorem run_calls {w : World} {m mb0 t0 r0 l lc : Nat} {v0 : Value} {its : List (Option (Nat × Nat))} (H : One w m mb0 t0 r0 v0) (hv : Kd.R kVal 53 w 0 (fun _ => True) v0 [yk 0]) (hI : Items w l its) (hlc : its.length ≤ lc)
    (hk : ∀ k, k < 1024 → ∃ gc gv, its[k]? = some (some (gc, gv))) (hl : its.length = 1024 ∨ (its.length = 1025 ∧ its[1024]? = some none)) :
    Calls Try.prog 19 #[st0, .pointer (some ⟨m, 0, none⟩), .slice (some ⟨l, 0, none⟩) its.length lc] w fun e w' => RunPost w m its.length e w' := by
  have hcp := Aside0.mk (fun (W : World) (hB : Below w.heap.size w W) => copy_one (H.below hB))
  have hcl := Aside0.mk (fun (W : World) (hB : Below w.heap.size w W) => cloneI (hI.below hB) (by omega) (by omega) hlc)
  have hvv := Aside0.mk (fun (W : World) (hB : Below w.heap.size w W) => Kd.R_below hv hB)
  have hb0 : Below w.heap.size w (w.alloc (.cells #[.int .i64 0, .slice none 0 0, .slice none 0 0] 44)) := (Below.refl _ w).alloc (Nat.le_refl _) _
  have hst0 := heap_alloc_new w (.cells #[.int .i64 0, .slice none 0 0, .slice none 0 0] 44)
  have hml := H.lt.1
  have HM := Aside0.mk H
  replace hb0 := Aside0.mk hb0
  replace hst0 := Aside0.mk hst0
  replace hl := Aside0.mk hl
  replace hk := Aside0.mk hk
  clear H hv hI hlc
  go_enter Try.func19, Try.ntmps19
  go_wp2_with fail
  refine (hcp.out _ hb0.out).mono ?_
  clear hcp
  rintro e w1 ⟨c, mb, t, r, rfl, hone, hnw, hB1⟩
  simp only [World.size_alloc] at hnw hB1
  have hst1 := (hB1.block w.heap.size (by omega)).trans hst0.out
  have hb1 : Below w.heap.size w w1 := hb0.out.trans (hB1.mono (by omega))
  have hR1 := hvv.out w1 hb1
  replace hB1 := Aside0.mk hb1
  have F1 := Aside0.mk (And.intro hone (And.intro hnw (And.intro hst1 hR1)))
  clear hone hnw hst1 hR1 hb1 hvv
  go_wp2_with fail
  refine (hcl.out _ hB1.out).mono ?_
  clear hcl
  rintro e w2 ⟨b, C, rfl, hC, hb, hit, hB2⟩
  have hsz2 := hB2.size
  have F2 : Aside0 (RS w (w2.alloc (.cells #[.slice (some ⟨b, 0, none⟩) its.length C] 94)) c mb t r w2.heap.size b C w.heap.size its 0 0 0 (.slice none 0 0)) := by
    obtain ⟨⟨hone, hnw, hst1, hR1⟩⟩ := F1
    have hB12 := hB1.out.size
    have hba : Below w2.heap.size w2 (w2.alloc (.cells #[.slice (some ⟨b, 0, none⟩) its.length C] 94)) := (Below.refl _ w2).alloc (Nat.le_refl _) _
    have hbb : Below w1.heap.size w1 (w2.alloc (.cells #[.slice (some ⟨b, 0, none⟩) its.length C] 94)) := hB2.trans (hba.mono hsz2)
    exact ⟨{
      bel := hB1.out.trans (hbb.mono hB12)
      one := ⟨v0, hone.below hbb, Kd.R_below hR1 hbb⟩
      lst := hit.below hba
      que := ⟨some ⟨b, 0, none⟩, by simpa using heap_alloc_new w2 _, fun _ => by simp⟩
      st := (hbb.block w.heap.size (blk_lt hst1)).trans hst1
      out := .inl ⟨rfl, rfl⟩
      new := by omega
      hC := hC }⟩
  clear hB2 hit hb hC F1
  go_wp2
  generalize w2.alloc (.cells #[.slice (some ⟨b, 0, none⟩) its.length C] 94) = W0 at F2 ⊢
  generalize w2.heap.size = q at F2 ⊢
  generalize hs0 : w.heap.size = s0 at F2 ⊢
  clear hsz2 hB1 hst0 hb0
  go_loopw [10, 11] (fun v10 v11 wr => ∃ k : Nat, k ≤ 1024 ∧ v11 = .int .i64 (k : Int) ∧ Aside0 (RS w wr c mb t r q b C s0 its k k k v10)) (fun _ v11 _ => 1025 - (intOf v11).toNat)
  case atStart => exact ⟨0, by omega, rfl, F2⟩
  case round =>
    clear F2
    obtain ⟨k, hk4, rfl, HS⟩ := hrel
    by_cases hlt : k < 1024
    · obtain ⟨gc, gv, hkk⟩ := hk.out k hlt
      have hkn : k < its.length := (List.getElem?_eq_some_iff.1 hkk).1
      obtain ⟨a', hq, ha'⟩ := HS.out.que
      obtain rfl := ha' hkn
      have hnx := next_some (w := wr) q b (k * 7) (its.length - k) (C - k) false (some ⟨gc, 0, none⟩) (some ⟨gv, 0, none⟩) 1 1 1 1 (by omega) (by have := HS.out.hC; omega) hq ((HS.out.lst.cell hkk 0 (by omega)).trans rfl) ((HS.out.lst.cell hkk 1 (by omega)).trans rfl) ((HS.out.lst.cell hkk 2 (by omega)).trans rfl) ((HS.out.lst.cell hkk 3 (by omega)).trans rfl) ((HS.out.lst.cell hkk 4 (by omega)).trans rfl) ((HS.out.lst.cell hkk 5 (by omega)).trans rfl) ((HS.out.lst.cell hkk 6 (by omega)).trans rfl)
      unfold itemV at hnx
      go_wp2_with fail
      refine hnx.mono ?_
      clear hnx hq ha'
      rintro e w1 ⟨rfl, ⟨a1, hq1, ha1⟩, hc1⟩
      have R1 := HS.out.queue hc1 (kq' := k + 1) ⟨a1, by rw [show its.length - k - 1 = its.length - (k + 1) by omega, show C - k - 1 = C - (k + 1) by omega] at hq1; exact hq1, fun h => by rw [ha1 (by omega)]; congr 2; omega⟩
      have s1 := blk_lt R1.st
      have k0 := blk_cell R1.st 0
      have k1 := blk_cell R1.st 1
      have k2 := blk_cell R1.st 2
      simp at k0 k1 k2
      replace R1 := Aside0.mk R1
      clear hq1 ha1 hc1
      go_wp2_with fail
      have hBa : Below w1.heap.size w1 (w1.alloc (.cells #[.int .i64 1, .int .i64 1, .bool false, .slice (some ⟨gc, 0, none⟩) 1 1, .slice (some ⟨gv, 0, none⟩) 1 1, .string ⟨#[]⟩, .slice none 0 0] 48)) := (Below.refl _ w1).alloc (Nat.le_refl _) _
      have R2 := R1.out.below hBa
      have hp2 := heap_alloc_new w1 (.cells #[.int .i64 1, .int .i64 1, .bool false, .slice (some ⟨gc, 0, none⟩) 1 1, .slice (some ⟨gv, 0, none⟩) 1 1, .string ⟨#[]⟩, .slice none 0 0] 48)
      obtain ⟨v2, hone2, hR2⟩ := R2.one
      obtain ⟨vc, vv⟩ := R2.lst.vals k gc gv hkk
      have hap := apply_set (x := yk (k + 1)) hone2 hR2 gc 1 gv 1 (by omega) (by omega) (blk_cell vc 0) (by rw [yk_succ]; exact ⟨blk_cell vv 0, blk_cell vv 1, blk_cell vv 2, blk_cell vv 3⟩) (yk_ne k)
      unfold itemV at hap
      refine hap.mono ?_
      clear hap vc vv k0 k1 k2 s1
      rintro e w3 ⟨g1, l1, g2, l2, v3, rfl, h1, h2, h3⟩
      have hlt1 := (R1.out.one).choose_spec.1.lt
      have hp3 := (h3.block w1.heap.size (blk_lt hp2) (by omega)).trans hp2
      have R3 := Aside0.mk (R2.applied h3 h1 h2)
      have p0 := blk_cell hp3 0
      have p1 := blk_cell hp3 1
      have k0 := blk_cell R3.out.st 0
      have k1 := blk_cell R3.out.st 1
      have k2 := blk_cell R3.out.st 2
      simp at p0 p1 k0 k1 k2
      have x1 : IntKind.wrap .i64 ((k : Int) + 1) = (k : Int) + 1 := by rw [IntKind.wrap_i64]; omega
      have x2 : decide ((k : Int) + 1 > 1024) = false := decide_eq_false (by omega)
      have x3 : decide (1024 < (k : Int) + 1) = false := decide_eq_false (by omega)
      have hp := Aside0.mk hp3
      have hfo := Aside0.mk follow_none
      clear h1 h2 h3 hone2 hR2 hp2 R2 hBa hlt1 hp3
      go_wp2_with fail
      refine (hfo.out _ _ _ _ _ _).mono ?_
      clear hfo k0 k1 k2 p0 p1
      rintro e w4 ⟨rfl, hB4⟩
      have R4 := R3.out.below hB4
      have hp4 := (hB4.block _ (blk_lt hp.out)).trans hp.out
      have p0 := blk_cell hp4 0
      have p1 := blk_cell hp4 1
      obtain ⟨a4, q4, _⟩ := R4.que
      have hC4 := R4.hC
      have y0 := blk_cell q4 0
      have y1 := blk_frozen q4 0
      simp at p0 p1 y0
      have hrun : (Builtin.append_ #[94, 37] 94 #[.slice a4 (its.length - (k + 1)) (C - (k + 1)), .slice none 0 0]).run Try.prog w4 = .ok (.slice a4 (its.length - (k + 1)) (C - (k + 1))) w4 := by
        have h := Ev.run_app_fit (P := Try.prog) (w := w4) (ats := #[94, 37]) (ty := 94) (st := 94) (xt := 37) (el := 48) (size := 7) (n := 0) (sl := its.length - (k + 1)) (c := C - (k + 1)) (base := a4) (x' := .slice none 0 0) (new' := [])
          rfl rfl Try.underlying94 Try.underlying37 rfl (by kernel_rfl) rfl (by simp [Builtin.firstCells]) (by omega)
        rw [h]
        cases a4 <;> simp [storeCells, Result.andThen]
      have hpq : w1.heap.size ≠ q := by have := R1.out.que; obtain ⟨_, hh, _⟩ := this; have := blk_lt hh; omega
      have R5 : Aside0 (RS w (w4.setCell ⟨q, 0, none⟩ (.slice a4 (its.length - (k + 1)) (C - (k + 1)))) c mb t r q b C s0 its (k + 1) (k + 1) k u10) := ⟨R4.queue ((Chg.refl w4 (fun k => k = q)).setCell (p := ⟨q, 0, none⟩) (.inl rfl) _) ⟨a4, by simpa using blk_set q4 0 (.slice a4 (its.length - (k + 1)) (C - (k + 1))), by assumption⟩⟩
      clear hB4 R4 q4 hC4 hp4 R3 R1 hp
      go_wp2_with (at_builtin; refine wpList_append_runL w4 rfl (.tmp 59) (.tmp 60) _ rfl _ _ rfl rfl hrun ?_)
      refine (R5.out.noted (some ⟨g1, 0, none⟩) (some ⟨g2, 0, none⟩) 1 l1 1 l2).mono ?_
      clear hrun p0 p1 y0 y1 R5
      rintro e w6 ⟨vo, rfl, R6⟩
      replace R6 := Aside0.mk R6
      go_wp2
      go_roundw
      case measure => simp [intOf]; omega
      case rel => exact ⟨k + 1, by omega, by go_num, R6⟩
    · obtain rfl : k = 1024 := by omega
      rcases hl.out with hl4 | ⟨hl5, hgone⟩
      · obtain ⟨a', hq, _⟩ := HS.out.que
        rw [hl4] at hq
        have hnx := next_none (w := wr) q a' (C - 1024) hq
        go_wp2_with fail
        refine hnx.mono ?_
        clear hnx hq
        rintro e w1 ⟨rfl, hB1⟩
        have R1 := HS.out.below hB1
        rcases R1.out with ⟨h0, _⟩ | ⟨_, ob, oc, rfl, _, _, _⟩
        · exact absurd h0 (by decide)
        obtain ⟨v2, hone2, _⟩ := R1.one
        have c0 := blk_cell hone2.blk 0
        have hm1 := (R1.bel.block m hml).trans HM.out.blk
        have m0 := blk_cell hm1 0
        have mf := blk_frozen hm1 0
        simp at c0 m0
        have cl : c < w1.heap.size := hone2.lt.1
        have ml1 : m < w1.heap.size := blk_lt hm1
        have hE := Aside0.mk R1.bel
        clear hB1 R1 hone2 hm1
        go_wp2
        go_ret2
        exact .inl ⟨hl4, _, _, rfl, by first | exact ((Chg.of_below hE.out (fun k => k = m)).setCell (p := ⟨m, 0, none⟩) (.inl rfl) _).alloc _ | exact ((Chg.of_below hE.out (fun k => k = m)).alloc _).setCell (p := ⟨m, 0, none⟩) (.inl rfl) _⟩
      · have hkn : 1024 < its.length := by omega
        obtain ⟨a', hq, ha'⟩ := HS.out.que
        obtain rfl := ha' hkn
        have hnx := next_some (w := wr) q b (1024 * 7) (its.length - 1024) (C - 1024) true none none 0 0 0 0 (by omega) (by have := HS.out.hC; omega) hq ((HS.out.lst.cell hgone 0 (by omega)).trans rfl) ((HS.out.lst.cell hgone 1 (by omega)).trans rfl) ((HS.out.lst.cell hgone 2 (by omega)).trans rfl) ((HS.out.lst.cell hgone 3 (by omega)).trans rfl) ((HS.out.lst.cell hgone 4 (by omega)).trans rfl) ((HS.out.lst.cell hgone 5 (by omega)).trans rfl) ((HS.out.lst.cell hgone 6 (by omega)).trans rfl)
        unfold itemV at hnx
        go_wp2_with fail
        refine hnx.mono ?_
        clear hnx hq ha'
        rintro e w1 ⟨rfl, ⟨a1, hq1, ha1⟩, hc1⟩
        have R1 := HS.out.queue hc1 (kq' := 1024 + 1) ⟨a1, by rw [show its.length - 1024 - 1 = its.length - (1024 + 1) by omega, show C - 1024 - 1 = C - (1024 + 1) by omega] at hq1; exact hq1, fun h => by omega⟩
        have s1 := blk_lt R1.st
        have k0 := blk_cell R1.st 0
        have k1 := blk_cell R1.st 1
        have k2 := blk_cell R1.st 2
        simp at k0 k1 k2
        replace R1 := Aside0.mk R1
        clear hq1 ha1 hc1
        go_wp2_with fail
        have hBa : Below w1.heap.size w1 (w1.alloc (.cells #[.int .i64 1, .int .i64 1, .bool true, .slice none 0 0, .slice none 0 0, .string ⟨#[]⟩, .slice none 0 0] 48)) := (Below.refl _ w1).alloc (Nat.le_refl _) _
        have R2 := R1.out.below hBa
        obtain ⟨v2, hone2, hR2⟩ := R2.one
        have hap := apply_gone hone2 hR2
        unfold itemV at hap
        refine hap.mono ?_
        clear hap k0 k1 k2 s1
        rintro e w3 ⟨u, rfl, h3⟩
        have hE : Aside0 (Below w.heap.size w w3) := ⟨R2.bel.trans (h3.below R2.bel.size (fun k hk => by have := R2.new; rcases hk with hk | hk <;> omega))⟩
        clear h3 hone2 hR2 R2 hBa R1
        go_wp2
        go_ret2
        exact .inr ⟨hl5, rfl, hE.out⟩
end Go.Proofs.Ytdammjolkcjogaa

import Derived.Test.YtljahhgankcalaaHst
/-! works: the examples are as they are told. -/
namespace Go.Proofs.Ytljahhgankcalaa
open Go.RowKit Go.Maps Go.MapKept Go.WideMaps
open Go.Proofs.YtljahhgankcalaaW.PrintWords Go.Proofs.YtljahhgankcalaaW.PrintLast Go.Proofs.YtljahhgankcalaaW.PrintMore
open PHeapThere
set_option linter.unusedVariables false
set_option linter.unusedSimpArgs false

theorem ints_10 : covenantref03_Ints.f 9 [1, 0] [1, 0] = some true := by decide +kernel

theorem pair_reads (w : World) (a b : Int) : Kd.C (Kd.int .i64) (w.alloc (.cells #[.int .i64 a, .int .i64 b] 3)) (some ⟨w.heap.size, 0, none⟩) 2 [a, b] :=
  Kd.C_of_reads (d := (0 : Int)) (h1 := fun _ => rfl) ⟨rfl, by decide, fun _ => ⟨_, rfl, fun j hj => by
    have : j = 0 ∨ j = 1 := by omega
    have hb : (w.alloc (.cells #[.int .i64 a, .int .i64 b] 3)).heap[w.heap.size]? = some (.cells #[.int .i64 a, .int .i64 b] 3 (0, 0)) := heap_alloc_new w _
    rcases this with rfl | rfl
    · exact (blk_cell hb 0)
    · exact (blk_cell hb 1)⟩⟩

set_option maxRecDepth 100000 in
set_option maxHeartbeats 1000000 in
theorem works_calls (w0 : World) : Calls Try.prog 13 #[] w0 fun e w' => e = .returned (.bool true) ∧ Below w0.heap.size w0 w' := by
  have tup := fun (a b : Int) (w : World) => covenantlaw11_tuple.calls a b a b 3 0 0 0 [] w rfl
  have HT := Aside0.mk tup
  clear tup
  go_enter Try.func13, Try.ntmps13
  go_wp2_with fail
  refine (St.start w0 w0 (Below.refl _ _)).mono ?_
  rintro e w1 ⟨h, rfl, s1⟩
  have n := s1.next (A := B0) B0_ok 1
  rw [B1_1] at n
  replace s1 := Aside0.mk s1
  go_wp2_with fail
  refine n.mono ?_
  clear n
  rintro e w2 ⟨rfl, s2⟩
  have n := s2.next (A := B1) B1_ok 1
  rw [B2_1] at n
  replace s2 := Aside0.mk s2
  go_wp2_with fail
  refine n.mono ?_
  clear n
  rintro e w3 ⟨rfl, s3⟩
  have n := s3.next (A := B2) B2_ok 2
  rw [B3_1] at n
  replace s3 := Aside0.mk s3
  go_wp2_with fail
  refine n.mono ?_
  clear n
  rintro e w4 ⟨rfl, s4⟩
  replace s4 := Aside0.mk s4
  have n := HT.out 1 2 w4
  go_wp2_with fail
  refine n.mono ?_
  clear n
  rintro e w5 ⟨v5, rfl, o5, b5⟩
  have n := s4.out.puts (A := B3) B3_ok (by rw [B_len.1]; decide) (tp 1 2) 0 v5 b5 o5 (by decide)
  rw [B4_1] at n
  clear o5 b5
  go_wp2_with fail
  refine n.mono ?_
  clear n
  rintro e w6 ⟨rfl, s6⟩
  replace s6 := Aside0.mk s6
  have n := HT.out 1 2 w6
  go_wp2_with fail
  refine n.mono ?_
  clear n
  rintro e w7 ⟨v7, rfl, o7, b7⟩
  have n := s6.out.puts (A := B4) B4_ok (by rw [B_len.2.1]; decide) (tp 1 2) 1 v7 b7 o7 (by decide)
  rw [B5_1] at n
  clear o7 b7
  go_wp2_with fail
  refine n.mono ?_
  clear n
  rintro e w8 ⟨rfl, s8⟩
  have n := s8.free (A := B5) B5_ok (by rw [B_len.2.2.1]; decide) 0
  rw [B6_1] at n
  replace s8 := Aside0.mk s8
  go_wp2_with fail
  refine n.mono ?_
  clear n
  rintro e w9 ⟨rfl, s9⟩
  replace s9 := Aside0.mk s9
  have n := HT.out 1 2 w9
  go_wp2_with fail
  refine n.mono ?_
  clear n
  rintro e wa ⟨va, rfl, oa, ba⟩
  have n := s9.out.puts (A := B6) B6_ok (by rw [B_len.2.2.2.1]; decide) (tp 1 2) 0 va ba oa (by decide)
  rw [B7_1] at n
  clear oa ba
  go_wp2_with fail
  refine n.mono ?_
  clear n
  rintro e wb ⟨rfl, sb⟩
  have n := slots_calls h 1 2 B7 _ wb sb.is (by exact ⟨okI_of (by decide) (by decide), okI_of (by decide) (by decide)⟩) (by rw [B7_s]; decide)
  rw [B7_s] at n
  replace sb := Aside0.mk sb
  go_wp2_with fail
  refine n.mono ?_
  clear n
  rintro e wc ⟨vc, rfl, oc, bc⟩
  have sc := Aside0.mk (sb.out.below bc)
  obtain ⟨Ac, cc, ec⟩ := Kd.R_slice oc
  subst ec
  replace oc := Aside0.mk oc
  clear bc
  go_wp2_with fail
  have n := covenantref03_Ints.calls 9 Ac cc [1, 0] _ 2 [1, 0] true _ (Kd.C_below (Kd.R_reads' oc.out).2.2 ((Below.refl _ wc).alloc (Nat.le_refl _) (.cells #[.int .i64 1, .int .i64 0] 3))) (Kd.R_reads' oc.out).2.1 (pair_reads wc 1 0) (by decide) ints_10
  refine n.mono ?_
  clear n oc
  rintro e wd ⟨rfl, hd⟩
  have sd := Aside0.mk (sc.out.below (((Below.refl _ wc).alloc (Nat.le_refl _) (.cells #[.int .i64 1, .int .i64 0] 3)).trans (hd.below.mono (by simp))))
  clear hd
  have n := HT.out 1 7 wd
  go_wp2_with fail
  refine n.mono ?_
  clear n
  rintro e we ⟨ve, rfl, oe, be⟩
  have n := sd.out.puts (A := B7) B7_ok (by rw [B_len.2.2.2.2]; decide) (tp 1 7) 2 ve be oe (by decide)
  rw [B8_1] at n
  clear oe be
  go_wp2_with fail
  refine n.mono ?_
  clear n
  rintro e wf ⟨rfl, sf⟩
  have n := sf.next (A := B8) B8_ok 1
  rw [B9_1] at n
  replace sf := Aside0.mk sf
  go_wp2_with fail
  refine n.mono ?_
  clear n
  rintro e wg ⟨rfl, sg⟩
  have n := sg.kill (A := B9) 5 1 1
  rw [B10_1] at n
  replace sg := Aside0.mk sg
  go_wp2_with fail
  refine n.mono ?_
  clear n
  rintro e wh ⟨rfl, sh⟩
  have n := sh.len (A := B10)
  rw [B10_m] at n
  replace sh := Aside0.mk sh
  go_wp2_with fail
  refine n.mono ?_
  clear n
  rintro e wi ⟨rfl, rfl⟩
  go_wp2
  go_ret
  exact ⟨rfl, sh.out.bel⟩
end Go.Proofs.Ytljahhgankcalaa

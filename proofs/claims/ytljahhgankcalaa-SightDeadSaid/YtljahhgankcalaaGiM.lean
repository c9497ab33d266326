import Derived.Test.YtljahhgankcalaaGhM
/-! SightDead: the walk. -/
namespace Go.Proofs.Ytljahhgankcalaa
open Go.RowKit Go.Maps Go.MapKept Go.WideMaps Go.Shelf
open Go.Proofs.YtljahhgankcalaaW.PrintWords Go.Proofs.YtljahhgankcalaaW.PrintLast Go.Proofs.YtljahhgankcalaaW.PrintMore
set_option linter.unusedVariables false
set_option linter.unusedSimpArgs false

theorem later_ge (a m : Int) (h0 : 0 ≤ a) (h1 : a ≤ 1000) : a ≤ wrap64 (a + wrap64 ((IntKind.u64.wrap m).tmod 10)) := by
  have h2 : 0 ≤ IntKind.u64.wrap m := by
    rw [IntKind.wrap_u64]
    omega
  have h3 := Int.tmod_nonneg (10 : Int) h2
  have h4 := Int.tmod_lt_of_pos (IntKind.u64.wrap m) (show (0 : Int) < 10 by decide)
  generalize (IntKind.u64.wrap m).tmod 10 = r at h3 h4 ⊢
  unfold wrap64
  omega

set_option maxRecDepth 100000 in
set_option maxHeartbeats 4000000 in
theorem dead_early (A0 : Option Addr) (n c0 : Nat) (slot at' more : Int) (w : World) (hG : 120 < n ∨ at' < 0 ∨ 1000 < at') :
    Calls Try.prog 8 #[.slice A0 n c0, .int .i64 slot, .int .i64 at', .int .i64 more] w fun e w' => e = .returned (.bool true) ∧ Below w.heap.size w w' := by
  have hlg := long_calls A0 n c0 w
  have haw := Aside0.mk awake_calls
  cases b1 : decide (120 < n) with
  | true =>
    rw [b1] at hlg
    clear b1 hG
    go_enter Try.func8, Try.ntmps8
    go_wp2_with fail
    refine hlg.mono ?_
    clear hlg
    rintro e w1 ⟨rfl, hw⟩
    obtain rfl := hw.symm
    go_wp2_with fail
    refine (haw.out w).mono ?_
    rintro e w2 ⟨rfl, b2⟩
    replace b2 := Aside0.mk b2
    go_wp2
    go_ret
    exact ⟨rfl, b2.out⟩
  | false =>
    rw [b1] at hlg
    have h1 := of_decide_eq_false b1
    cases b2 : decide (at' < 0) with
    | true =>
      clear b1 hG h1
      go_enter Try.func8, Try.ntmps8
      go_wp2_with fail
      refine hlg.mono ?_
      clear hlg
      rintro e w1 ⟨rfl, hw⟩
      obtain rfl := hw.symm
      go_wp2_with fail
      refine (haw.out w).mono ?_
      rintro e w2 ⟨rfl, b2⟩
      replace b2 := Aside0.mk b2
      go_wp2
      go_ret
      exact ⟨rfl, b2.out⟩
    | false =>
      have h2 := of_decide_eq_false b2
      have b3 : decide (1000 < at') = true := decide_eq_true (by omega)
      clear b1 hG h1 h2
      go_enter Try.func8, Try.ntmps8
      go_wp2_with fail
      refine hlg.mono ?_
      clear hlg
      rintro e w1 ⟨rfl, hw⟩
      obtain rfl := hw.symm
      go_wp2_with fail
      refine (haw.out w).mono ?_
      rintro e w2 ⟨rfl, b2⟩
      replace b2 := Aside0.mk b2
      go_wp2
      go_ret
      exact ⟨rfl, b2.out⟩

set_option maxRecDepth 100000 in
set_option maxHeartbeats 8000000 in
theorem dead_main (A0 : Option Addr) (c0 : Nat) (l : List Step12) (slot at' more : Int) (w : World) (hr : Kd.C kStep12 w A0 l.length l) (hc : l.length ≤ c0) (h1 : l.length ≤ 120) (h2 : 0 ≤ at') (h3 : at' ≤ 1000) :
    Calls Try.prog 8 #[.slice A0 l.length c0, .int .i64 slot, .int .i64 at', .int .i64 more] w fun e w' => e = .returned (.bool true) ∧ Below w.heap.size w w' := by
  have hlg := long_calls A0 l.length c0 w
  have haw := awake_calls w
  rw [decide_eq_false (show ¬ 120 < l.length by omega)] at hlg
  have b2 : decide (at' < 0) = false := decide_eq_false (by omega)
  have b3 : decide (1000 < at') = false := decide_eq_false (by omega)
  have HR := Aside0.mk hr
  have HL := Aside0.mk (And.intro h1 (And.intro h2 h3))
  clear hr hc h1 h2 h3
  go_enter Try.func8, Try.ntmps8
  go_wp2_with fail
  refine hlg.mono ?_
  clear hlg
  rintro e w1 ⟨rfl, hw⟩
  obtain rfl := hw.symm
  go_wp2_with fail
  refine haw.mono ?_
  clear haw
  rintro e w2 ⟨rfl, bA⟩
  replace bA := Aside0.mk bA
  go_wp2_with fail
  refine (new_calls w2).mono ?_
  rintro e w3 ⟨h, rfl, h1, b1⟩
  replace h1 := Aside0.mk (And.intro h1 b1)
  clear b1
  go_wp2_with fail
  refine (xnew_calls w3).mono ?_
  rintro e w4 ⟨rfl, t2, b4, hsz⟩
  have HQ := Aside0.mk (Sg.start w2 h1.out.1 h1.out.2 t2 b4)
  clear h1 t2 b4 hsz
  obtain ⟨x, hx⟩ : ∃ x, w3.heap.size = x := ⟨_, rfl⟩
  rw [hx] at HQ ⊢
  clear hx
  go_wp2
  go_loopw [11] (fun v11 wr => ∃ (i : Nat) (A : AH) (T : TT), i ≤ l.length ∧ v11 = .int .i64 i ∧ Aside0 (Sg w2 wr h x A T i)) (fun v11 _ => l.length - (intOf v11).toNat)
  case atStart => exact ⟨0, AH.empty, TT.empty, Nat.zero_le _, rfl, HQ⟩
  case round =>
    obtain ⟨i, A, T, hi, rfl, HS⟩ := hrel
    by_cases hlt : i < l.length
    · have d1 : decide ((i : Int) < (l.length : Int)) = true := decide_eq_true (by omega)
      have d1b : decide (i < l.length) = true := decide_eq_true hlt
      have d2 : (0 : Int) ≤ (i : Int) := by omega
      have d3 : (i : Int) < (l.length : Int) := by omega
      obtain ⟨ad, s, e1, hcells⟩ := cells12 HR.out i d3
      cases e1
      obtain ⟨x0, x1, x2, x3, x4⟩ := hcells wr (bA.out.trans (HS.out.bel.mono bA.out.size))
      have hdo := do12_calls w2 wr h x A T i s HS.out (by have := HL.out.1; omega)
      have HLT := Aside0.mk hlt
      have hmi := Aside0.mk (meas_step hlt)
      clear hcells hlt
      go_wp2_with fail
      refine hdo.mono ?_
      clear hdo x0 x1 x2 x3 x4
      rintro e w5 ⟨⟨v5, rfl⟩, H5⟩
      replace H5 := Aside0.mk H5
      have hwi : IntKind.wrap .i64 ((i : Int) + 1) = (i : Int) + 1 := by have := HL.out.1; have := HLT.out; rw [IntKind.wrap_i64]; omega
      go_wp2
      go_roundw
      case measure => exact hmi.out
      case rel => exact ⟨i + 1, _, _, HLT.out, by simp, H5⟩
    · have d1 : decide ((i : Int) < (l.length : Int)) = false := decide_eq_false (by omega)
      have d1b : decide (i < l.length) = false := decide_eq_false hlt
      clear hlt
      obtain ⟨F, Fx, H⟩ := HS.out
      have hk : i < 2147483648 := by have := HL.out.1; omega
      have L := H.look hk
      have hB := Aside0.mk (bA.out.trans (H.bel.mono bA.out.size))
      have hat := at_calls h slot A F wr H.heap (H.lim.low slot)
      have hdead := Aside0.mk (fun W (hb : Below wr.heap.size wr W) (a : Int) => (L.below hb).dead a slot)
      have hle := later_ge at' more HL.out.2.1 HL.out.2.2
      go_upto_region 9 with (fail)
      generalize wrap64 (at' + wrap64 ((IntKind.u64.wrap more).tmod 10)) = later at hle ⊢
      cases hth : A.there slot with
      | false =>
        rw [hth] at hat
        rw [show A.atE slot = zTup from by unfold AH.atE; rw [hth]; rfl] at hat
        have hdn : ∀ a, A.dead T a slot = false := fun a => by unfold AH.dead; rw [hth]; rfl
        replace hdn := Aside0.mk hdn
        clear H L hth HS hle
        go_wp2_with fail
        refine hat.mono ?_
        clear hat
        rintro e w5 ⟨v5, rfl, hv5, b5⟩
        obtain ⟨a5, c5, e5⟩ := Kd.R_slice hv5
        subst e5
        have b6 := b5.alloc b5.size (.cells #[.int .i64 zTup.f0, .int .i64 zTup.f1, .int .i64 zTup.f2, .int .i64 zTup.f3, .int .i64 zTup.f4, .int .i64 zTup.f5, .slice a5 zTup.f6.length c5] 39)
        have hd := hdead.out _ b6 at'
        rw [hdn.out] at hd
        replace b6 := Aside0.mk b6
        clear hv5 b5
        go_wp2_with fail
        refine hd.mono ?_
        clear hd
        rintro e w7 ⟨rfl, b7⟩
        have b8 := Aside0.mk (hB.out.trans ((b6.out.trans (b7.mono b6.out.size)).mono hB.out.size))
        clear b7
        go_wp2
        go_ret
        exact ⟨by simp, b8.out⟩
      | true =>
        rw [hth] at hat
        rw [show A.atE slot = A.at slot from by unfold AH.atE; rw [if_pos hth]] at hat
        have hkw := there_okW H.heap H.ok hth
        have hsee := Aside0.mk (fun W (hb : Below wr.heap.size wr W) => (L.below hb).seen later 0 (A.at slot).f0 (A.at slot).f1 hkw)
        have hpl := Aside0.mk (fun (hd : A.dead T at' slot = true) => And.intro (AH.dead_more hd hle) (AH.dead_unseen hd hle (A.at slot).f0 (A.at slot).f1))
        clear H L HS hle hkw hth
        generalize A.at slot = t at hat hsee hpl
        generalize hdq : A.dead T at' slot = dq at hpl
        generalize hdl : A.dead T later slot = dl at hpl
        generalize A.seen T later 0 t.f0 t.f1 = sn at hsee hpl
        have hd1 := Aside0.mk (fun W (hb : Below wr.heap.size wr W) => hdead.out W hb at')
        have hd2 := Aside0.mk (fun W (hb : Below wr.heap.size wr W) => hdead.out W hb later)
        rw [hdq] at hd1
        rw [hdl] at hd2
        clear hdead hdq hdl
        go_wp2_with fail
        refine hat.mono ?_
        clear hat
        rintro e w5 ⟨v5, rfl, hv5, b5⟩
        obtain ⟨a5, c5, e5⟩ := Kd.R_slice hv5
        subst e5
        have b6 := b5.alloc b5.size (.cells #[.int .i64 t.f0, .int .i64 t.f1, .int .i64 t.f2, .int .i64 t.f3, .int .i64 t.f4, .int .i64 t.f5, .slice a5 t.f6.length c5] 39)
        have bX := blk_new w5 (.cells #[.int .i64 t.f0, .int .i64 t.f1, .int .i64 t.f2, .int .i64 t.f3, .int .i64 t.f4, .int .i64 t.f5, .slice a5 t.f6.length c5] 39)
        obtain ⟨w6, hw6⟩ : ∃ w6, w5.alloc (.cells #[.int .i64 t.f0, .int .i64 t.f1, .int .i64 t.f2, .int .i64 t.f3, .int .i64 t.f4, .int .i64 t.f5, .slice a5 t.f6.length c5] 39) = w6 := ⟨_, rfl⟩
        rw [hw6] at b6 bX
        have hd := hd1.out w6 b6
        have HB6 := Aside0.mk (And.intro b6 bX)
        clear hv5 b5 b6 bX
        go_wp2_with fail
        refine hd.mono ?_
        clear hd hw6
        rintro e w7 ⟨rfl, b7⟩
        have b8 := HB6.out.1.trans (b7.mono HB6.out.1.size)
        have bX := blk_below HB6.out.2 b7
        cases dq with
        | false =>
          replace b8 := Aside0.mk (hB.out.trans (b8.mono hB.out.size))
          clear b7 bX
          go_wp2
          go_ret
          exact ⟨by simp, b8.out⟩
        | true =>
          obtain ⟨hp1, hp2⟩ := hpl.out rfl
          subst hp1
          have b9 := b8.alloc b8.size (.cells #[.int .i64 later, .int .i64 0] 52)
          have bX2 := blk_alloc bX (.cells #[.int .i64 later, .int .i64 0] 52)
          have hsn := hsee.out _ b9
          obtain ⟨w8, hw8⟩ : ∃ w8, w7.alloc (.cells #[.int .i64 later, .int .i64 0] 52) = w8 := ⟨_, rfl⟩
          have hvb := blk_new w7 (.cells #[.int .i64 later, .int .i64 0] 52)
          rw [hw8] at b9 bX2 hsn hvb
          have q0 := blk_cell bX2 0
          have q1 := blk_cell bX2 1
          have v0 := blk_cell hvb 0
          have v1 := blk_cell hvb 1
          simp at q0 q1 v0 v1
          have HQ8 := Aside0.mk (And.intro q0 (And.intro q1 (And.intro v0 (And.intro v1 hw8))))
          clear q0 q1 v0 v1 hw8
          replace b9 := Aside0.mk b9
          clear b7 b8 bX2 hvb
          have qq0 := blk_cell bX 0
          clear qq0 bX
          go_upto_region 15 with (fail)
          rw [HQ8.out.2.2.2.2]
          obtain ⟨q0, q1, v0, v1, _⟩ := HQ8.out
          go_wp2_with fail
          refine hsn.mono ?_
          clear hsn q0 q1 v0 v1
          rintro e w9 ⟨rfl, b10⟩
          have b11 := b9.out.trans (b10.mono b9.out.size)
          have hd3 := hd2.out w9 b11
          replace b11 := Aside0.mk b11
          clear b10
          have hne : (sn.isSome && (sn.getD 0 == slot)) = false := by
            cases sn with
            | none => rfl
            | some s =>
              have : s ≠ slot := fun e => hp2 (by rw [e])
              simp [this]
          clear hp2 hpl hd1 hd2 hsee
          generalize sn.getD 0 = s1 at hne ⊢
          generalize sn.isSome = s2 at hne ⊢
          go_wp2_with fail
          refine hd3.mono ?_
          clear hd3
          rintro e w10 ⟨rfl, b12⟩
          have b13 := Aside0.mk (hB.out.trans ((b11.out.trans (b12.mono b11.out.size)).mono hB.out.size))
          clear b12
          cases s2 with
          | false =>
            go_wp2
            go_ret
            exact ⟨by simp, b13.out⟩
          | true =>
            have hne2 : (s1 == slot) = false := by simpa using hne
            clear hne
            go_wp2
            go_ret
            exact ⟨by simp, b13.out⟩

theorem dead_law (A0 : Option Addr) (c0 : Nat) (l : List Step12) (slot at' more : Int) (w : World) (hr : Kd.C kStep12 w A0 l.length l) (hc : l.length ≤ c0) :
    Calls Try.prog 8 #[.slice A0 l.length c0, .int .i64 slot, .int .i64 at', .int .i64 more] w fun e w' => e = .returned (.bool true) ∧ Below w.heap.size w w' := by
  by_cases hG : 120 < l.length ∨ at' < 0 ∨ 1000 < at'
  · exact dead_early A0 l.length c0 slot at' more w hG
  · exact dead_main A0 c0 l slot at' more w hr hc (by omega) (by omega) (by omega)
end Go.Proofs.Ytljahhgankcalaa

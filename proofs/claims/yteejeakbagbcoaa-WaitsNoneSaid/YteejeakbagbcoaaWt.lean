import Derived.Test.YteejeakbagbcoaaWr
import Derived.Deep.RegionHeld3
/-! WaitsBoth, walked. -/
namespace Go.Proofs.Yteejeakbagbcoaa
open Go.RowKit Go.Maps Go.MapKept Go.WideMaps
open Go.Proofs.YteejeakbagbcoaaW.PrintWords Go.Proofs.YteejeakbagbcoaaW.PrintLast Go.Proofs.YteejeakbagbcoaaW.PrintMore
set_option linter.unusedVariables false
set_option linter.unusedSimpArgs false

/-- What the three tell of one another. -/
theorem circle_of {es : Edges} {a x : Int} {l l' : List Int} (h : IsCircle es a l) (hx : x ∈ l) (h' : IsCircle es x l') : l' = l :=
  rise_ext h'.1 h.1 (fun y => by
    obtain ⟨p1, p2⟩ := (h.2 x).1 hx
    rw [h'.2, h.2]
    exact ⟨fun ⟨q1, q2⟩ => ⟨p1.trans q1, q2.trans p2⟩, fun ⟨q1, q2⟩ => ⟨p2.trans q1, q2.trans p1⟩⟩)
theorem circle_any {es : Edges} {a x : Int} {l m : List Int} (h : IsCircle es a l) (hm : IsAny es m) (hx : x ∈ l) : x ∈ m := by
  obtain ⟨p1, p2⟩ := (h.2 x).1 hx
  exact (hm.2 x).2 (p2.trans p1)
theorem any_circle {es : Edges} {x : Int} {c m : List Int} (hm : IsAny es m) (h : IsCircle es x c) : (x ∈ c) = (x ∈ m) := by
  rw [hm.2, h.2]
  exact propext ⟨fun h => h.1, fun h => ⟨h, h⟩⟩
theorem any_reach {es : Edges} {x : Int} {c m : List Int} (hm : IsAny es m) (h : IsReach es x c) : (x ∈ c) = (x ∈ m) := by
  rw [hm.2, h.2]
theorem circle_self {es : Edges} {a x : Int} {l : List Int} (h : IsCircle es a l) (hx : x ∈ l) : a ∈ l := by
  obtain ⟨p1, p2⟩ := (h.2 x).1 hx
  exact (h.2 a).2 ⟨p1.trans p2, p1.trans p2⟩
theorem path_ok {es : Edges} {a x : Int} (hok : ∀ e ∈ es, okI e.1 ∧ okI e.2) (h : Path es a x) : okI x := by
  obtain ⟨c, hc, _⟩ := h.last
  exact (hok _ hc).2
theorem rise_at {l : List Int} (h : l.Pairwise (· < ·)) {i : Nat} (hi : i + 1 < l.length) : l[i] < l[i + 1] := List.pairwise_iff_getElem.1 h i (i + 1) (by omega) hi (by omega)

set_option maxRecDepth 100000 in
set_option maxHeartbeats 2000000 in
theorem both_law (A0 : Option Addr) (c0 : Nat) (es : Edges) (a : Int) (w : World) (hr : Kd.C kEdge w A0 es.length es) (hc : es.length ≤ c0) (hok : ∀ e ∈ es, okI e.1 ∧ okI e.2) (ha : okI a) (hl : es.length < 4611686018427387904) :
    Calls Try.prog 5 #[.slice A0 es.length c0, .int .i64 a] w fun e w' => e = .returned (.bool true) ∧ Below w.heap.size w w' := by
  have HR := Aside0.mk hr
  have HC := Aside0.mk hc
  have HOK := Aside0.mk hok
  have HA := Aside0.mk ha
  clear hr hc hok ha
  go_enter Try.func5, Try.ntmps5
  go_wp2_with fail
  refine (works_calls w).mono ?_
  rintro e w1 ⟨rfl, hB⟩
  have HB1 := Aside0.mk hB
  clear hB
  by_cases hbig : 60 < es.length
  · have d1 : decide ((60 : Int) < (es.length : Int)) = true := decide_eq_true (by omega)
    have d2 : (60 : Int) < (es.length : Int) := by omega
    go_wp2_with fail
    refine (works_calls w1).mono ?_
    rintro e w2 ⟨rfl, hB⟩
    have HB2 := Aside0.mk (HB1.out.trans (hB.mono HB1.out.size))
    clear hB
    go_wp2
    go_ret
    exact ⟨rfl, HB2.out⟩
  · have d1 : decide ((60 : Int) < (es.length : Int)) = false := decide_eq_false (by omega)
    have d2 : ¬ (60 : Int) < (es.length : Int) := by omega
    have HE : ∀ W, Below w.heap.size w W → Edg W A0 c0 es := fun W hB => ⟨Kd.C_below HR.out hB, HC.out, HOK.out, by omega⟩
    replace HE := Aside0.mk HE
    have n := circle_calls A0 c0 es a w1 (HE.out w1 HB1.out) HA.out
    go_wp2_with fail
    refine n.mono ?_
    clear n
    rintro e w2 ⟨v2, l, rfl, hL, hR2, hB2⟩
    obtain ⟨a2, c2, rfl, _, hr2⟩ := Kd.R_reads hR2
    have HB2 := Aside0.mk (HB1.out.trans (hB2.mono HB1.out.size))
    have n := any_calls A0 c0 es w2 (HE.out w2 HB2.out)
    have hll := short_circle hL
    have HL := Aside0.mk hL
    replace hr2 := Aside0.mk hr2
    clear hL hR2 hB2
    go_wp2_with fail
    refine n.mono ?_
    clear n
    rintro e w3 ⟨v3, m, rfl, hM, hR3, hB3⟩
    obtain ⟨a3, c3, rfl, _, hr3⟩ := Kd.R_reads hR3
    have HB3 := Aside0.mk (HB2.out.trans (hB3.mono HB2.out.size))
    have C2 := Aside0.mk (Kd.C_below hr2.out hB3)
    have C3 := Aside0.mk hr3
    have hml := short_any hM
    have HM := Aside0.mk hM
    have HS3 := Aside0.mk HB3.out.size
    have hll1 : l.length ≤ 60 := by omega
    have hml1 : m.length ≤ 60 := by omega
    clear hM hR3 hB3 hr2 hr3
    go_wp2
    go_loopw [7] (fun v7 wr => ∃ (i : Nat), i ≤ l.length ∧ v7 = .int .i64 i ∧ Aside0 (Below w3.heap.size w3 wr)) (fun v7 _ => l.length - (intOf v7).toNat)
    case atStart => exact ⟨0, Nat.zero_le _, rfl, ⟨Below.refl _ _⟩⟩
    case round =>
      obtain ⟨i, hi, rfl, HB⟩ := hrel
      by_cases hil : i < l.length
      · have g1 : decide ((i : Int) < (l.length : Int)) = true := decide_eq_true (by omega)
        have g2 : (0 : Int) ≤ (i : Int) := by omega
        have g3 : (i : Int) < (l.length : Int) := by omega
        have g4 : (i : Int) ≤ 60 := by omega
        have hxm : l[i] ∈ l := List.getElem_mem hil
        obtain ⟨ad, e1, y0⟩ := int_C (Kd.C_below C2.out HB.out) hil
        have n := fun (W : World) (hb : Below wr.heap.size wr W) => circle_calls A0 c0 es l[i] W (HE.out W (HB3.out.trans ((HB.out.trans (hb.mono HB.out.size)).mono HB3.out.size))) (path_ok HOK.out ((HL.out.2 l[i]).1 hxm).1)
        have n := Aside0.mk n
        have HX := Aside0.mk hxm
        have HX2 := Aside0.mk (circle_any HL.out HM.out hxm)
        have HCO := Aside0.mk (fun l' => circle_of (l' := l') HL.out hxm)
        have hup : i = 0 ∨ ∃ (q : Nat) (z : Int), i = q + 1 ∧ wr.cell? (ad.add q) = some (.int .i64 z) ∧ z < l[i] := by
          cases i with
          | zero => exact .inl rfl
          | succ q =>
            refine .inr ⟨q, l[q], rfl, ?_, rise_at HL.out.1 hil⟩
            obtain ⟨ad', e2, y1⟩ := int_C (Kd.C_below C2.out HB.out) (show q < l.length by omega)
            rw [e1] at e2
            cases e2
            exact y1
        subst e1
        generalize l[i] = x at *
        clear hxm
        rcases hup with hi0 | ⟨q, z, hiq, yq, hzx⟩
        · subst hi0
          have g8 : decide ((0 : Int) < 0) = false := by decide
          have y0 : wr.cell? ad = some (.int .i64 x) := y0
          go_upto_region 8 with (fail)
          refine wp_region_held_drew (S := fun w' => w'.cell? ad = some (.int .i64 x)) (by kernel_rfl) ?_ (fun hHeld => ?_)
          · go_keep
          refine wpAnyH_take (i := 0) (v := ?_) rfl (by kernel_rfl) (by kernel_rfl) (by kernel_rfl) (fun _ _ _ h => h) (Or.inl ⟨by rfl, ?_⟩) (by assumption) ?_
          rotate_left
          · intro w hSw
            try dsimp only at hSw
            go_simp
            try with_reducible rfl
          try simp only [Act.put, List.getElem_toArray, List.getElem_cons_zero, List.getElem_cons_succ, List.setIfInBounds_toArray, List.set_cons_zero, List.set_cons_succ]
          refine wpAnyH_take (i := 1) (v := ?_) rfl (by kernel_rfl) (by kernel_rfl) (by kernel_rfl) (fun _ _ _ h => h) (Or.inl ⟨by rfl, ?_⟩) (by assumption) ?_
          rotate_left
          · intro w hSw
            try dsimp only at hSw
            go_simp
            try with_reducible rfl
          try simp only [Act.put, List.getElem_toArray, List.getElem_cons_zero, List.getElem_cons_succ, List.setIfInBounds_toArray, List.set_cons_zero, List.set_cons_succ]
          refine wpAnyH_take (i := 2) (v := ?_) rfl (by kernel_rfl) (by kernel_rfl) (by kernel_rfl) (fun _ _ _ h => h) (Or.inl ⟨by rfl, ?_⟩) (by assumption) ?_
          rotate_left
          · intro w hSw
            try dsimp only at hSw
            go_simp
            try with_reducible rfl
          try simp only [Act.put, List.getElem_toArray, List.getElem_cons_zero, List.getElem_cons_succ, List.setIfInBounds_toArray, List.set_cons_zero, List.set_cons_succ]
          refine wpAnyH_take (i := 3) (v := ?_) rfl (by kernel_rfl) (by kernel_rfl) (by kernel_rfl) (fun _ _ _ h => h) (Or.inl ⟨by rfl, ?_⟩) (by assumption) ?_
          rotate_left
          · intro w hSw
            try dsimp only at hSw
            go_simp
            try with_reducible rfl
          try simp only [Act.put, List.getElem_toArray, List.getElem_cons_zero, List.getElem_cons_succ, List.setIfInBounds_toArray, List.set_cons_zero, List.set_cons_succ]
          refine wpAnyH_take (i := 4) (v := ?_) rfl (by kernel_rfl) (by kernel_rfl) (by kernel_rfl) (fun _ _ _ h => h) (Or.inl ⟨by rfl, ?_⟩) (by assumption) ?_
          rotate_left
          · intro w hSw
            try dsimp only at hSw
            go_simp
            try with_reducible rfl
          try simp only [Act.put, List.getElem_toArray, List.getElem_cons_zero, List.getElem_cons_succ, List.setIfInBounds_toArray, List.set_cons_zero, List.set_cons_succ]
          refine wpAnyH_take (i := 6) (v := ?_) rfl (by kernel_rfl) (by kernel_rfl) (by kernel_rfl) (fun _ _ _ h => h) (Or.inl ⟨by rfl, ?_⟩) (by assumption) ?_
          rotate_left
          · intro w hSw
            try dsimp only at hSw
            go_simp
            try with_reducible rfl
          try simp only [Act.put, List.getElem_toArray, List.getElem_cons_zero, List.getElem_cons_succ, List.setIfInBounds_toArray, List.set_cons_zero, List.set_cons_succ]
          refine wpAnyH_ready (rs := [5]) (by kernel_rfl) (by simp) ?_
          refine AllReadyH.cons rfl (fun K hK => ?_) AllReadyH.nil
          go_simp
          (go_at_call 12; refine (n.out _ (Below.refl _ _).drew).mono ?_; rintro e w4 ⟨v4, l4, rfl, hC4, hR4, hB4⟩; replace hB4 : Below wr.heap.size wr w4 := ⟨hB4.os, hB4.tape, hB4.output, hB4.size, hB4.block⟩; obtain ⟨a4, c4, rfl, _, hr4⟩ := Kd.R_reads hR4; obtain rfl := (HCO.out _ hC4).symm; have r0 := (hB4.cell (p := ad) (World.block_lt_of_cell? _ _ y0)).trans y0; have HB4 := Aside0.mk (HB.out.trans (hB4.mono HB.out.size)); have nI := Aside0.mk (is_same a4 _ c4 c2 l w4 hr4 (Kd.C_below C2.out HB4.out) (by omega)); clear hC4 hR4 hB4 hr4)
          refine hK.out _ _ ?_ (fun hHeld => ?_)
          · go_keep
          clear hK K
          try simp only [Act.put, List.getElem_toArray, List.getElem_cons_zero, List.getElem_cons_succ, List.setIfInBounds_toArray, List.set_cons_zero, List.set_cons_succ]
          refine wpAnyH_ready (rs := [7]) (by kernel_rfl) (by simp) ?_
          refine AllReadyH.cons rfl (fun K hK => ?_) AllReadyH.nil
          go_simp
          (go_at_call 11; refine nI.out.mono ?_; rintro e w5 ⟨rfl, hB5⟩; have s0 := (hB5.cell (p := ad) (World.block_lt_of_cell? _ _ r0)).trans r0; have HB5 := Aside0.mk (HB4.out.trans (hB5.mono HB4.out.size)); have nH := Aside0.mk (has_calls a3 c3 m x w5 (Kd.C_below C3.out HB5.out) (by omega)); clear hB5)
          refine hK.out _ _ ?_ (fun hHeld => ?_)
          · go_keep
          clear hK K
          try simp only [Act.put, List.getElem_toArray, List.getElem_cons_zero, List.getElem_cons_succ, List.setIfInBounds_toArray, List.set_cons_zero, List.set_cons_succ]
          refine wpAnyH_take (i := 8) (v := ?_) rfl (by kernel_rfl) (by kernel_rfl) (by kernel_rfl) (fun _ _ _ h => h) (Or.inl ⟨by rfl, ?_⟩) (by assumption) ?_
          rotate_left
          · intro w hSw
            try dsimp only at hSw
            go_simp
            try with_reducible rfl
          try simp only [Act.put, List.getElem_toArray, List.getElem_cons_zero, List.getElem_cons_succ, List.setIfInBounds_toArray, List.set_cons_zero, List.set_cons_succ]
          refine wpAnyH_take (i := 9) (v := ?_) rfl (by kernel_rfl) (by kernel_rfl) (by kernel_rfl) (fun _ _ _ h => h) (Or.inl ⟨by rfl, ?_⟩) (by assumption) ?_
          rotate_left
          · intro w hSw
            try dsimp only at hSw
            go_simp
            try with_reducible rfl
          try simp only [Act.put, List.getElem_toArray, List.getElem_cons_zero, List.getElem_cons_succ, List.setIfInBounds_toArray, List.set_cons_zero, List.set_cons_succ]
          refine wpAnyH_take (i := 10) (v := ?_) rfl (by kernel_rfl) (by kernel_rfl) (by kernel_rfl) (fun _ _ _ h => h) (Or.inl ⟨by rfl, ?_⟩) (by assumption) ?_
          rotate_left
          · intro w hSw
            try dsimp only at hSw
            go_simp
            try with_reducible rfl
          try simp only [Act.put, List.getElem_toArray, List.getElem_cons_zero, List.getElem_cons_succ, List.setIfInBounds_toArray, List.set_cons_zero, List.set_cons_succ]
          refine wpAnyH_take (i := 11) (v := ?_) rfl (by kernel_rfl) (by kernel_rfl) (by kernel_rfl) (fun _ _ _ h => h) (Or.inl ⟨by rfl, ?_⟩) (by assumption) ?_
          rotate_left
          · intro w hSw
            try dsimp only at hSw
            go_simp
            try with_reducible rfl
          try simp only [Act.put, List.getElem_toArray, List.getElem_cons_zero, List.getElem_cons_succ, List.setIfInBounds_toArray, List.set_cons_zero, List.set_cons_succ]
          refine wpAnyH_take (i := 12) (v := ?_) rfl (by kernel_rfl) (by kernel_rfl) (by kernel_rfl) (fun _ _ _ h => h) (Or.inl ⟨by rfl, ?_⟩) (by assumption) ?_
          rotate_left
          · intro w hSw
            try dsimp only at hSw
            go_simp
            try with_reducible rfl
          try simp only [Act.put, List.getElem_toArray, List.getElem_cons_zero, List.getElem_cons_succ, List.setIfInBounds_toArray, List.set_cons_zero, List.set_cons_succ]
          refine wpAnyH_take (i := 13) (v := ?_) rfl (by kernel_rfl) (by kernel_rfl) (by kernel_rfl) (fun _ _ _ h => h) (Or.inl ⟨by rfl, ?_⟩) (by assumption) ?_
          rotate_left
          · intro w hSw
            try dsimp only at hSw
            go_simp
            try with_reducible rfl
          try simp only [Act.put, List.getElem_toArray, List.getElem_cons_zero, List.getElem_cons_succ, List.setIfInBounds_toArray, List.set_cons_zero, List.set_cons_succ]
          refine wpAnyH_take (i := 14) (v := ?_) rfl (by kernel_rfl) (by kernel_rfl) (by kernel_rfl) (fun _ _ _ h => h) (Or.inl ⟨by rfl, ?_⟩) (by assumption) ?_
          rotate_left
          · intro w hSw
            try dsimp only at hSw
            go_simp
            try with_reducible rfl
          try simp only [Act.put, List.getElem_toArray, List.getElem_cons_zero, List.getElem_cons_succ, List.setIfInBounds_toArray, List.set_cons_zero, List.set_cons_succ]
          refine wpAnyH_ready (rs := [15]) (by kernel_rfl) (by simp) ?_
          refine AllReadyH.cons rfl (fun K hK => ?_) AllReadyH.nil
          go_simp
          (go_at_call 21; refine nH.out.mono ?_; rintro e w6 ⟨rfl, hw6⟩; rw [decide_eq_true HX2.out]; subst hw6)
          refine hK.out _ _ ?_ (fun hHeld => ?_)
          · go_keep
          clear hK K
          try simp only [Act.put, List.getElem_toArray, List.getElem_cons_zero, List.getElem_cons_succ, List.setIfInBounds_toArray, List.set_cons_zero, List.set_cons_succ]
          refine wpAnyH_take (i := 16) (v := ?_) rfl (by kernel_rfl) (by kernel_rfl) (by kernel_rfl) (fun _ _ _ h => h) (Or.inl ⟨by rfl, ?_⟩) (by assumption) ?_
          rotate_left
          · intro w hSw
            try dsimp only at hSw
            go_simp
            try with_reducible rfl
          try simp only [Act.put, List.getElem_toArray, List.getElem_cons_zero, List.getElem_cons_succ, List.setIfInBounds_toArray, List.set_cons_zero, List.set_cons_succ]
          refine wpAnyH_take (i := 17) (v := ?_) rfl (by kernel_rfl) (by kernel_rfl) (by kernel_rfl) (fun _ _ _ h => h) (Or.inl ⟨by rfl, ?_⟩) (by assumption) ?_
          rotate_left
          · intro w hSw
            try dsimp only at hSw
            go_simp
            try with_reducible rfl
          try simp only [Act.put, List.getElem_toArray, List.getElem_cons_zero, List.getElem_cons_succ, List.setIfInBounds_toArray, List.set_cons_zero, List.set_cons_succ]
          refine wpAnyH_take (i := 18) (v := ?_) rfl (by kernel_rfl) (by kernel_rfl) (by kernel_rfl) (fun _ _ _ h => h) (Or.inl ⟨by rfl, ?_⟩) (by assumption) ?_
          rotate_left
          · intro w hSw
            try dsimp only at hSw
            go_simp
            try with_reducible rfl
          try simp only [Act.put, List.getElem_toArray, List.getElem_cons_zero, List.getElem_cons_succ, List.setIfInBounds_toArray, List.set_cons_zero, List.set_cons_succ]
          refine wpAnyH_take (i := 19) (v := ?_) rfl (by kernel_rfl) (by kernel_rfl) (by kernel_rfl) (fun _ _ _ h => h) (Or.inl ⟨by rfl, ?_⟩) (by assumption) ?_
          rotate_left
          · intro w hSw
            try dsimp only at hSw
            go_simp
            try with_reducible rfl
          try simp only [Act.put, List.getElem_toArray, List.getElem_cons_zero, List.getElem_cons_succ, List.setIfInBounds_toArray, List.set_cons_zero, List.set_cons_succ]
          refine wpAnyH_take (i := 20) (v := ?_) rfl (by kernel_rfl) (by kernel_rfl) (by kernel_rfl) (fun _ _ _ h => h) (Or.inl ⟨by rfl, ?_⟩) (by assumption) ?_
          rotate_left
          · intro w hSw
            try dsimp only at hSw
            go_simp
            try with_reducible rfl
          try simp only [Act.put, List.getElem_toArray, List.getElem_cons_zero, List.getElem_cons_succ, List.setIfInBounds_toArray, List.set_cons_zero, List.set_cons_succ]
          refine wpAnyH_take (i := 21) (v := ?_) rfl (by kernel_rfl) (by kernel_rfl) (by kernel_rfl) (fun _ _ _ h => h) (Or.inl ⟨by rfl, ?_⟩) (by assumption) ?_
          rotate_left
          · intro w hSw
            try dsimp only at hSw
            go_simp
            try with_reducible rfl
          try simp only [Act.put, List.getElem_toArray, List.getElem_cons_zero, List.getElem_cons_succ, List.setIfInBounds_toArray, List.set_cons_zero, List.set_cons_succ]
          refine wpAnyH_take (i := 22) (v := _) rfl (by kernel_rfl) (by kernel_rfl) (by kernel_rfl) (fun _ _ _ h => h) (Or.inr ⟨by rfl, rfl⟩) (by assumption) ?_
          try simp only [Act.put, List.getElem_toArray, List.getElem_cons_zero, List.getElem_cons_succ, List.setIfInBounds_toArray, List.set_cons_zero, List.set_cons_succ]
          refine wpAnyH_take (i := 23) (v := _) rfl (by kernel_rfl) (by kernel_rfl) (by kernel_rfl) (fun _ _ _ h => h) (Or.inr ⟨by rfl, rfl⟩) (by assumption) ?_
          try simp only [Act.put, List.getElem_toArray, List.getElem_cons_zero, List.getElem_cons_succ, List.setIfInBounds_toArray, List.set_cons_zero, List.set_cons_succ]
          refine wpAnyH_take (i := 24) (v := _) rfl (by kernel_rfl) (by kernel_rfl) (by kernel_rfl) (fun _ _ _ h => h) (Or.inr ⟨by rfl, rfl⟩) (by assumption) ?_
          try simp only [Act.put, List.getElem_toArray, List.getElem_cons_zero, List.getElem_cons_succ, List.setIfInBounds_toArray, List.set_cons_zero, List.set_cons_succ]
          refine wpAnyH_take (i := 25) (v := _) rfl (by kernel_rfl) (by kernel_rfl) (by kernel_rfl) (fun _ _ _ h => h) (Or.inr ⟨by rfl, rfl⟩) (by assumption) ?_
          try simp only [Act.put, List.getElem_toArray, List.getElem_cons_zero, List.getElem_cons_succ, List.setIfInBounds_toArray, List.set_cons_zero, List.set_cons_succ]
          refine wpAnyH_take (i := 26) (v := _) rfl (by kernel_rfl) (by kernel_rfl) (by kernel_rfl) (fun _ _ _ h => h) (Or.inr ⟨by rfl, rfl⟩) (by assumption) ?_
          try simp only [Act.put, List.getElem_toArray, List.getElem_cons_zero, List.getElem_cons_succ, List.setIfInBounds_toArray, List.set_cons_zero, List.set_cons_succ]
          refine wpAnyH_take (i := 27) (v := _) rfl (by kernel_rfl) (by kernel_rfl) (by kernel_rfl) (fun _ _ _ h => h) (Or.inr ⟨by rfl, rfl⟩) (by assumption) ?_
          try simp only [Act.put, List.getElem_toArray, List.getElem_cons_zero, List.getElem_cons_succ, List.setIfInBounds_toArray, List.set_cons_zero, List.set_cons_succ]
          refine wpAnyH_take (i := 28) (v := _) rfl (by kernel_rfl) (by kernel_rfl) (by kernel_rfl) (fun _ _ _ h => h) (Or.inr ⟨by rfl, rfl⟩) (by assumption) ?_
          try simp only [Act.put, List.getElem_toArray, List.getElem_cons_zero, List.getElem_cons_succ, List.setIfInBounds_toArray, List.set_cons_zero, List.set_cons_succ]
          refine wpAnyH_take (i := 29) (v := _) rfl (by kernel_rfl) (by kernel_rfl) (by kernel_rfl) (fun _ _ _ h => h) (Or.inr ⟨by rfl, rfl⟩) (by assumption) ?_
          try simp only [Act.put, List.getElem_toArray, List.getElem_cons_zero, List.getElem_cons_succ, List.setIfInBounds_toArray, List.set_cons_zero, List.set_cons_succ]
          refine wpAnyH_take (i := 30) (v := _) rfl (by kernel_rfl) (by kernel_rfl) (by kernel_rfl) (fun _ _ _ h => h) (Or.inr ⟨by rfl, rfl⟩) (by assumption) ?_
          try simp only [Act.put, List.getElem_toArray, List.getElem_cons_zero, List.getElem_cons_succ, List.setIfInBounds_toArray, List.set_cons_zero, List.set_cons_succ]
          refine wpAnyH_take (i := 31) (v := _) rfl (by kernel_rfl) (by kernel_rfl) (by kernel_rfl) (fun _ _ _ h => h) (Or.inr ⟨by rfl, rfl⟩) (by assumption) ?_
          try simp only [Act.put, List.getElem_toArray, List.getElem_cons_zero, List.getElem_cons_succ, List.setIfInBounds_toArray, List.set_cons_zero, List.set_cons_succ]
          refine wpAnyH_take (i := 32) (v := ?_) rfl (by kernel_rfl) (by kernel_rfl) (by kernel_rfl) (fun _ _ _ h => h) (Or.inl ⟨by rfl, ?_⟩) (by assumption) ?_
          rotate_left
          · intro w hSw
            try dsimp only at hSw
            go_simp
            try with_reducible rfl
          try simp only [Act.put, List.getElem_toArray, List.getElem_cons_zero, List.getElem_cons_succ, List.setIfInBounds_toArray, List.set_cons_zero, List.set_cons_succ]
          refine wpAnyH_take (i := 33) (v := ?_) rfl (by kernel_rfl) (by kernel_rfl) (by kernel_rfl) (fun _ _ _ h => h) (Or.inl ⟨by rfl, ?_⟩) (by assumption) ?_
          rotate_left
          · intro w hSw
            try dsimp only at hSw
            go_simp
            try with_reducible rfl
          try simp only [Act.put, List.getElem_toArray, List.getElem_cons_zero, List.getElem_cons_succ, List.setIfInBounds_toArray, List.set_cons_zero, List.set_cons_succ]
          refine wpAnyH_done (by kernel_rfl) ?_ _
          go_wp2
          go_roundw
          case measure => simp [intOf]; omega
          case rel => exact ⟨0 + 1, by omega, by go_num, HB5⟩
        · have g8 : decide (x ≤ z) = false := decide_eq_false (by omega)
          have g9 : decide ((0 : Int) < (i : Int)) = true := decide_eq_true (by omega)
          have g10 : (q : Int) < (l.length : Int) := by omega
          have g11 : (0 : Int) ≤ (q : Int) := by omega
          have g15 : (0 : Int) < (i : Int) := by omega
          have g16 : (i : Int) - 1 = (q : Int) := by omega
          have g17 : ¬ x ≤ z := by omega
          have g18 : 0 < i := by omega
          have g21 : IntKind.i64.wrap (q : Int) = (q : Int) := by rw [IntKind.wrap_i64]; omega
          have g20 : IntKind.i64.wrap ((i : Int) - 1) = (q : Int) := by rw [IntKind.wrap_i64]; omega
          have g19 : decide (0 < i) = true := decide_eq_true g18
          clear hiq
          go_upto_region 8 with (fail)
          go_region_held3 (fun w' => w'.cell? (ad.add i) = some (.int .i64 x) ∧ w'.cell? (ad.add q) = some (.int .i64 z)) (go_keep) ((first | (go_at_call 12; refine (n.out _ (Below.refl _ _).drew).mono ?_; rintro e w4 ⟨v4, l4, rfl, hC4, hR4, hB4⟩; replace hB4 : Below wr.heap.size wr w4 := ⟨hB4.os, hB4.tape, hB4.output, hB4.size, hB4.block⟩; obtain ⟨a4, c4, rfl, _, hr4⟩ := Kd.R_reads hR4; obtain rfl := (HCO.out _ hC4).symm; have r0 := (hB4.cell (p := (ad.add i)) (World.block_lt_of_cell? _ _ y0)).trans y0; have rq := (hB4.cell (p := ad.add q) (World.block_lt_of_cell? _ _ yq)).trans yq; have HB4 := Aside0.mk (HB.out.trans (hB4.mono HB.out.size)); have nI := Aside0.mk (is_same a4 _ c4 c2 l w4 hr4 (Kd.C_below C2.out HB4.out) (by omega)); clear hC4 hR4 hB4 hr4) | (go_at_call 11; refine nI.out.mono ?_; rintro e w5 ⟨rfl, hB5⟩; have s0 := (hB5.cell (p := (ad.add i)) (World.block_lt_of_cell? _ _ r0)).trans r0; have sq := (hB5.cell (p := ad.add q) (World.block_lt_of_cell? _ _ rq)).trans rq; have HB5 := Aside0.mk (HB4.out.trans (hB5.mono HB4.out.size)); have nH := Aside0.mk (has_calls a3 c3 m x w5 (Kd.C_below C3.out HB5.out) (by omega)); clear hB5) | (go_at_call 21; refine nH.out.mono ?_; rintro e w6 ⟨rfl, hw6⟩; rw [decide_eq_true HX2.out]; subst hw6)))
          go_wp2
          go_roundw
          case measure => simp [intOf]; omega
          case rel => exact ⟨i + 1, by omega, by go_num, HB5⟩
      · have g1 : decide ((i : Int) < (l.length : Int)) = false := decide_eq_false (by omega)
        go_wp2
        obtain ⟨w4, hw4⟩ : ∃ w4, w4 = wr := ⟨_, rfl⟩
        have HB4 := HB
        rw [← hw4] at HB4
        clear hw4 hi hil g1
        go_loopw [8, 9, 10] (fun v8 v9 v10 wr => ∃ (i : Nat), i ≤ es.length ∧ v8 = .int .i64 i ∧ Aside0 (Below w3.heap.size w3 wr)) (fun v8 _ _ _ => es.length - (intOf v8).toNat)
        case atStart => exact ⟨0, Nat.zero_le _, rfl, by first | exact HB | exact HB4⟩
        case round =>
          clear HB4 HB
          obtain ⟨i, hi, rfl, HB⟩ := hrel
          by_cases hil : i < es.length
          · have g1 : decide ((i : Int) < (es.length : Int)) = true := decide_eq_true (by omega)
            have g2 : (0 : Int) ≤ (i : Int) := by omega
            have g3 : (i : Int) < (es.length : Int) := by omega
            have g4 : (i : Int) ≤ 60 := by omega
            have HOX := Aside0.mk (HOK.out es[i] (List.getElem_mem hil))
            obtain ⟨x, hx⟩ : ∃ x, es[i].1 = x := ⟨_, rfl⟩
            obtain ⟨y, hy⟩ : ∃ y, es[i].2 = y := ⟨_, rfl⟩
            rw [hx, hy] at HOX
            replace hx := Aside0.mk hx
            replace hy := Aside0.mk hy
            go_wp2
            go_loopw [9, 10] (fun v9 v10 wr => ∃ (k : Nat), k ≤ 2 ∧ v9 = .int .i64 k ∧ Aside0 (Below w3.heap.size w3 wr)) (fun v9 _ _ => 2 - (intOf v9).toNat)
            case atStart => exact ⟨0, Nat.zero_le _, rfl, HB⟩
            case round =>
              clear HB
              obtain ⟨k, hk, rfl, HB⟩ := hrel
              obtain ⟨ad, e1, x0, x1⟩ := edge_cells (HE.out wr (HB3.out.trans (HB.out.mono HB3.out.size))).read hil
              rw [hx.out] at x0
              rw [hy.out] at x1
              subst e1
              rcases (by omega : k = 0 ∨ k = 1 ∨ k = 2) with rfl | rfl | rfl
              · obtain ⟨b, hb⟩ : ∃ b, decide (x ∈ m) = b := ⟨_, rfl⟩
                have n1 := has_calls a3 c3 m x wr (Kd.C_below C3.out HB.out) (by omega)
                rw [hb] at n1
                go_wp2_with fail
                refine n1.mono ?_
                clear n1
                rintro e w5 ⟨rfl, hw5⟩
                rw [hw5]
                clear hw5
                have n2 := circle_calls _ c0 es x wr (HE.out wr (HB3.out.trans (HB.out.mono HB3.out.size))) HOX.out.1
                go_wp2_with fail
                refine n2.mono ?_
                clear n2
                rintro e w6 ⟨v6, c, rfl, hC6, hR6, hB6⟩
                obtain ⟨a6, c6, rfl, _, hr6⟩ := Kd.R_reads hR6
                have hcl := short_circle hC6
                have n3 := has_calls a6 c6 c x w6 hr6 (by omega)
                rw [show decide (x ∈ c) = b from by rw [← hb]; exact decide_eq_decide.2 (by rw [any_circle HM.out hC6])] at n3
                have HB6 := Aside0.mk (HB.out.trans (hB6.mono HB.out.size))
                clear hC6 hR6 hB6 hr6
                go_wp2_with fail
                refine n3.mono ?_
                clear n3
                rintro e w7 ⟨rfl, hw7⟩
                rw [hw7]
                clear hw7
                have n4 := has_calls a3 c3 m x w6 (Kd.C_below C3.out HB6.out) (by omega)
                rw [hb] at n4
                go_wp2_with fail
                refine n4.mono ?_
                clear n4
                rintro e w8 ⟨rfl, hw8⟩
                rw [hw8]
                clear hw8
                have n5 := reach_calls _ c0 es x w6 (HE.out w6 (HB3.out.trans (HB6.out.mono HB3.out.size))) HOX.out.1
                go_wp2_with fail
                refine n5.mono ?_
                clear n5
                rintro e w9 ⟨v9, r, rfl, hC9, hR9, hB9⟩
                obtain ⟨a9, c9, rfl, _, hr9⟩ := Kd.R_reads hR9
                have hrl := short_reach hC9
                have n6 := has_calls a9 c9 r x w9 hr9 (by omega)
                rw [show decide (x ∈ r) = b from by rw [← hb]; exact decide_eq_decide.2 (by rw [any_reach HM.out hC9])] at n6
                have HB9 := Aside0.mk (HB6.out.trans (hB9.mono HB6.out.size))
                clear hC9 hR9 hB9 hr9 HB6 hb
                go_wp2_with fail
                refine n6.mono ?_
                clear n6
                rintro e w10 ⟨rfl, hw10⟩
                rw [hw10]
                clear hw10
                go_wp2
                go_roundw
                case measure => simp [intOf]
                case rel => exact ⟨1, by omega, by go_num, HB9⟩
              · obtain ⟨b, hb⟩ : ∃ b, decide (y ∈ m) = b := ⟨_, rfl⟩
                have n1 := has_calls a3 c3 m y wr (Kd.C_below C3.out HB.out) (by omega)
                rw [hb] at n1
                go_wp2_with fail
                refine n1.mono ?_
                clear n1
                rintro e w5 ⟨rfl, hw5⟩
                rw [hw5]
                clear hw5
                have n2 := circle_calls _ c0 es y wr (HE.out wr (HB3.out.trans (HB.out.mono HB3.out.size))) HOX.out.2
                go_wp2_with fail
                refine n2.mono ?_
                clear n2
                rintro e w6 ⟨v6, c, rfl, hC6, hR6, hB6⟩
                obtain ⟨a6, c6, rfl, _, hr6⟩ := Kd.R_reads hR6
                have hcl := short_circle hC6
                have n3 := has_calls a6 c6 c y w6 hr6 (by omega)
                rw [show decide (y ∈ c) = b from by rw [← hb]; exact decide_eq_decide.2 (by rw [any_circle HM.out hC6])] at n3
                have HB6 := Aside0.mk (HB.out.trans (hB6.mono HB.out.size))
                clear hC6 hR6 hB6 hr6
                go_wp2_with fail
                refine n3.mono ?_
                clear n3
                rintro e w7 ⟨rfl, hw7⟩
                rw [hw7]
                clear hw7
                have n4 := has_calls a3 c3 m y w6 (Kd.C_below C3.out HB6.out) (by omega)
                rw [hb] at n4
                go_wp2_with fail
                refine n4.mono ?_
                clear n4
                rintro e w8 ⟨rfl, hw8⟩
                rw [hw8]
                clear hw8
                have n5 := reach_calls _ c0 es y w6 (HE.out w6 (HB3.out.trans (HB6.out.mono HB3.out.size))) HOX.out.2
                go_wp2_with fail
                refine n5.mono ?_
                clear n5
                rintro e w9 ⟨v9, r, rfl, hC9, hR9, hB9⟩
                obtain ⟨a9, c9, rfl, _, hr9⟩ := Kd.R_reads hR9
                have hrl := short_reach hC9
                have n6 := has_calls a9 c9 r y w9 hr9 (by omega)
                rw [show decide (y ∈ r) = b from by rw [← hb]; exact decide_eq_decide.2 (by rw [any_reach HM.out hC9])] at n6
                have HB9 := Aside0.mk (HB6.out.trans (hB9.mono HB6.out.size))
                clear hC9 hR9 hB9 hr9 HB6 hb
                go_wp2_with fail
                refine n6.mono ?_
                clear n6
                rintro e w10 ⟨rfl, hw10⟩
                rw [hw10]
                clear hw10
                go_wp2
                go_roundw
                case measure => simp [intOf]
                case rel => exact ⟨2, by omega, by go_num, HB9⟩
              · go_wp2
                go_roundw
                case measure => simp [intOf]; omega
                case rel => exact ⟨i + 1, by omega, by go_num, HB⟩
          · have g1 : decide ((i : Int) < (es.length : Int)) = false := decide_eq_false (by omega)
            have heq : (a ∈ l) = (a ∈ m) := any_circle HM.out HL.out
            by_cases hl0 : l.length = 0
            · obtain rfl := List.length_eq_zero_iff.1 hl0
              have k2 : decide ((0 : Int) < 0) = false := by decide
              have hal : decide (a ∈ ([] : List Int)) = false := decide_eq_false (by simp)
              have ham : decide (a ∈ m) = false := decide_eq_false (by rw [← heq]; exact of_decide_eq_false hal)
              have n1 := has_calls _ c2 [] a wr (Kd.C_below C2.out HB.out) (by simp)
              rw [show decide (a ∈ ([] : List Int)) = false from hal] at n1
              have n2 := has_calls a3 c3 m a wr (Kd.C_below C3.out HB.out) (by omega)
              rw [show decide (a ∈ m) = false from ham] at n2
              simp only [List.length_nil] at n1
              clear heq hal ham hl0
              go_wp2_with fail
              refine n1.mono ?_
              clear n1
              rintro e w5 ⟨rfl, hw5⟩
              rw [hw5]
              clear hw5
              go_wp2_with fail
              refine n2.mono ?_
              clear n2
              rintro e w6 ⟨rfl, hw6⟩
              rw [hw6]
              clear hw6
              go_wp2
              go_ret
              exact ⟨rfl, HB3.out.trans (HB.out.mono HB3.out.size)⟩
            · have k1 : (0 : Int) < (l.length : Int) := by omega
              have k2 : decide ((0 : Int) < (l.length : Int)) = true := decide_eq_true (by omega)
              have k3 : decide (0 < l.length) = true := decide_eq_true (by omega)
              have hm0 : a ∈ l := circle_self HL.out (List.getElem_mem (show 0 < l.length by omega))
              have hal : decide (a ∈ l) = true := decide_eq_true hm0
              have ham : decide (a ∈ m) = true := decide_eq_true (by rw [← heq]; exact hm0)
              have n1 := has_calls _ c2 l a wr (Kd.C_below C2.out HB.out) (by omega)
              rw [show decide (a ∈ l) = true from hal] at n1
              have n2 := has_calls a3 c3 m a wr (Kd.C_below C3.out HB.out) (by omega)
              rw [show decide (a ∈ m) = true from ham] at n2
              clear heq hal ham hl0 hm0
              go_wp2_with fail
              refine n1.mono ?_
              clear n1
              rintro e w5 ⟨rfl, hw5⟩
              rw [hw5]
              clear hw5
              go_wp2_with fail
              refine n2.mono ?_
              clear n2
              rintro e w6 ⟨rfl, hw6⟩
              rw [hw6]
              clear hw6
              go_wp2
              go_ret
              exact ⟨rfl, HB3.out.trans (HB.out.mono HB3.out.size)⟩
end Go.Proofs.Yteejeakbagbcoaa

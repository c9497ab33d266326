import Derived.Test.YtljahhgankcalaaGM
/-! covenantlaw12: the writer's write. Printed by gengw.py. -/
namespace Go.Proofs.Ytljahhgankcalaa
open Go.RowKit Go.Maps Go.MapKept Go.WideMaps Go.Shelf
open Go.Proofs.YtljahhgankcalaaW.PrintWords Go.Proofs.YtljahhgankcalaaW.PrintLast Go.Proofs.YtljahhgankcalaaW.PrintMore
set_option linter.unusedVariables false
set_option linter.unusedSimpArgs false

/-- What is looked at, in every world behind this one. -/
structure Seer (w : World) (b h x : Nat) (A : AH) (T : TT) : Prop where
  wr : Wr w b h x
  at_ : ∀ W s, Below w.heap.size w W → Calls Try.prog 17 #[.pointer (some ⟨h, 0, none⟩), .int .i64 s] W fun e w' => ∃ a c, e = .returned (.tuple #[.agg #[.int .i64 (A.atE s).f0, .int .i64 (A.atE s).f1, .int .i64 (A.atE s).f2, .int .i64 (A.atE s).f3, .int .i64 (A.atE s).f4, .int .i64 (A.atE s).f5, .slice a (A.atE s).f6.length c], .bool (A.there s)]) ∧ Below W.heap.size W w'
  counts : ∀ W i, Below w.heap.size w W → Calls Try.prog 65 #[.pointer (some ⟨x, 0, none⟩), .int .i64 i] W fun e w' => e = .returned (.bool (T.counts i)) ∧ Below W.heap.size W w'
  top : ∀ W i, Below w.heap.size w W → Calls Try.prog 66 #[.pointer (some ⟨x, 0, none⟩), .int .i64 i] W fun e w' => e = .returned (.int .i64 (T.top i)) ∧ Below W.heap.size W w'
  number : ∀ W i, Below w.heap.size w W → Calls Try.prog 67 #[.pointer (some ⟨x, 0, none⟩), .int .i64 i] W fun e w' => e = .returned (.int .i64 (T.number i)) ∧ Below W.heap.size W w'
  now : ∀ W me, Below w.heap.size w W → Calls Try.prog 22 #[.pointer (some ⟨x, 0, none⟩), .int .i64 me] W fun e w' => e = .returned (.agg #[.int .i64 T.last, .int .i64 me]) ∧ Below W.heap.size W w'
  seen : ∀ W at' me id, okI id → Below w.heap.size w W → Calls Try.prog 32 #[.pointer (some ⟨h, 0, none⟩), .pointer (some ⟨x, 0, none⟩), .agg #[.int .i64 at', .int .i64 me], .int .i64 1, .int .i64 id] W fun e w' => e = .returned (.tuple #[.int .i64 ((A.seen T at' me 1 id).getD 0), .bool (A.seen T at' me 1 id).isSome]) ∧ Below W.heap.size W w'
  slots : ∀ W id, okI id → Below w.heap.size w W → Calls Try.prog 37 #[.pointer (some ⟨h, 0, none⟩), .int .i64 1, .int .i64 id] W fun e w' => ∃ v, e = .returned v ∧ Kd.R kInt 3 w' W.heap.size (fun _ => True) v (A.rows (1, id)) ∧ Below W.heap.size W w'
theorem okI_one : okI 1 := okI_of (by decide) (by decide)
theorem SgW.seer {w0 w : World} {b h x : Nat} {A : AH} {T : TT} {k : Nat} {K : Nat → Prop} {wk : World} (H : SgW w0 w b h x A T k K wk) (hk : k < 2147483648) : Seer w b h x A T := by
  obtain ⟨F, Fx, L⟩ := H.look hk
  refine ⟨H.wr, fun W s hb => ?_, fun W i hb => counts_calls x T Fx W (L.tab.below hb) L.tok i, fun W i hb => top_calls x T Fx W (L.tab.below hb) L.tok i, fun W i hb => number_calls x T Fx W (L.tab.below hb) L.tok i, fun W me hb => now_calls x T Fx W (L.tab.below hb) me,
    fun W at' me id ho hb => (L.below hb).seen at' me 1 id ⟨okI_one, ho⟩, fun W id ho hb => slots_calls h 1 id A F W (L.heap.below hb) ⟨okI_one, ho⟩ (L.short _)⟩
  refine (at_calls h s A F W (L.heap.below hb) (L.lim s)).mono ?_
  rintro e w' ⟨v, rfl, hv, hb2⟩
  obtain ⟨a, c, e⟩ := Kd.R_slice hv
  subst e
  exact ⟨a, c, rfl, hb2⟩
theorem SgW.there {w0 w : World} {b h x : Nat} {A : AH} {T : TT} {k : Nat} {K : Nat → Prop} {wk : World} (H : SgW w0 w b h x A T k K wk) {id s : Int} (hs : s ∈ A.rows (1, id)) : A.there s = true := H.ok.1.there_of hs

theorem meas_two {j : Nat} (h : j < 2) : 2 - (intOf (.int .i64 ((j + 1 : Nat) : Int))).toNat < 2 - (intOf (.int .i64 (j : Int))).toNat := by
  simp only [intOf]
  omega
/-- A slice of two numbers, made just now. -/
def w2t (w : World) (a c : Int) : World := w.alloc (.cells #[.int .i64 a, .int .i64 c] 3)
theorem w2t_cell (w : World) (a c : Int) (j : Nat) (hj : j < 2) : ∃ y, (w2t w a c).cell? ⟨w.heap.size, j, none⟩ = some (.int .i64 y) ∧ (j = 0 → y = a) ∧ (j = 1 → y = c) := by
  have hb := blk_new w (.cells #[.int .i64 a, .int .i64 c] 3)
  match j, hj with
  | 0, _ => exact ⟨a, blk_cell hb 0, fun _ => rfl, fun h => by omega⟩
  | 1, _ => exact ⟨c, blk_cell hb 1, fun h => by omega, fun _ => rfl⟩

set_option maxRecDepth 100000 in
set_option maxHeartbeats 20000000 in
theorem write_calls (w0 w : World) (b h x : Nat) (top sub id n : Int) (A : AH) (T : TT) (k : Nat) {K : Nat → Prop} {wk : World} (H : SgW w0 w b h x A T k K wk) (hk : k < 2147483640) (ho : okI id) :
    Calls Try.prog 26 #[.pointer (some ⟨b, 0, none⟩), .int .i64 top, .int .i64 sub, .int .i64 id, .int .i64 n] w fun e w' => e = .returned (.bool (A.writes T top sub id n).1) ∧ SgW w0 w' b h x (A.writes T top sub id n).2 T (k + 2) K wk := by
  have HS := Aside0.mk (H.seer (by omega))
  have hth := Aside0.mk (fun s (hs : s ∈ A.rows (1, id)) => H.there hs)
  have HW := Aside0.mk H
  have HO := Aside0.mk ho
  have c0 := HS.out.wr.c0
  have hsl := HS.out.slots w id ho (Below.refl _ _)
  have mv0 : ∀ W, Below w.heap.size w W → W.cell? ⟨b, 0, none⟩ = some (.pointer (some ⟨h, 0, none⟩)) := fun W hb => (show Wr W b h x from blk_below HS.out.wr hb).c0
  have mv : ∀ W, Below w.heap.size w W → W.cell? ⟨b, 1, none⟩ = some (.pointer (some ⟨x, 0, none⟩)) := fun W hb => (show Wr W b h x from blk_below HS.out.wr hb).c1
  replace mv0 := Aside0.mk mv0
  replace mv := Aside0.mk mv
  have HK := Aside0.mk hk
  clear H ho hk
  go_enter Try.func26, Try.ntmps26
  go_wp2_with fail
  refine hsl.mono ?_
  clear hsl c0
  rintro e w1 ⟨v, rfl, hR, b1⟩
  obtain ⟨R, hRR⟩ : ∃ R, A.rows (1, id) = R := ⟨_, rfl⟩
  rw [hRR] at hR
  obtain ⟨la, lc, e1⟩ := Kd.R_slice hR
  subst e1
  have hmax : R.length ≤ 9223372036854775807 := (Kd.R_reads' hR).2.2.2.1
  have HR := Aside0.mk (And.intro hR hRR)
  replace b1 := Aside0.mk b1
  clear hR hRR
  go_wp2
  go_loopw [12] (fun v12 wr => ∃ i : Nat, i ≤ R.length ∧ v12 = .int .i64 i ∧ Aside0 (Below w1.heap.size w1 wr) ∧ Aside0 ((R.take i).any (fun s => T.blocks top (A.at s).f2 || T.blocks top (A.at s).f4) = false)) (fun v12 _ => R.length - (intOf v12).toNat)
  case atStart => exact ⟨0, Nat.zero_le _, rfl, ⟨Below.refl _ _⟩, ⟨rfl⟩⟩
  case round =>
    obtain ⟨i, hi, rfl, hBi, hnb⟩ := hrel
    have hB := Aside0.mk (b1.out.trans (hBi.out.mono b1.out.size))
    by_cases hlt : i < R.length
    · have d1 : decide ((i : Int) < (R.length : Int)) = true := decide_eq_true (by omega)
      have d1b : decide (i < R.length) = true := decide_eq_true hlt
      have d2 : (0 : Int) ≤ (i : Int) := by omega
      have d3 : (i : Int) < (R.length : Int) := by omega
      obtain ⟨s, hs⟩ : ∃ s, R[i]'(by omega) = s := ⟨_, rfl⟩
      have hst := hth.out s (by rw [HR.out.2, ← hs]; exact List.getElem_mem _)
      obtain ⟨g, cap, hform, _⟩ := Kd.R_form (Kd.R_below HR.out.1 hBi.out) (by omega)
      injection hform with hf1 hf2 hf3
      subst hf1
      clear hf2 hf3
      obtain ⟨ad, e1, y0⟩ := Kd.at_int (Kd.R_reads' (Kd.R_below HR.out.1 hBi.out)).2.2 (i : Int) d2 d3
      injection e1 with e1
      subst e1
      have hrd : Go.Proofs.YtljahhgankcalaaW.PrintWords.rd R (i : Int) = s := by
        unfold Go.Proofs.YtljahhgankcalaaW.PrintWords.rd
        rw [← hs]
        simp [List.getD_eq_getElem?_getD]
        rw [List.getElem?_eq_getElem (by omega)]
        rfl
      rw [hrd] at y0
      replace y0 : wr.cell? ⟨g, i, none⟩ = some (.int .i64 s) := by
        have he : (⟨g, i, none⟩ : Addr) = (⟨g, 0, none⟩ : Addr).add i := by
          unfold Addr.add
          split
          · rename_i h0
            rw [h0]
          · simp
        rw [he]
        simpa using y0
      have htk := Aside0.mk (show R.take (i + 1) = R.take i ++ [s] from by rw [List.take_add_one, List.getElem?_eq_getElem hlt, hs]; rfl)
      have hat := fun W (hb : Below w.heap.size w W) => HS.out.at_ W s hb
      rw [show A.atE s = A.at s from by unfold AH.atE; rw [if_pos hst], hst] at hat
      replace hat := Aside0.mk hat
      have r0 := mv0.out wr hB.out
      have HLT := Aside0.mk hlt
      clear hrd hs hst
      go_upto_region 5 with (fail)
      go_cut [13, 14] from 33 to 45 (fun v13 v14 wc => ∃ Bx a3 c3, v13 = .pointer (some ⟨Bx, 0, none⟩) ∧ v14 = .bool true ∧ Aside0 (wc.heap[Bx]? = some (.cells #[.int .i64 (A.at s).f0, .int .i64 (A.at s).f1, .int .i64 (A.at s).f2, .int .i64 (A.at s).f3, .int .i64 (A.at s).f4, .int .i64 (A.at s).f5, .slice a3 (A.at s).f6.length c3] 39 (0, 0))) ∧ Aside0 (Below wr.heap.size wr wc))
      case first =>
        have hbd := hB.out.trans ((Below.refl _ wr).drew.mono hB.out.size)
        have hba := hB.out.trans (((Below.refl _ wr).drew.alloc (Nat.le_refl _) (.cells #[.int .i64 0, .int .i64 0, .int .i64 0, .int .i64 0, .int .i64 0, .int .i64 0, .slice none 0 0] 39)).mono hB.out.size)
        have hzb := blk_new wr.drew (.cells #[.int .i64 0, .int .i64 0, .int .i64 0, .int .i64 0, .int .i64 0, .int .i64 0, .slice none 0 0] 39)
        have HBX := Aside0.mk (And.intro hbd (And.intro hba hzb))
        clear hbd hba hzb
        have n1 : b ≠ wr.heap.size := Nat.ne_of_lt (World.block_lt_of_cell? wr _ r0)
        have n2 : g ≠ wr.heap.size := Nat.ne_of_lt (World.block_lt_of_cell? wr _ y0)
        have n3 := Ne.symm n1
        have n4 := Ne.symm n2
        go_region_held3 (fun w' => w'.cell? ⟨b, 0, none⟩ = some (.pointer (some ⟨h, 0, none⟩)) ∧ w'.cell? ⟨g, i, none⟩ = some (.int .i64 s)) (go_keep) ((go_at_call 17; first
          | (refine (hat.out _ HBX.out.1).mono ?_; rintro e w3 ⟨a3, c3, rfl, hb3⟩; have r1 := mv0.out w3 (HBX.out.1.trans (hb3.mono HBX.out.1.size)); have y1 := (hb3.cell (p := ⟨g, i, none⟩) (World.block_lt_of_cell? wr _ y0)).trans y0; replace hb3 : Below wr.heap.size wr w3 := ⟨hb3.os, hb3.tape, hb3.output, hb3.size, hb3.block⟩; replace hb3 := Aside0.mk hb3)
          | (refine (hat.out _ HBX.out.2.1).mono ?_; rintro e w3 ⟨a3, c3, rfl, hb3⟩; have r1 := mv0.out w3 (HBX.out.2.1.trans (hb3.mono HBX.out.2.1.size)); have hz3 := blk_below HBX.out.2.2 hb3; have z0 : w3.cell? ⟨wr.heap.size, 0, none⟩ = some (.int .i64 0) := blk_cell hz3 0; have z1 : w3.cell? ⟨wr.heap.size, 1, none⟩ = some (.int .i64 0) := blk_cell hz3 1; have z2 : w3.cell? ⟨wr.heap.size, 2, none⟩ = some (.int .i64 0) := blk_cell hz3 2; have z3 : w3.cell? ⟨wr.heap.size, 3, none⟩ = some (.int .i64 0) := blk_cell hz3 3; have z4 : w3.cell? ⟨wr.heap.size, 4, none⟩ = some (.int .i64 0) := blk_cell hz3 4; have z5 : w3.cell? ⟨wr.heap.size, 5, none⟩ = some (.int .i64 0) := blk_cell hz3 5; have z6 : w3.cell? ⟨wr.heap.size, 6, none⟩ = some (.slice none 0 0) := blk_cell hz3 6; have zf : ∀ j : Nat, w3.frozen? ⟨wr.heap.size, j, none⟩ = false := fun j => blk_frozen hz3 j; have y1 := (hb3.cell (p := ⟨g, i, none⟩) (by have := World.block_lt_of_cell? wr _ y0; simp; omega)).trans ((((Below.refl _ wr).drew.alloc (Nat.le_refl _) (.cells #[.int .i64 0, .int .i64 0, .int .i64 0, .int .i64 0, .int .i64 0, .int .i64 0, .slice none 0 0] 39)).cell (p := ⟨g, i, none⟩) (World.block_lt_of_cell? wr _ y0)).trans y0); replace hb3 := Aside0.mk (And.intro hb3 hz3))))
        · go_wp2
          go_meet
          case rel => exact ⟨w3.heap.size, a3, c3, rfl, rfl, ⟨blk_new w3 _⟩, ⟨hb3.out.alloc hb3.out.size _⟩⟩
        · go_wp2
          go_meet
          case rel =>
            have hb5 := ((Below.refl _ wr).drew.alloc (Nat.le_refl _) (.cells #[.int .i64 0, .int .i64 0, .int .i64 0, .int .i64 0, .int .i64 0, .int .i64 0, .slice none 0 0] 39)).trans (hb3.out.1.mono (by simp))
            refine ⟨wr.heap.size, a3, c3, rfl, rfl, ⟨blk_set7 hb3.out.2⟩, ⟨?_⟩⟩
            exact ((((((hb5.setCell (p := ⟨wr.heap.size, 0, none⟩) (Nat.le_refl _) _).setCell (p := ⟨wr.heap.size, 1, none⟩) (Nat.le_refl _) _).setCell (p := ⟨wr.heap.size, 2, none⟩) (Nat.le_refl _) _).setCell (p := ⟨wr.heap.size, 3, none⟩) (Nat.le_refl _) _).setCell (p := ⟨wr.heap.size, 4, none⟩) (Nat.le_refl _) _).setCell (p := ⟨wr.heap.size, 5, none⟩) (Nat.le_refl _) _).setCell (p := ⟨wr.heap.size, 6, none⟩) (Nat.le_refl _) _
      case rest =>
        obtain ⟨Bx, a3, c3, rfl, rfl, hBx, hBc⟩ := hcut
        have hB2 := Aside0.mk (hB.out.trans (hBc.out.mono hB.out.size))
        have q2 := blk_cell hBx.out 2
        have q4 := blk_cell hBx.out 4
        simp at q2 q4
        have hT := Aside0.mk (show ∀ j : Nat, j < 2 → ∃ y, (w2t wc (A.at s).f2 (A.at s).f4).cell? ⟨wc.heap.size, j, none⟩ = some (.int .i64 y) ∧ (j = 0 → y = (A.at s).f2) ∧ (j = 1 → y = (A.at s).f4) from fun j hj => w2t_cell wc _ _ j hj)
        have hBn := Aside0.mk (show Below wc.heap.size wc (w2t wc (A.at s).f2 (A.at s).f4) from (Below.refl _ wc).alloc (Nat.le_refl _) _)
        clear y0 r0 hat
        go_wp2
        obtain ⟨wx, hwx⟩ : ∃ wx, w2t wc (A.at s).f2 (A.at s).f4 = wx := ⟨_, rfl⟩
        have hwx2 : wc.alloc (.cells #[.int .i64 (A.at s).f2, .int .i64 (A.at s).f4] 3) = wx := hwx
        rw [hwx] at hT hBn
        rw [hwx2]
        have hBx2 := Aside0.mk (hB2.out.trans (hBn.out.mono hB2.out.size))
        have hBw := Aside0.mk (hBc.out.trans (hBn.out.mono hBc.out.size))
        clear hwx hwx2 q2 q4
        go_loopw [51] (fun v51 wr => ∃ j : Nat, j ≤ 2 ∧ v51 = .int .i64 j ∧ Aside0 (Below wx.heap.size wx wr) ∧ Aside0 (0 < j → T.blocks top (A.at s).f2 = false) ∧ Aside0 (1 < j → T.blocks top (A.at s).f4 = false)) (fun v51 _ => 2 - (intOf v51).toNat)
        case atStart => exact ⟨0, by omega, rfl, ⟨Below.refl _ _⟩, ⟨fun h => by omega⟩, ⟨fun h => by omega⟩⟩
        case round =>
          obtain ⟨j, hj, rfl, hB4, hj1, hj2⟩ := hrel
          have hB3 := Aside0.mk (hBx2.out.trans (hB4.out.mono hBx2.out.size))
          by_cases hjl : j < 2
          · have e1 : decide ((j : Int) < 2) = true := decide_eq_true (by omega)
            have e2 : (0 : Int) ≤ (j : Int) := by omega
            have e3 : (j : Int) < 2 := by omega
            have e4 : decide (j < 2) = true := decide_eq_true hjl
            obtain ⟨y, hy, hya, hyb⟩ := hT.out j hjl
            have hy2 := (hB4.out.cell (World.block_lt_of_cell? wx _ hy)).trans hy
            have HY := Aside0.mk (And.intro hya hyb)
            have r1 := mv.out wr hB3.out
            have HJ := Aside0.mk hjl
            clear hya hyb hy hjl
            go_upto_region 9 with (fail)
            go_cut [88] from 55 to 89 (fun v88 wd => v88 = .bool (T.blocks top y) ∧ Aside0 (Below wr.heap.size wr wd))
            case first =>
              by_cases hy0 : y = 0
              · have d0 : (y != 0) = false := by rw [hy0]; rfl
                have hbl : T.blocks top y = false := by unfold TT.blocks; rw [decide_eq_false (fun h => h hy0)]; rfl
                have HBL := Aside0.mk hbl
                clear hy0 hbl
                refine wp_region_held_drew (S := fun w' => w'.cell? ⟨b, 1, none⟩ = some (.pointer (some ⟨x, 0, none⟩))) (by kernel_rfl) ?_ (fun hHeld => ?_)
                · go_keep
                refine wpAnyH_take (i := 0) (v := ?_) rfl (by kernel_rfl) (by kernel_rfl) (by kernel_rfl) (fun _ _ _ h => h) (Or.inl ⟨by rfl, ?_⟩) (by assumption) ?_
                rotate_left
                · intro w hSw
                  try dsimp only at hSw
                  go_simp
                  try with_reducible rfl
                try simp only [Act.put, List.getElem_toArray, List.getElem_cons_zero, List.getElem_cons_succ, List.setIfInBounds_toArray, List.set_cons_zero, List.set_cons_succ]
                refine wpAnyH_take (i := 1) (v := ?_) rfl (by kernel_rfl) (by kernel_rfl) (by kernel_rfl) (fun _ _ _ h => h) (Or.inl ⟨by rfl, ?_⟩) (by assumption) ?_
                rotate_left
                · intro w hSw
                  try dsimp only at hSw
                  go_simp
                  try with_reducible rfl
                try simp only [Act.put, List.getElem_toArray, List.getElem_cons_zero, List.getElem_cons_succ, List.setIfInBounds_toArray, List.set_cons_zero, List.set_cons_succ]
                refine wpAnyH_take (i := 2) (v := ?_) rfl (by kernel_rfl) (by kernel_rfl) (by kernel_rfl) (fun _ _ _ h => h) (Or.inl ⟨by rfl, ?_⟩) (by assumption) ?_
                rotate_left
                · intro w hSw
                  try dsimp only at hSw
                  go_simp
                  try with_reducible rfl
                try simp only [Act.put, List.getElem_toArray, List.getElem_cons_zero, List.getElem_cons_succ, List.setIfInBounds_toArray, List.set_cons_zero, List.set_cons_succ]
                refine wpAnyH_take (i := 3) (v := _) rfl (by kernel_rfl) (by kernel_rfl) (by kernel_rfl) (fun _ _ _ h => h) (Or.inr ⟨by rfl, rfl⟩) (by assumption) ?_
                try simp only [Act.put, List.getElem_toArray, List.getElem_cons_zero, List.getElem_cons_succ, List.setIfInBounds_toArray, List.set_cons_zero, List.set_cons_succ]
                refine wpAnyH_take (i := 4) (v := _) rfl (by kernel_rfl) (by kernel_rfl) (by kernel_rfl) (fun _ _ _ h => h) (Or.inr ⟨by rfl, rfl⟩) (by assumption) ?_
                try simp only [Act.put, List.getElem_toArray, List.getElem_cons_zero, List.getElem_cons_succ, List.setIfInBounds_toArray, List.set_cons_zero, List.set_cons_succ]
                refine wpAnyH_take (i := 5) (v := _) rfl (by kernel_rfl) (by kernel_rfl) (by kernel_rfl) (fun _ _ _ h => h) (Or.inr ⟨by rfl, rfl⟩) (by assumption) ?_
                try simp only [Act.put, List.getElem_toArray, List.getElem_cons_zero, List.getElem_cons_succ, List.setIfInBounds_toArray, List.set_cons_zero, List.set_cons_succ]
                refine wpAnyH_take (i := 6) (v := _) rfl (by kernel_rfl) (by kernel_rfl) (by kernel_rfl) (fun _ _ _ h => h) (Or.inr ⟨by rfl, rfl⟩) (by assumption) ?_
                try simp only [Act.put, List.getElem_toArray, List.getElem_cons_zero, List.getElem_cons_succ, List.setIfInBounds_toArray, List.set_cons_zero, List.set_cons_succ]
                refine wpAnyH_take (i := 7) (v := _) rfl (by kernel_rfl) (by kernel_rfl) (by kernel_rfl) (fun _ _ _ h => h) (Or.inr ⟨by rfl, rfl⟩) (by assumption) ?_
                try simp only [Act.put, List.getElem_toArray, List.getElem_cons_zero, List.getElem_cons_succ, List.setIfInBounds_toArray, List.set_cons_zero, List.set_cons_succ]
                refine wpAnyH_take (i := 8) (v := _) rfl (by kernel_rfl) (by kernel_rfl) (by kernel_rfl) (fun _ _ _ h => h) (Or.inr ⟨by rfl, rfl⟩) (by assumption) ?_
                try simp only [Act.put, List.getElem_toArray, List.getElem_cons_zero, List.getElem_cons_succ, List.setIfInBounds_toArray, List.set_cons_zero, List.set_cons_succ]
                refine wpAnyH_take (i := 9) (v := ?_) rfl (by kernel_rfl) (by kernel_rfl) (by kernel_rfl) (fun _ _ _ h => h) (Or.inl ⟨by rfl, ?_⟩) (by assumption) ?_
                rotate_left
                · intro w hSw
                  try dsimp only at hSw
                  go_simp
                  try with_reducible rfl
                try simp only [Act.put, List.getElem_toArray, List.getElem_cons_zero, List.getElem_cons_succ, List.setIfInBounds_toArray, List.set_cons_zero, List.set_cons_succ]
                refine wpAnyH_take (i := 10) (v := ?_) rfl (by kernel_rfl) (by kernel_rfl) (by kernel_rfl) (fun _ _ _ h => h) (Or.inl ⟨by rfl, ?_⟩) (by assumption) ?_
                rotate_left
                · intro w hSw
                  try dsimp only at hSw
                  go_simp
                  try with_reducible rfl
                try simp only [Act.put, List.getElem_toArray, List.getElem_cons_zero, List.getElem_cons_succ, List.setIfInBounds_toArray, List.set_cons_zero, List.set_cons_succ]
                refine wpAnyH_take (i := 11) (v := _) rfl (by kernel_rfl) (by kernel_rfl) (by kernel_rfl) (fun _ _ _ h => h) (Or.inr ⟨by rfl, rfl⟩) (by assumption) ?_
                try simp only [Act.put, List.getElem_toArray, List.getElem_cons_zero, List.getElem_cons_succ, List.setIfInBounds_toArray, List.set_cons_zero, List.set_cons_succ]
                refine wpAnyH_take (i := 12) (v := _) rfl (by kernel_rfl) (by kernel_rfl) (by kernel_rfl) (fun _ _ _ h => h) (Or.inr ⟨by rfl, rfl⟩) (by assumption) ?_
                try simp only [Act.put, List.getElem_toArray, List.getElem_cons_zero, List.getElem_cons_succ, List.setIfInBounds_toArray, List.set_cons_zero, List.set_cons_succ]
                refine wpAnyH_take (i := 13) (v := _) rfl (by kernel_rfl) (by kernel_rfl) (by kernel_rfl) (fun _ _ _ h => h) (Or.inr ⟨by rfl, rfl⟩) (by assumption) ?_
                try simp only [Act.put, List.getElem_toArray, List.getElem_cons_zero, List.getElem_cons_succ, List.setIfInBounds_toArray, List.set_cons_zero, List.set_cons_succ]
                refine wpAnyH_take (i := 14) (v := _) rfl (by kernel_rfl) (by kernel_rfl) (by kernel_rfl) (fun _ _ _ h => h) (Or.inr ⟨by rfl, rfl⟩) (by assumption) ?_
                try simp only [Act.put, List.getElem_toArray, List.getElem_cons_zero, List.getElem_cons_succ, List.setIfInBounds_toArray, List.set_cons_zero, List.set_cons_succ]
                refine wpAnyH_take (i := 15) (v := _) rfl (by kernel_rfl) (by kernel_rfl) (by kernel_rfl) (fun _ _ _ h => h) (Or.inr ⟨by rfl, rfl⟩) (by assumption) ?_
                try simp only [Act.put, List.getElem_toArray, List.getElem_cons_zero, List.getElem_cons_succ, List.setIfInBounds_toArray, List.set_cons_zero, List.set_cons_succ]
                refine wpAnyH_take (i := 16) (v := _) rfl (by kernel_rfl) (by kernel_rfl) (by kernel_rfl) (fun _ _ _ h => h) (Or.inr ⟨by rfl, rfl⟩) (by assumption) ?_
                try simp only [Act.put, List.getElem_toArray, List.getElem_cons_zero, List.getElem_cons_succ, List.setIfInBounds_toArray, List.set_cons_zero, List.set_cons_succ]
                refine wpAnyH_take (i := 17) (v := _) rfl (by kernel_rfl) (by kernel_rfl) (by kernel_rfl) (fun _ _ _ h => h) (Or.inr ⟨by rfl, rfl⟩) (by assumption) ?_
                try simp only [Act.put, List.getElem_toArray, List.getElem_cons_zero, List.getElem_cons_succ, List.setIfInBounds_toArray, List.set_cons_zero, List.set_cons_succ]
                refine wpAnyH_take (i := 18) (v := _) rfl (by kernel_rfl) (by kernel_rfl) (by kernel_rfl) (fun _ _ _ h => h) (Or.inr ⟨by rfl, rfl⟩) (by assumption) ?_
                try simp only [Act.put, List.getElem_toArray, List.getElem_cons_zero, List.getElem_cons_succ, List.setIfInBounds_toArray, List.set_cons_zero, List.set_cons_succ]
                refine wpAnyH_take (i := 19) (v := ?_) rfl (by kernel_rfl) (by kernel_rfl) (by kernel_rfl) (fun _ _ _ h => h) (Or.inl ⟨by rfl, ?_⟩) (by assumption) ?_
                rotate_left
                · intro w hSw
                  try dsimp only at hSw
                  go_simp
                  try with_reducible rfl
                try simp only [Act.put, List.getElem_toArray, List.getElem_cons_zero, List.getElem_cons_succ, List.setIfInBounds_toArray, List.set_cons_zero, List.set_cons_succ]
                refine wpAnyH_take (i := 20) (v := ?_) rfl (by kernel_rfl) (by kernel_rfl) (by kernel_rfl) (fun _ _ _ h => h) (Or.inl ⟨by rfl, ?_⟩) (by assumption) ?_
                rotate_left
                · intro w hSw
                  try dsimp only at hSw
                  go_simp
                  try with_reducible rfl
                try simp only [Act.put, List.getElem_toArray, List.getElem_cons_zero, List.getElem_cons_succ, List.setIfInBounds_toArray, List.set_cons_zero, List.set_cons_succ]
                refine wpAnyH_take (i := 21) (v := _) rfl (by kernel_rfl) (by kernel_rfl) (by kernel_rfl) (fun _ _ _ h => h) (Or.inr ⟨by rfl, rfl⟩) (by assumption) ?_
                try simp only [Act.put, List.getElem_toArray, List.getElem_cons_zero, List.getElem_cons_succ, List.setIfInBounds_toArray, List.set_cons_zero, List.set_cons_succ]
                refine wpAnyH_take (i := 22) (v := _) rfl (by kernel_rfl) (by kernel_rfl) (by kernel_rfl) (fun _ _ _ h => h) (Or.inr ⟨by rfl, rfl⟩) (by assumption) ?_
                try simp only [Act.put, List.getElem_toArray, List.getElem_cons_zero, List.getElem_cons_succ, List.setIfInBounds_toArray, List.set_cons_zero, List.set_cons_succ]
                refine wpAnyH_take (i := 23) (v := _) rfl (by kernel_rfl) (by kernel_rfl) (by kernel_rfl) (fun _ _ _ h => h) (Or.inr ⟨by rfl, rfl⟩) (by assumption) ?_
                try simp only [Act.put, List.getElem_toArray, List.getElem_cons_zero, List.getElem_cons_succ, List.setIfInBounds_toArray, List.set_cons_zero, List.set_cons_succ]
                refine wpAnyH_take (i := 24) (v := _) rfl (by kernel_rfl) (by kernel_rfl) (by kernel_rfl) (fun _ _ _ h => h) (Or.inr ⟨by rfl, rfl⟩) (by assumption) ?_
                try simp only [Act.put, List.getElem_toArray, List.getElem_cons_zero, List.getElem_cons_succ, List.setIfInBounds_toArray, List.set_cons_zero, List.set_cons_succ]
                refine wpAnyH_take (i := 25) (v := _) rfl (by kernel_rfl) (by kernel_rfl) (by kernel_rfl) (fun _ _ _ h => h) (Or.inr ⟨by rfl, rfl⟩) (by assumption) ?_
                try simp only [Act.put, List.getElem_toArray, List.getElem_cons_zero, List.getElem_cons_succ, List.setIfInBounds_toArray, List.set_cons_zero, List.set_cons_succ]
                refine wpAnyH_take (i := 26) (v := _) rfl (by kernel_rfl) (by kernel_rfl) (by kernel_rfl) (fun _ _ _ h => h) (Or.inr ⟨by rfl, rfl⟩) (by assumption) ?_
                try simp only [Act.put, List.getElem_toArray, List.getElem_cons_zero, List.getElem_cons_succ, List.setIfInBounds_toArray, List.set_cons_zero, List.set_cons_succ]
                refine wpAnyH_take (i := 27) (v := _) rfl (by kernel_rfl) (by kernel_rfl) (by kernel_rfl) (fun _ _ _ h => h) (Or.inr ⟨by rfl, rfl⟩) (by assumption) ?_
                try simp only [Act.put, List.getElem_toArray, List.getElem_cons_zero, List.getElem_cons_succ, List.setIfInBounds_toArray, List.set_cons_zero, List.set_cons_succ]
                refine wpAnyH_take (i := 28) (v := _) rfl (by kernel_rfl) (by kernel_rfl) (by kernel_rfl) (fun _ _ _ h => h) (Or.inr ⟨by rfl, rfl⟩) (by assumption) ?_
                try simp only [Act.put, List.getElem_toArray, List.getElem_cons_zero, List.getElem_cons_succ, List.setIfInBounds_toArray, List.set_cons_zero, List.set_cons_succ]
                refine wpAnyH_take (i := 29) (v := _) rfl (by kernel_rfl) (by kernel_rfl) (by kernel_rfl) (fun _ _ _ h => h) (Or.inr ⟨by rfl, rfl⟩) (by assumption) ?_
                try simp only [Act.put, List.getElem_toArray, List.getElem_cons_zero, List.getElem_cons_succ, List.setIfInBounds_toArray, List.set_cons_zero, List.set_cons_succ]
                refine wpAnyH_take (i := 30) (v := _) rfl (by kernel_rfl) (by kernel_rfl) (by kernel_rfl) (fun _ _ _ h => h) (Or.inr ⟨by rfl, rfl⟩) (by assumption) ?_
                try simp only [Act.put, List.getElem_toArray, List.getElem_cons_zero, List.getElem_cons_succ, List.setIfInBounds_toArray, List.set_cons_zero, List.set_cons_succ]
                refine wpAnyH_take (i := 31) (v := _) rfl (by kernel_rfl) (by kernel_rfl) (by kernel_rfl) (fun _ _ _ h => h) (Or.inr ⟨by rfl, rfl⟩) (by assumption) ?_
                try simp only [Act.put, List.getElem_toArray, List.getElem_cons_zero, List.getElem_cons_succ, List.setIfInBounds_toArray, List.set_cons_zero, List.set_cons_succ]
                refine wpAnyH_take (i := 32) (v := _) rfl (by kernel_rfl) (by kernel_rfl) (by kernel_rfl) (fun _ _ _ h => h) (Or.inr ⟨by rfl, rfl⟩) (by assumption) ?_
                try simp only [Act.put, List.getElem_toArray, List.getElem_cons_zero, List.getElem_cons_succ, List.setIfInBounds_toArray, List.set_cons_zero, List.set_cons_succ]
                refine wpAnyH_take (i := 33) (v := ?_) rfl (by kernel_rfl) (by kernel_rfl) (by kernel_rfl) (fun _ _ _ h => h) (Or.inl ⟨by rfl, ?_⟩) (by assumption) ?_
                rotate_left
                · intro w hSw
                  try dsimp only at hSw
                  go_simp
                  try with_reducible rfl
                try simp only [Act.put, List.getElem_toArray, List.getElem_cons_zero, List.getElem_cons_succ, List.setIfInBounds_toArray, List.set_cons_zero, List.set_cons_succ]
                refine wpAnyH_done (by kernel_rfl) ?_ _
                go_wp2
                go_meet
                case rel => exact ⟨by first | (rw [HBL.out]; done) | (rw [HBL.out]; rfl) | simp [HBL.out], ⟨(Below.refl _ wr).drew⟩⟩
              · have d0 : (y != 0) = true := by rw [bne, beq_eq_false_iff_ne.2 hy0]; rfl
                cases hcc : T.counts y with
                | false =>
                  have hbl : T.blocks top y = false := by unfold TT.blocks; rw [hcc]; simp
                  have hc0 := fun W hb => HS.out.counts W y hb
                  rw [hcc] at hc0
                  have HC := Aside0.mk hc0
                  have HBL := Aside0.mk hbl
                  clear hy0 hbl hcc hc0
                  refine wp_region_held_drew (S := fun w' => w'.cell? ⟨b, 1, none⟩ = some (.pointer (some ⟨x, 0, none⟩))) (by kernel_rfl) ?_ (fun hHeld => ?_)
                  · go_keep
                  refine wpAnyH_take (i := 0) (v := ?_) rfl (by kernel_rfl) (by kernel_rfl) (by kernel_rfl) (fun _ _ _ h => h) (Or.inl ⟨by rfl, ?_⟩) (by assumption) ?_
                  rotate_left
                  · intro w hSw
                    try dsimp only at hSw
                    go_simp
                    try with_reducible rfl
                  try simp only [Act.put, List.getElem_toArray, List.getElem_cons_zero, List.getElem_cons_succ, List.setIfInBounds_toArray, List.set_cons_zero, List.set_cons_succ]
                  refine wpAnyH_take (i := 1) (v := ?_) rfl (by kernel_rfl) (by kernel_rfl) (by kernel_rfl) (fun _ _ _ h => h) (Or.inl ⟨by rfl, ?_⟩) (by assumption) ?_
                  rotate_left
                  · intro w hSw
                    try dsimp only at hSw
                    go_simp
                    try with_reducible rfl
                  try simp only [Act.put, List.getElem_toArray, List.getElem_cons_zero, List.getElem_cons_succ, List.setIfInBounds_toArray, List.set_cons_zero, List.set_cons_succ]
                  refine wpAnyH_take (i := 2) (v := ?_) rfl (by kernel_rfl) (by kernel_rfl) (by kernel_rfl) (fun _ _ _ h => h) (Or.inl ⟨by rfl, ?_⟩) (by assumption) ?_
                  rotate_left
                  · intro w hSw
                    try dsimp only at hSw
                    go_simp
                    try with_reducible rfl
                  try simp only [Act.put, List.getElem_toArray, List.getElem_cons_zero, List.getElem_cons_succ, List.setIfInBounds_toArray, List.set_cons_zero, List.set_cons_succ]
                  refine wpAnyH_take (i := 3) (v := ?_) rfl (by kernel_rfl) (by kernel_rfl) (by kernel_rfl) (fun _ _ _ h => h) (Or.inl ⟨by rfl, ?_⟩) (by assumption) ?_
                  rotate_left
                  · intro w hSw
                    try dsimp only at hSw
                    go_simp
                    try with_reducible rfl
                  try simp only [Act.put, List.getElem_toArray, List.getElem_cons_zero, List.getElem_cons_succ, List.setIfInBounds_toArray, List.set_cons_zero, List.set_cons_succ]
                  refine wpAnyH_take (i := 4) (v := ?_) rfl (by kernel_rfl) (by kernel_rfl) (by kernel_rfl) (fun _ _ _ h => h) (Or.inl ⟨by rfl, ?_⟩) (by assumption) ?_
                  rotate_left
                  · intro w hSw
                    try dsimp only at hSw
                    go_simp
                    try with_reducible rfl
                  try simp only [Act.put, List.getElem_toArray, List.getElem_cons_zero, List.getElem_cons_succ, List.setIfInBounds_toArray, List.set_cons_zero, List.set_cons_succ]
                  refine wpAnyH_take (i := 5) (v := ?_) rfl (by kernel_rfl) (by kernel_rfl) (by kernel_rfl) (fun _ _ _ h => h) (Or.inl ⟨by rfl, ?_⟩) (by assumption) ?_
                  rotate_left
                  · intro w hSw
                    try dsimp only at hSw
                    go_simp
                    try with_reducible rfl
                  try simp only [Act.put, List.getElem_toArray, List.getElem_cons_zero, List.getElem_cons_succ, List.setIfInBounds_toArray, List.set_cons_zero, List.set_cons_succ]
                  refine wpAnyH_take (i := 6) (v := ?_) rfl (by kernel_rfl) (by kernel_rfl) (by kernel_rfl) (fun _ _ _ h => h) (Or.inl ⟨by rfl, ?_⟩) (by assumption) ?_
                  rotate_left
                  · intro w hSw
                    try dsimp only at hSw
                    go_simp
                    try with_reducible rfl
                  try simp only [Act.put, List.getElem_toArray, List.getElem_cons_zero, List.getElem_cons_succ, List.setIfInBounds_toArray, List.set_cons_zero, List.set_cons_succ]
                  refine wpAnyH_take (i := 7) (v := ?_) rfl (by kernel_rfl) (by kernel_rfl) (by kernel_rfl) (fun _ _ _ h => h) (Or.inl ⟨by rfl, ?_⟩) (by assumption) ?_
                  rotate_left
                  · intro w hSw
                    try dsimp only at hSw
                    go_simp
                    try with_reducible rfl
                  try simp only [Act.put, List.getElem_toArray, List.getElem_cons_zero, List.getElem_cons_succ, List.setIfInBounds_toArray, List.set_cons_zero, List.set_cons_succ]
                  refine wpAnyH_ready (rs := [8]) (by kernel_rfl) (by simp) ?_
                  refine AllReadyH.cons rfl (fun K hK => ?_) AllReadyH.nil
                  go_simp
                  (go_at_call 65; refine (HC.out _ (hB3.out.trans (Below.mono ((Below.refl wr.heap.size wr).drew) hB3.out.size))).mono ?_; rintro e w20 ⟨rfl, hb20⟩; have hc20 : Below wr.heap.size wr w20 := Below.trans ((Below.refl wr.heap.size wr).drew) (Below.mono hb20 (Below.size ((Below.refl wr.heap.size wr).drew))); have r20 := mv.out w20 (hB3.out.trans (hc20.mono hB3.out.size)); replace hc20 := Aside0.mk hc20; clear hb20)
                  refine hK.out _ _ ?_ (fun hHeld => ?_)
                  · go_keep
                  clear hK K
                  try simp only [Act.put, List.getElem_toArray, List.getElem_cons_zero, List.getElem_cons_succ, List.setIfInBounds_toArray, List.set_cons_zero, List.set_cons_succ]
                  refine wpAnyH_take (i := 9) (v := ?_) rfl (by kernel_rfl) (by kernel_rfl) (by kernel_rfl) (fun _ _ _ h => h) (Or.inl ⟨by rfl, ?_⟩) (by assumption) ?_
                  rotate_left
                  · intro w hSw
                    try dsimp only at hSw
                    go_simp
                    try with_reducible rfl
                  try simp only [Act.put, List.getElem_toArray, List.getElem_cons_zero, List.getElem_cons_succ, List.setIfInBounds_toArray, List.set_cons_zero, List.set_cons_succ]
                  refine wpAnyH_take (i := 10) (v := ?_) rfl (by kernel_rfl) (by kernel_rfl) (by kernel_rfl) (fun _ _ _ h => h) (Or.inl ⟨by rfl, ?_⟩) (by assumption) ?_
                  rotate_left
                  · intro w hSw
                    try dsimp only at hSw
                    go_simp
                    try with_reducible rfl
                  try simp only [Act.put, List.getElem_toArray, List.getElem_cons_zero, List.getElem_cons_succ, List.setIfInBounds_toArray, List.set_cons_zero, List.set_cons_succ]
                  refine wpAnyH_take (i := 11) (v := _) rfl (by kernel_rfl) (by kernel_rfl) (by kernel_rfl) (fun _ _ _ h => h) (Or.inr ⟨by rfl, rfl⟩) (by assumption) ?_
                  try simp only [Act.put, List.getElem_toArray, List.getElem_cons_zero, List.getElem_cons_succ, List.setIfInBounds_toArray, List.set_cons_zero, List.set_cons_succ]
                  refine wpAnyH_take (i := 12) (v := _) rfl (by kernel_rfl) (by kernel_rfl) (by kernel_rfl) (fun _ _ _ h => h) (Or.inr ⟨by rfl, rfl⟩) (by assumption) ?_
                  try simp only [Act.put, List.getElem_toArray, List.getElem_cons_zero, List.getElem_cons_succ, List.setIfInBounds_toArray, List.set_cons_zero, List.set_cons_succ]
                  refine wpAnyH_take (i := 13) (v := _) rfl (by kernel_rfl) (by kernel_rfl) (by kernel_rfl) (fun _ _ _ h => h) (Or.inr ⟨by rfl, rfl⟩) (by assumption) ?_
                  try simp only [Act.put, List.getElem_toArray, List.getElem_cons_zero, List.getElem_cons_succ, List.setIfInBounds_toArray, List.set_cons_zero, List.set_cons_succ]
                  refine wpAnyH_take (i := 14) (v := _) rfl (by kernel_rfl) (by kernel_rfl) (by kernel_rfl) (fun _ _ _ h => h) (Or.inr ⟨by rfl, rfl⟩) (by assumption) ?_
                  try simp only [Act.put, List.getElem_toArray, List.getElem_cons_zero, List.getElem_cons_succ, List.setIfInBounds_toArray, List.set_cons_zero, List.set_cons_succ]
                  refine wpAnyH_take (i := 15) (v := _) rfl (by kernel_rfl) (by kernel_rfl) (by kernel_rfl) (fun _ _ _ h => h) (Or.inr ⟨by rfl, rfl⟩) (by assumption) ?_
                  try simp only [Act.put, List.getElem_toArray, List.getElem_cons_zero, List.getElem_cons_succ, List.setIfInBounds_toArray, List.set_cons_zero, List.set_cons_succ]
                  refine wpAnyH_take (i := 16) (v := _) rfl (by kernel_rfl) (by kernel_rfl) (by kernel_rfl) (fun _ _ _ h => h) (Or.inr ⟨by rfl, rfl⟩) (by assumption) ?_
                  try simp only [Act.put, List.getElem_toArray, List.getElem_cons_zero, List.getElem_cons_succ, List.setIfInBounds_toArray, List.set_cons_zero, List.set_cons_succ]
                  refine wpAnyH_take (i := 17) (v := _) rfl (by kernel_rfl) (by kernel_rfl) (by kernel_rfl) (fun _ _ _ h => h) (Or.inr ⟨by rfl, rfl⟩) (by assumption) ?_
                  try simp only [Act.put, List.getElem_toArray, List.getElem_cons_zero, List.getElem_cons_succ, List.setIfInBounds_toArray, List.set_cons_zero, List.set_cons_succ]
                  refine wpAnyH_take (i := 18) (v := _) rfl (by kernel_rfl) (by kernel_rfl) (by kernel_rfl) (fun _ _ _ h => h) (Or.inr ⟨by rfl, rfl⟩) (by assumption) ?_
                  try simp only [Act.put, List.getElem_toArray, List.getElem_cons_zero, List.getElem_cons_succ, List.setIfInBounds_toArray, List.set_cons_zero, List.set_cons_succ]
                  refine wpAnyH_take (i := 19) (v := ?_) rfl (by kernel_rfl) (by kernel_rfl) (by kernel_rfl) (fun _ _ _ h => h) (Or.inl ⟨by rfl, ?_⟩) (by assumption) ?_
                  rotate_left
                  · intro w hSw
                    try dsimp only at hSw
                    go_simp
                    try with_reducible rfl
                  try simp only [Act.put, List.getElem_toArray, List.getElem_cons_zero, List.getElem_cons_succ, List.setIfInBounds_toArray, List.set_cons_zero, List.set_cons_succ]
                  refine wpAnyH_take (i := 20) (v := ?_) rfl (by kernel_rfl) (by kernel_rfl) (by kernel_rfl) (fun _ _ _ h => h) (Or.inl ⟨by rfl, ?_⟩) (by assumption) ?_
                  rotate_left
                  · intro w hSw
                    try dsimp only at hSw
                    go_simp
                    try with_reducible rfl
                  try simp only [Act.put, List.getElem_toArray, List.getElem_cons_zero, List.getElem_cons_succ, List.setIfInBounds_toArray, List.set_cons_zero, List.set_cons_succ]
                  refine wpAnyH_take (i := 21) (v := _) rfl (by kernel_rfl) (by kernel_rfl) (by kernel_rfl) (fun _ _ _ h => h) (Or.inr ⟨by rfl, rfl⟩) (by assumption) ?_
                  try simp only [Act.put, List.getElem_toArray, List.getElem_cons_zero, List.getElem_cons_succ, List.setIfInBounds_toArray, List.set_cons_zero, List.set_cons_succ]
                  refine wpAnyH_take (i := 22) (v := _) rfl (by kernel_rfl) (by kernel_rfl) (by kernel_rfl) (fun _ _ _ h => h) (Or.inr ⟨by rfl, rfl⟩) (by assumption) ?_
                  try simp only [Act.put, List.getElem_toArray, List.getElem_cons_zero, List.getElem_cons_succ, List.setIfInBounds_toArray, List.set_cons_zero, List.set_cons_succ]
                  refine wpAnyH_take (i := 23) (v := _) rfl (by kernel_rfl) (by kernel_rfl) (by kernel_rfl) (fun _ _ _ h => h) (Or.inr ⟨by rfl, rfl⟩) (by assumption) ?_
                  try simp only [Act.put, List.getElem_toArray, List.getElem_cons_zero, List.getElem_cons_succ, List.setIfInBounds_toArray, List.set_cons_zero, List.set_cons_succ]
                  refine wpAnyH_take (i := 24) (v := _) rfl (by kernel_rfl) (by kernel_rfl) (by kernel_rfl) (fun _ _ _ h => h) (Or.inr ⟨by rfl, rfl⟩) (by assumption) ?_
                  try simp only [Act.put, List.getElem_toArray, List.getElem_cons_zero, List.getElem_cons_succ, List.setIfInBounds_toArray, List.set_cons_zero, List.set_cons_succ]
                  refine wpAnyH_take (i := 25) (v := _) rfl (by kernel_rfl) (by kernel_rfl) (by kernel_rfl) (fun _ _ _ h => h) (Or.inr ⟨by rfl, rfl⟩) (by assumption) ?_
                  try simp only [Act.put, List.getElem_toArray, List.getElem_cons_zero, List.getElem_cons_succ, List.setIfInBounds_toArray, List.set_cons_zero, List.set_cons_succ]
                  refine wpAnyH_take (i := 26) (v := _) rfl (by kernel_rfl) (by kernel_rfl) (by kernel_rfl) (fun _ _ _ h => h) (Or.inr ⟨by rfl, rfl⟩) (by assumption) ?_
                  try simp only [Act.put, List.getElem_toArray, List.getElem_cons_zero, List.getElem_cons_succ, List.setIfInBounds_toArray, List.set_cons_zero, List.set_cons_succ]
                  refine wpAnyH_take (i := 27) (v := _) rfl (by kernel_rfl) (by kernel_rfl) (by kernel_rfl) (fun _ _ _ h => h) (Or.inr ⟨by rfl, rfl⟩) (by assumption) ?_
                  try simp only [Act.put, List.getElem_toArray, List.getElem_cons_zero, List.getElem_cons_succ, List.setIfInBounds_toArray, List.set_cons_zero, List.set_cons_succ]
                  refine wpAnyH_take (i := 28) (v := _) rfl (by kernel_rfl) (by kernel_rfl) (by kernel_rfl) (fun _ _ _ h => h) (Or.inr ⟨by rfl, rfl⟩) (by assumption) ?_
                  try simp only [Act.put, List.getElem_toArray, List.getElem_cons_zero, List.getElem_cons_succ, List.setIfInBounds_toArray, List.set_cons_zero, List.set_cons_succ]
                  refine wpAnyH_take (i := 29) (v := _) rfl (by kernel_rfl) (by kernel_rfl) (by kernel_rfl) (fun _ _ _ h => h) (Or.inr ⟨by rfl, rfl⟩) (by assumption) ?_
                  try simp only [Act.put, List.getElem_toArray, List.getElem_cons_zero, List.getElem_cons_succ, List.setIfInBounds_toArray, List.set_cons_zero, List.set_cons_succ]
                  refine wpAnyH_take (i := 30) (v := _) rfl (by kernel_rfl) (by kernel_rfl) (by kernel_rfl) (fun _ _ _ h => h) (Or.inr ⟨by rfl, rfl⟩) (by assumption) ?_
                  try simp only [Act.put, List.getElem_toArray, List.getElem_cons_zero, List.getElem_cons_succ, List.setIfInBounds_toArray, List.set_cons_zero, List.set_cons_succ]
                  refine wpAnyH_take (i := 31) (v := _) rfl (by kernel_rfl) (by kernel_rfl) (by kernel_rfl) (fun _ _ _ h => h) (Or.inr ⟨by rfl, rfl⟩) (by assumption) ?_
                  try simp only [Act.put, List.getElem_toArray, List.getElem_cons_zero, List.getElem_cons_succ, List.setIfInBounds_toArray, List.set_cons_zero, List.set_cons_succ]
                  refine wpAnyH_take (i := 32) (v := _) rfl (by kernel_rfl) (by kernel_rfl) (by kernel_rfl) (fun _ _ _ h => h) (Or.inr ⟨by rfl, rfl⟩) (by assumption) ?_
                  try simp only [Act.put, List.getElem_toArray, List.getElem_cons_zero, List.getElem_cons_succ, List.setIfInBounds_toArray, List.set_cons_zero, List.set_cons_succ]
                  refine wpAnyH_take (i := 33) (v := ?_) rfl (by kernel_rfl) (by kernel_rfl) (by kernel_rfl) (fun _ _ _ h => h) (Or.inl ⟨by rfl, ?_⟩) (by assumption) ?_
                  rotate_left
                  · intro w hSw
                    try dsimp only at hSw
                    go_simp
                    try with_reducible rfl
                  try simp only [Act.put, List.getElem_toArray, List.getElem_cons_zero, List.getElem_cons_succ, List.setIfInBounds_toArray, List.set_cons_zero, List.set_cons_succ]
                  refine wpAnyH_done (by kernel_rfl) ?_ _
                  go_wp2
                  go_meet
                  case rel => exact ⟨by first | (rw [HBL.out]; done) | (rw [HBL.out]; rfl) | simp [HBL.out], hc20⟩
                | true =>
                  have hc0 := fun W hb => HS.out.counts W y hb
                  rw [hcc] at hc0
                  have HC := Aside0.mk hc0
                  clear hc0
                  by_cases htt : T.top y = top
                  · have hbl : T.blocks top y = false := by unfold TT.blocks; rw [htt, beq_self_eq_true]; simp
                    have d1 : (T.top y != top) = false := by rw [bne, htt, beq_self_eq_true]; rfl
                    have HBL := Aside0.mk hbl
                    clear hy0 hbl hcc htt
                    refine wp_region_held_drew (S := fun w' => w'.cell? ⟨b, 1, none⟩ = some (.pointer (some ⟨x, 0, none⟩))) (by kernel_rfl) ?_ (fun hHeld => ?_)
                    · go_keep
                    refine wpAnyH_take (i := 0) (v := ?_) rfl (by kernel_rfl) (by kernel_rfl) (by kernel_rfl) (fun _ _ _ h => h) (Or.inl ⟨by rfl, ?_⟩) (by assumption) ?_
                    rotate_left
                    · intro w hSw
                      try dsimp only at hSw
                      go_simp
                      try with_reducible rfl
                    try simp only [Act.put, List.getElem_toArray, List.getElem_cons_zero, List.getElem_cons_succ, List.setIfInBounds_toArray, List.set_cons_zero, List.set_cons_succ]
                    refine wpAnyH_take (i := 1) (v := ?_) rfl (by kernel_rfl) (by kernel_rfl) (by kernel_rfl) (fun _ _ _ h => h) (Or.inl ⟨by rfl, ?_⟩) (by assumption) ?_
                    rotate_left
                    · intro w hSw
                      try dsimp only at hSw
                      go_simp
                      try with_reducible rfl
                    try simp only [Act.put, List.getElem_toArray, List.getElem_cons_zero, List.getElem_cons_succ, List.setIfInBounds_toArray, List.set_cons_zero, List.set_cons_succ]
                    refine wpAnyH_take (i := 2) (v := ?_) rfl (by kernel_rfl) (by kernel_rfl) (by kernel_rfl) (fun _ _ _ h => h) (Or.inl ⟨by rfl, ?_⟩) (by assumption) ?_
                    rotate_left
                    · intro w hSw
                      try dsimp only at hSw
                      go_simp
                      try with_reducible rfl
                    try simp only [Act.put, List.getElem_toArray, List.getElem_cons_zero, List.getElem_cons_succ, List.setIfInBounds_toArray, List.set_cons_zero, List.set_cons_succ]
                    refine wpAnyH_take (i := 3) (v := ?_) rfl (by kernel_rfl) (by kernel_rfl) (by kernel_rfl) (fun _ _ _ h => h) (Or.inl ⟨by rfl, ?_⟩) (by assumption) ?_
                    rotate_left
                    · intro w hSw
                      try dsimp only at hSw
                      go_simp
                      try with_reducible rfl
                    try simp only [Act.put, List.getElem_toArray, List.getElem_cons_zero, List.getElem_cons_succ, List.setIfInBounds_toArray, List.set_cons_zero, List.set_cons_succ]
                    refine wpAnyH_take (i := 4) (v := ?_) rfl (by kernel_rfl) (by kernel_rfl) (by kernel_rfl) (fun _ _ _ h => h) (Or.inl ⟨by rfl, ?_⟩) (by assumption) ?_
                    rotate_left
                    · intro w hSw
                      try dsimp only at hSw
                      go_simp
                      try with_reducible rfl
                    try simp only [Act.put, List.getElem_toArray, List.getElem_cons_zero, List.getElem_cons_succ, List.setIfInBounds_toArray, List.set_cons_zero, List.set_cons_succ]
                    refine wpAnyH_take (i := 5) (v := ?_) rfl (by kernel_rfl) (by kernel_rfl) (by kernel_rfl) (fun _ _ _ h => h) (Or.inl ⟨by rfl, ?_⟩) (by assumption) ?_
                    rotate_left
                    · intro w hSw
                      try dsimp only at hSw
                      go_simp
                      try with_reducible rfl
                    try simp only [Act.put, List.getElem_toArray, List.getElem_cons_zero, List.getElem_cons_succ, List.setIfInBounds_toArray, List.set_cons_zero, List.set_cons_succ]
                    refine wpAnyH_take (i := 6) (v := ?_) rfl (by kernel_rfl) (by kernel_rfl) (by kernel_rfl) (fun _ _ _ h => h) (Or.inl ⟨by rfl, ?_⟩) (by assumption) ?_
                    rotate_left
                    · intro w hSw
                      try dsimp only at hSw
                      go_simp
                      try with_reducible rfl
                    try simp only [Act.put, List.getElem_toArray, List.getElem_cons_zero, List.getElem_cons_succ, List.setIfInBounds_toArray, List.set_cons_zero, List.set_cons_succ]
                    refine wpAnyH_take (i := 7) (v := ?_) rfl (by kernel_rfl) (by kernel_rfl) (by kernel_rfl) (fun _ _ _ h => h) (Or.inl ⟨by rfl, ?_⟩) (by assumption) ?_
                    rotate_left
                    · intro w hSw
                      try dsimp only at hSw
                      go_simp
                      try with_reducible rfl
                    try simp only [Act.put, List.getElem_toArray, List.getElem_cons_zero, List.getElem_cons_succ, List.setIfInBounds_toArray, List.set_cons_zero, List.set_cons_succ]
                    refine wpAnyH_ready (rs := [8]) (by kernel_rfl) (by simp) ?_
                    refine AllReadyH.cons rfl (fun K hK => ?_) AllReadyH.nil
                    go_simp
                    (go_at_call 65; refine (HC.out _ (hB3.out.trans (Below.mono ((Below.refl wr.heap.size wr).drew) hB3.out.size))).mono ?_; rintro e w20 ⟨rfl, hb20⟩; have hc20 : Below wr.heap.size wr w20 := Below.trans ((Below.refl wr.heap.size wr).drew) (Below.mono hb20 (Below.size ((Below.refl wr.heap.size wr).drew))); have r20 := mv.out w20 (hB3.out.trans (hc20.mono hB3.out.size)); replace hc20 := Aside0.mk hc20; clear hb20)
                    refine hK.out _ _ ?_ (fun hHeld => ?_)
                    · go_keep
                    clear hK K
                    try simp only [Act.put, List.getElem_toArray, List.getElem_cons_zero, List.getElem_cons_succ, List.setIfInBounds_toArray, List.set_cons_zero, List.set_cons_succ]
                    refine wpAnyH_take (i := 9) (v := ?_) rfl (by kernel_rfl) (by kernel_rfl) (by kernel_rfl) (fun _ _ _ h => h) (Or.inl ⟨by rfl, ?_⟩) (by assumption) ?_
                    rotate_left
                    · intro w hSw
                      try dsimp only at hSw
                      go_simp
                      try with_reducible rfl
                    try simp only [Act.put, List.getElem_toArray, List.getElem_cons_zero, List.getElem_cons_succ, List.setIfInBounds_toArray, List.set_cons_zero, List.set_cons_succ]
                    refine wpAnyH_take (i := 10) (v := ?_) rfl (by kernel_rfl) (by kernel_rfl) (by kernel_rfl) (fun _ _ _ h => h) (Or.inl ⟨by rfl, ?_⟩) (by assumption) ?_
                    rotate_left
                    · intro w hSw
                      try dsimp only at hSw
                      go_simp
                      try with_reducible rfl
                    try simp only [Act.put, List.getElem_toArray, List.getElem_cons_zero, List.getElem_cons_succ, List.setIfInBounds_toArray, List.set_cons_zero, List.set_cons_succ]
                    refine wpAnyH_take (i := 11) (v := ?_) rfl (by kernel_rfl) (by kernel_rfl) (by kernel_rfl) (fun _ _ _ h => h) (Or.inl ⟨by rfl, ?_⟩) (by assumption) ?_
                    rotate_left
                    · intro w hSw
                      try dsimp only at hSw
                      go_simp
                      try with_reducible rfl
                    try simp only [Act.put, List.getElem_toArray, List.getElem_cons_zero, List.getElem_cons_succ, List.setIfInBounds_toArray, List.set_cons_zero, List.set_cons_succ]
                    refine wpAnyH_take (i := 12) (v := ?_) rfl (by kernel_rfl) (by kernel_rfl) (by kernel_rfl) (fun _ _ _ h => h) (Or.inl ⟨by rfl, ?_⟩) (by assumption) ?_
                    rotate_left
                    · intro w hSw
                      try dsimp only at hSw
                      go_simp
                      try with_reducible rfl
                    try simp only [Act.put, List.getElem_toArray, List.getElem_cons_zero, List.getElem_cons_succ, List.setIfInBounds_toArray, List.set_cons_zero, List.set_cons_succ]
                    refine wpAnyH_take (i := 13) (v := ?_) rfl (by kernel_rfl) (by kernel_rfl) (by kernel_rfl) (fun _ _ _ h => h) (Or.inl ⟨by rfl, ?_⟩) (by assumption) ?_
                    rotate_left
                    · intro w hSw
                      try dsimp only at hSw
                      go_simp
                      try with_reducible rfl
                    try simp only [Act.put, List.getElem_toArray, List.getElem_cons_zero, List.getElem_cons_succ, List.setIfInBounds_toArray, List.set_cons_zero, List.set_cons_succ]
                    refine wpAnyH_take (i := 14) (v := ?_) rfl (by kernel_rfl) (by kernel_rfl) (by kernel_rfl) (fun _ _ _ h => h) (Or.inl ⟨by rfl, ?_⟩) (by assumption) ?_
                    rotate_left
                    · intro w hSw
                      try dsimp only at hSw
                      go_simp
                      try with_reducible rfl
                    try simp only [Act.put, List.getElem_toArray, List.getElem_cons_zero, List.getElem_cons_succ, List.setIfInBounds_toArray, List.set_cons_zero, List.set_cons_succ]
                    refine wpAnyH_take (i := 15) (v := ?_) rfl (by kernel_rfl) (by kernel_rfl) (by kernel_rfl) (fun _ _ _ h => h) (Or.inl ⟨by rfl, ?_⟩) (by assumption) ?_
                    rotate_left
                    · intro w hSw
                      try dsimp only at hSw
                      go_simp
                      try with_reducible rfl
                    try simp only [Act.put, List.getElem_toArray, List.getElem_cons_zero, List.getElem_cons_succ, List.setIfInBounds_toArray, List.set_cons_zero, List.set_cons_succ]
                    refine wpAnyH_take (i := 17) (v := ?_) rfl (by kernel_rfl) (by kernel_rfl) (by kernel_rfl) (fun _ _ _ h => h) (Or.inl ⟨by rfl, ?_⟩) (by assumption) ?_
                    rotate_left
                    · intro w hSw
                      try dsimp only at hSw
                      go_simp
                      try with_reducible rfl
                    try simp only [Act.put, List.getElem_toArray, List.getElem_cons_zero, List.getElem_cons_succ, List.setIfInBounds_toArray, List.set_cons_zero, List.set_cons_succ]
                    refine wpAnyH_ready (rs := [16]) (by kernel_rfl) (by simp) ?_
                    refine AllReadyH.cons rfl (fun K hK => ?_) AllReadyH.nil
                    go_simp
                    (go_at_call 66; refine (HS.out.top _ _ (hB3.out.trans (Below.mono (hc20.out) hB3.out.size))).mono ?_; rintro e w21 ⟨rfl, hb21⟩; have hc21 : Below wr.heap.size wr w21 := Below.trans (hc20.out) (Below.mono hb21 (Below.size (hc20.out))); have r21 := mv.out w21 (hB3.out.trans (hc21.mono hB3.out.size)); replace hc21 := Aside0.mk hc21; clear hb21)
                    refine hK.out _ _ ?_ (fun hHeld => ?_)
                    · go_keep
                    clear hK K
                    try simp only [Act.put, List.getElem_toArray, List.getElem_cons_zero, List.getElem_cons_succ, List.setIfInBounds_toArray, List.set_cons_zero, List.set_cons_succ]
                    refine wpAnyH_take (i := 18) (v := ?_) rfl (by kernel_rfl) (by kernel_rfl) (by kernel_rfl) (fun _ _ _ h => h) (Or.inl ⟨by rfl, ?_⟩) (by assumption) ?_
                    rotate_left
                    · intro w hSw
                      try dsimp only at hSw
                      go_simp
                      try with_reducible rfl
                    try simp only [Act.put, List.getElem_toArray, List.getElem_cons_zero, List.getElem_cons_succ, List.setIfInBounds_toArray, List.set_cons_zero, List.set_cons_succ]
                    refine wpAnyH_take (i := 19) (v := ?_) rfl (by kernel_rfl) (by kernel_rfl) (by kernel_rfl) (fun _ _ _ h => h) (Or.inl ⟨by rfl, ?_⟩) (by assumption) ?_
                    rotate_left
                    · intro w hSw
                      try dsimp only at hSw
                      go_simp
                      try with_reducible rfl
                    try simp only [Act.put, List.getElem_toArray, List.getElem_cons_zero, List.getElem_cons_succ, List.setIfInBounds_toArray, List.set_cons_zero, List.set_cons_succ]
                    refine wpAnyH_take (i := 20) (v := ?_) rfl (by kernel_rfl) (by kernel_rfl) (by kernel_rfl) (fun _ _ _ h => h) (Or.inl ⟨by rfl, ?_⟩) (by assumption) ?_
                    rotate_left
                    · intro w hSw
                      try dsimp only at hSw
                      go_simp
                      try with_reducible rfl
                    try simp only [Act.put, List.getElem_toArray, List.getElem_cons_zero, List.getElem_cons_succ, List.setIfInBounds_toArray, List.set_cons_zero, List.set_cons_succ]
                    refine wpAnyH_take (i := 21) (v := _) rfl (by kernel_rfl) (by kernel_rfl) (by kernel_rfl) (fun _ _ _ h => h) (Or.inr ⟨by rfl, rfl⟩) (by assumption) ?_
                    try simp only [Act.put, List.getElem_toArray, List.getElem_cons_zero, List.getElem_cons_succ, List.setIfInBounds_toArray, List.set_cons_zero, List.set_cons_succ]
                    refine wpAnyH_take (i := 22) (v := _) rfl (by kernel_rfl) (by kernel_rfl) (by kernel_rfl) (fun _ _ _ h => h) (Or.inr ⟨by rfl, rfl⟩) (by assumption) ?_
                    try simp only [Act.put, List.getElem_toArray, List.getElem_cons_zero, List.getElem_cons_succ, List.setIfInBounds_toArray, List.set_cons_zero, List.set_cons_succ]
                    refine wpAnyH_take (i := 23) (v := _) rfl (by kernel_rfl) (by kernel_rfl) (by kernel_rfl) (fun _ _ _ h => h) (Or.inr ⟨by rfl, rfl⟩) (by assumption) ?_
                    try simp only [Act.put, List.getElem_toArray, List.getElem_cons_zero, List.getElem_cons_succ, List.setIfInBounds_toArray, List.set_cons_zero, List.set_cons_succ]
                    refine wpAnyH_take (i := 24) (v := _) rfl (by kernel_rfl) (by kernel_rfl) (by kernel_rfl) (fun _ _ _ h => h) (Or.inr ⟨by rfl, rfl⟩) (by assumption) ?_
                    try simp only [Act.put, List.getElem_toArray, List.getElem_cons_zero, List.getElem_cons_succ, List.setIfInBounds_toArray, List.set_cons_zero, List.set_cons_succ]
                    refine wpAnyH_take (i := 25) (v := _) rfl (by kernel_rfl) (by kernel_rfl) (by kernel_rfl) (fun _ _ _ h => h) (Or.inr ⟨by rfl, rfl⟩) (by assumption) ?_
                    try simp only [Act.put, List.getElem_toArray, List.getElem_cons_zero, List.getElem_cons_succ, List.setIfInBounds_toArray, List.set_cons_zero, List.set_cons_succ]
                    refine wpAnyH_take (i := 26) (v := _) rfl (by kernel_rfl) (by kernel_rfl) (by kernel_rfl) (fun _ _ _ h => h) (Or.inr ⟨by rfl, rfl⟩) (by assumption) ?_
                    try simp only [Act.put, List.getElem_toArray, List.getElem_cons_zero, List.getElem_cons_succ, List.setIfInBounds_toArray, List.set_cons_zero, List.set_cons_succ]
                    refine wpAnyH_take (i := 27) (v := _) rfl (by kernel_rfl) (by kernel_rfl) (by kernel_rfl) (fun _ _ _ h => h) (Or.inr ⟨by rfl, rfl⟩) (by assumption) ?_
                    try simp only [Act.put, List.getElem_toArray, List.getElem_cons_zero, List.getElem_cons_succ, List.setIfInBounds_toArray, List.set_cons_zero, List.set_cons_succ]
                    refine wpAnyH_take (i := 28) (v := _) rfl (by kernel_rfl) (by kernel_rfl) (by kernel_rfl) (fun _ _ _ h => h) (Or.inr ⟨by rfl, rfl⟩) (by assumption) ?_
                    try simp only [Act.put, List.getElem_toArray, List.getElem_cons_zero, List.getElem_cons_succ, List.setIfInBounds_toArray, List.set_cons_zero, List.set_cons_succ]
                    refine wpAnyH_take (i := 29) (v := _) rfl (by kernel_rfl) (by kernel_rfl) (by kernel_rfl) (fun _ _ _ h => h) (Or.inr ⟨by rfl, rfl⟩) (by assumption) ?_
                    try simp only [Act.put, List.getElem_toArray, List.getElem_cons_zero, List.getElem_cons_succ, List.setIfInBounds_toArray, List.set_cons_zero, List.set_cons_succ]
                    refine wpAnyH_take (i := 30) (v := _) rfl (by kernel_rfl) (by kernel_rfl) (by kernel_rfl) (fun _ _ _ h => h) (Or.inr ⟨by rfl, rfl⟩) (by assumption) ?_
                    try simp only [Act.put, List.getElem_toArray, List.getElem_cons_zero, List.getElem_cons_succ, List.setIfInBounds_toArray, List.set_cons_zero, List.set_cons_succ]
                    refine wpAnyH_take (i := 31) (v := _) rfl (by kernel_rfl) (by kernel_rfl) (by kernel_rfl) (fun _ _ _ h => h) (Or.inr ⟨by rfl, rfl⟩) (by assumption) ?_
                    try simp only [Act.put, List.getElem_toArray, List.getElem_cons_zero, List.getElem_cons_succ, List.setIfInBounds_toArray, List.set_cons_zero, List.set_cons_succ]
                    refine wpAnyH_take (i := 32) (v := _) rfl (by kernel_rfl) (by kernel_rfl) (by kernel_rfl) (fun _ _ _ h => h) (Or.inr ⟨by rfl, rfl⟩) (by assumption) ?_
                    try simp only [Act.put, List.getElem_toArray, List.getElem_cons_zero, List.getElem_cons_succ, List.setIfInBounds_toArray, List.set_cons_zero, List.set_cons_succ]
                    refine wpAnyH_take (i := 33) (v := ?_) rfl (by kernel_rfl) (by kernel_rfl) (by kernel_rfl) (fun _ _ _ h => h) (Or.inl ⟨by rfl, ?_⟩) (by assumption) ?_
                    rotate_left
                    · intro w hSw
                      try dsimp only at hSw
                      go_simp
                      try with_reducible rfl
                    try simp only [Act.put, List.getElem_toArray, List.getElem_cons_zero, List.getElem_cons_succ, List.setIfInBounds_toArray, List.set_cons_zero, List.set_cons_succ]
                    refine wpAnyH_done (by kernel_rfl) ?_ _
                    go_wp2
                    go_meet
                    case rel => exact ⟨by first | (rw [HBL.out]; done) | (rw [HBL.out]; rfl) | simp [HBL.out], hc21⟩
                  · have hbl : T.blocks top y = (T.number (T.top y) == 0) := by unfold TT.blocks; rw [decide_eq_true hy0, hcc, beq_eq_false_iff_ne.2 htt]; simp
                    have d1 : (T.top y != top) = true := by rw [bne, beq_eq_false_iff_ne.2 htt]; rfl
                    have HBL := Aside0.mk hbl
                    clear hy0 hbl hcc htt
                    refine wp_region_held_drew (S := fun w' => w'.cell? ⟨b, 1, none⟩ = some (.pointer (some ⟨x, 0, none⟩))) (by kernel_rfl) ?_ (fun hHeld => ?_)
                    · go_keep
                    refine wpAnyH_take (i := 0) (v := ?_) rfl (by kernel_rfl) (by kernel_rfl) (by kernel_rfl) (fun _ _ _ h => h) (Or.inl ⟨by rfl, ?_⟩) (by assumption) ?_
                    rotate_left
                    · intro w hSw
                      try dsimp only at hSw
                      go_simp
                      try with_reducible rfl
                    try simp only [Act.put, List.getElem_toArray, List.getElem_cons_zero, List.getElem_cons_succ, List.setIfInBounds_toArray, List.set_cons_zero, List.set_cons_succ]
                    refine wpAnyH_take (i := 1) (v := ?_) rfl (by kernel_rfl) (by kernel_rfl) (by kernel_rfl) (fun _ _ _ h => h) (Or.inl ⟨by rfl, ?_⟩) (by assumption) ?_
                    rotate_left
                    · intro w hSw
                      try dsimp only at hSw
                      go_simp
                      try with_reducible rfl
                    try simp only [Act.put, List.getElem_toArray, List.getElem_cons_zero, List.getElem_cons_succ, List.setIfInBounds_toArray, List.set_cons_zero, List.set_cons_succ]
                    refine wpAnyH_take (i := 2) (v := ?_) rfl (by kernel_rfl) (by kernel_rfl) (by kernel_rfl) (fun _ _ _ h => h) (Or.inl ⟨by rfl, ?_⟩) (by assumption) ?_
                    rotate_left
                    · intro w hSw
                      try dsimp only at hSw
                      go_simp
                      try with_reducible rfl
                    try simp only [Act.put, List.getElem_toArray, List.getElem_cons_zero, List.getElem_cons_succ, List.setIfInBounds_toArray, List.set_cons_zero, List.set_cons_succ]
                    refine wpAnyH_take (i := 3) (v := ?_) rfl (by kernel_rfl) (by kernel_rfl) (by kernel_rfl) (fun _ _ _ h => h) (Or.inl ⟨by rfl, ?_⟩) (by assumption) ?_
                    rotate_left
                    · intro w hSw
                      try dsimp only at hSw
                      go_simp
                      try with_reducible rfl
                    try simp only [Act.put, List.getElem_toArray, List.getElem_cons_zero, List.getElem_cons_succ, List.setIfInBounds_toArray, List.set_cons_zero, List.set_cons_succ]
                    refine wpAnyH_take (i := 4) (v := ?_) rfl (by kernel_rfl) (by kernel_rfl) (by kernel_rfl) (fun _ _ _ h => h) (Or.inl ⟨by rfl, ?_⟩) (by assumption) ?_
                    rotate_left
                    · intro w hSw
                      try dsimp only at hSw
                      go_simp
                      try with_reducible rfl
                    try simp only [Act.put, List.getElem_toArray, List.getElem_cons_zero, List.getElem_cons_succ, List.setIfInBounds_toArray, List.set_cons_zero, List.set_cons_succ]
                    refine wpAnyH_take (i := 5) (v := ?_) rfl (by kernel_rfl) (by kernel_rfl) (by kernel_rfl) (fun _ _ _ h => h) (Or.inl ⟨by rfl, ?_⟩) (by assumption) ?_
                    rotate_left
                    · intro w hSw
                      try dsimp only at hSw
                      go_simp
                      try with_reducible rfl
                    try simp only [Act.put, List.getElem_toArray, List.getElem_cons_zero, List.getElem_cons_succ, List.setIfInBounds_toArray, List.set_cons_zero, List.set_cons_succ]
                    refine wpAnyH_take (i := 6) (v := ?_) rfl (by kernel_rfl) (by kernel_rfl) (by kernel_rfl) (fun _ _ _ h => h) (Or.inl ⟨by rfl, ?_⟩) (by assumption) ?_
                    rotate_left
                    · intro w hSw
                      try dsimp only at hSw
                      go_simp
                      try with_reducible rfl
                    try simp only [Act.put, List.getElem_toArray, List.getElem_cons_zero, List.getElem_cons_succ, List.setIfInBounds_toArray, List.set_cons_zero, List.set_cons_succ]
                    refine wpAnyH_take (i := 7) (v := ?_) rfl (by kernel_rfl) (by kernel_rfl) (by kernel_rfl) (fun _ _ _ h => h) (Or.inl ⟨by rfl, ?_⟩) (by assumption) ?_
                    rotate_left
                    · intro w hSw
                      try dsimp only at hSw
                      go_simp
                      try with_reducible rfl
                    try simp only [Act.put, List.getElem_toArray, List.getElem_cons_zero, List.getElem_cons_succ, List.setIfInBounds_toArray, List.set_cons_zero, List.set_cons_succ]
                    refine wpAnyH_ready (rs := [8]) (by kernel_rfl) (by simp) ?_
                    refine AllReadyH.cons rfl (fun K hK => ?_) AllReadyH.nil
                    go_simp
                    (go_at_call 65; refine (HC.out _ (hB3.out.trans (Below.mono ((Below.refl wr.heap.size wr).drew) hB3.out.size))).mono ?_; rintro e w20 ⟨rfl, hb20⟩; have hc20 : Below wr.heap.size wr w20 := Below.trans ((Below.refl wr.heap.size wr).drew) (Below.mono hb20 (Below.size ((Below.refl wr.heap.size wr).drew))); have r20 := mv.out w20 (hB3.out.trans (hc20.mono hB3.out.size)); replace hc20 := Aside0.mk hc20; clear hb20)
                    refine hK.out _ _ ?_ (fun hHeld => ?_)
                    · go_keep
                    clear hK K
                    try simp only [Act.put, List.getElem_toArray, List.getElem_cons_zero, List.getElem_cons_succ, List.setIfInBounds_toArray, List.set_cons_zero, List.set_cons_succ]
                    refine wpAnyH_take (i := 9) (v := ?_) rfl (by kernel_rfl) (by kernel_rfl) (by kernel_rfl) (fun _ _ _ h => h) (Or.inl ⟨by rfl, ?_⟩) (by assumption) ?_
                    rotate_left
                    · intro w hSw
                      try dsimp only at hSw
                      go_simp
                      try with_reducible rfl
                    try simp only [Act.put, List.getElem_toArray, List.getElem_cons_zero, List.getElem_cons_succ, List.setIfInBounds_toArray, List.set_cons_zero, List.set_cons_succ]
                    refine wpAnyH_take (i := 10) (v := ?_) rfl (by kernel_rfl) (by kernel_rfl) (by kernel_rfl) (fun _ _ _ h => h) (Or.inl ⟨by rfl, ?_⟩) (by assumption) ?_
                    rotate_left
                    · intro w hSw
                      try dsimp only at hSw
                      go_simp
                      try with_reducible rfl
                    try simp only [Act.put, List.getElem_toArray, List.getElem_cons_zero, List.getElem_cons_succ, List.setIfInBounds_toArray, List.set_cons_zero, List.set_cons_succ]
                    refine wpAnyH_take (i := 11) (v := ?_) rfl (by kernel_rfl) (by kernel_rfl) (by kernel_rfl) (fun _ _ _ h => h) (Or.inl ⟨by rfl, ?_⟩) (by assumption) ?_
                    rotate_left
                    · intro w hSw
                      try dsimp only at hSw
                      go_simp
                      try with_reducible rfl
                    try simp only [Act.put, List.getElem_toArray, List.getElem_cons_zero, List.getElem_cons_succ, List.setIfInBounds_toArray, List.set_cons_zero, List.set_cons_succ]
                    refine wpAnyH_take (i := 12) (v := ?_) rfl (by kernel_rfl) (by kernel_rfl) (by kernel_rfl) (fun _ _ _ h => h) (Or.inl ⟨by rfl, ?_⟩) (by assumption) ?_
                    rotate_left
                    · intro w hSw
                      try dsimp only at hSw
                      go_simp
                      try with_reducible rfl
                    try simp only [Act.put, List.getElem_toArray, List.getElem_cons_zero, List.getElem_cons_succ, List.setIfInBounds_toArray, List.set_cons_zero, List.set_cons_succ]
                    refine wpAnyH_take (i := 13) (v := ?_) rfl (by kernel_rfl) (by kernel_rfl) (by kernel_rfl) (fun _ _ _ h => h) (Or.inl ⟨by rfl, ?_⟩) (by assumption) ?_
                    rotate_left
                    · intro w hSw
                      try dsimp only at hSw
                      go_simp
                      try with_reducible rfl
                    try simp only [Act.put, List.getElem_toArray, List.getElem_cons_zero, List.getElem_cons_succ, List.setIfInBounds_toArray, List.set_cons_zero, List.set_cons_succ]
                    refine wpAnyH_take (i := 14) (v := ?_) rfl (by kernel_rfl) (by kernel_rfl) (by kernel_rfl) (fun _ _ _ h => h) (Or.inl ⟨by rfl, ?_⟩) (by assumption) ?_
                    rotate_left
                    · intro w hSw
                      try dsimp only at hSw
                      go_simp
                      try with_reducible rfl
                    try simp only [Act.put, List.getElem_toArray, List.getElem_cons_zero, List.getElem_cons_succ, List.setIfInBounds_toArray, List.set_cons_zero, List.set_cons_succ]
                    refine wpAnyH_take (i := 15) (v := ?_) rfl (by kernel_rfl) (by kernel_rfl) (by kernel_rfl) (fun _ _ _ h => h) (Or.inl ⟨by rfl, ?_⟩) (by assumption) ?_
                    rotate_left
                    · intro w hSw
                      try dsimp only at hSw
                      go_simp
                      try with_reducible rfl
                    try simp only [Act.put, List.getElem_toArray, List.getElem_cons_zero, List.getElem_cons_succ, List.setIfInBounds_toArray, List.set_cons_zero, List.set_cons_succ]
                    refine wpAnyH_take (i := 17) (v := ?_) rfl (by kernel_rfl) (by kernel_rfl) (by kernel_rfl) (fun _ _ _ h => h) (Or.inl ⟨by rfl, ?_⟩) (by assumption) ?_
                    rotate_left
                    · intro w hSw
                      try dsimp only at hSw
                      go_simp
                      try with_reducible rfl
                    try simp only [Act.put, List.getElem_toArray, List.getElem_cons_zero, List.getElem_cons_succ, List.setIfInBounds_toArray, List.set_cons_zero, List.set_cons_succ]
                    refine wpAnyH_ready (rs := [16]) (by kernel_rfl) (by simp) ?_
                    refine AllReadyH.cons rfl (fun K hK => ?_) AllReadyH.nil
                    go_simp
                    (go_at_call 66; refine (HS.out.top _ _ (hB3.out.trans (Below.mono (hc20.out) hB3.out.size))).mono ?_; rintro e w21 ⟨rfl, hb21⟩; have hc21 : Below wr.heap.size wr w21 := Below.trans (hc20.out) (Below.mono hb21 (Below.size (hc20.out))); have r21 := mv.out w21 (hB3.out.trans (hc21.mono hB3.out.size)); replace hc21 := Aside0.mk hc21; clear hb21)
                    refine hK.out _ _ ?_ (fun hHeld => ?_)
                    · go_keep
                    clear hK K
                    try simp only [Act.put, List.getElem_toArray, List.getElem_cons_zero, List.getElem_cons_succ, List.setIfInBounds_toArray, List.set_cons_zero, List.set_cons_succ]
                    refine wpAnyH_take (i := 18) (v := ?_) rfl (by kernel_rfl) (by kernel_rfl) (by kernel_rfl) (fun _ _ _ h => h) (Or.inl ⟨by rfl, ?_⟩) (by assumption) ?_
                    rotate_left
                    · intro w hSw
                      try dsimp only at hSw
                      go_simp
                      try with_reducible rfl
                    try simp only [Act.put, List.getElem_toArray, List.getElem_cons_zero, List.getElem_cons_succ, List.setIfInBounds_toArray, List.set_cons_zero, List.set_cons_succ]
                    refine wpAnyH_take (i := 19) (v := ?_) rfl (by kernel_rfl) (by kernel_rfl) (by kernel_rfl) (fun _ _ _ h => h) (Or.inl ⟨by rfl, ?_⟩) (by assumption) ?_
                    rotate_left
                    · intro w hSw
                      try dsimp only at hSw
                      go_simp
                      try with_reducible rfl
                    try simp only [Act.put, List.getElem_toArray, List.getElem_cons_zero, List.getElem_cons_succ, List.setIfInBounds_toArray, List.set_cons_zero, List.set_cons_succ]
                    refine wpAnyH_take (i := 20) (v := ?_) rfl (by kernel_rfl) (by kernel_rfl) (by kernel_rfl) (fun _ _ _ h => h) (Or.inl ⟨by rfl, ?_⟩) (by assumption) ?_
                    rotate_left
                    · intro w hSw
                      try dsimp only at hSw
                      go_simp
                      try with_reducible rfl
                    try simp only [Act.put, List.getElem_toArray, List.getElem_cons_zero, List.getElem_cons_succ, List.setIfInBounds_toArray, List.set_cons_zero, List.set_cons_succ]
                    refine wpAnyH_take (i := 21) (v := ?_) rfl (by kernel_rfl) (by kernel_rfl) (by kernel_rfl) (fun _ _ _ h => h) (Or.inl ⟨by rfl, ?_⟩) (by assumption) ?_
                    rotate_left
                    · intro w hSw
                      try dsimp only at hSw
                      go_simp
                      try with_reducible rfl
                    try simp only [Act.put, List.getElem_toArray, List.getElem_cons_zero, List.getElem_cons_succ, List.setIfInBounds_toArray, List.set_cons_zero, List.set_cons_succ]
                    refine wpAnyH_take (i := 22) (v := ?_) rfl (by kernel_rfl) (by kernel_rfl) (by kernel_rfl) (fun _ _ _ h => h) (Or.inl ⟨by rfl, ?_⟩) (by assumption) ?_
                    rotate_left
                    · intro w hSw
                      try dsimp only at hSw
                      go_simp
                      try with_reducible rfl
                    try simp only [Act.put, List.getElem_toArray, List.getElem_cons_zero, List.getElem_cons_succ, List.setIfInBounds_toArray, List.set_cons_zero, List.set_cons_succ]
                    refine wpAnyH_take (i := 23) (v := ?_) rfl (by kernel_rfl) (by kernel_rfl) (by kernel_rfl) (fun _ _ _ h => h) (Or.inl ⟨by rfl, ?_⟩) (by assumption) ?_
                    rotate_left
                    · intro w hSw
                      try dsimp only at hSw
                      go_simp
                      try with_reducible rfl
                    try simp only [Act.put, List.getElem_toArray, List.getElem_cons_zero, List.getElem_cons_succ, List.setIfInBounds_toArray, List.set_cons_zero, List.set_cons_succ]
                    refine wpAnyH_take (i := 24) (v := ?_) rfl (by kernel_rfl) (by kernel_rfl) (by kernel_rfl) (fun _ _ _ h => h) (Or.inl ⟨by rfl, ?_⟩) (by assumption) ?_
                    rotate_left
                    · intro w hSw
                      try dsimp only at hSw
                      go_simp
                      try with_reducible rfl
                    try simp only [Act.put, List.getElem_toArray, List.getElem_cons_zero, List.getElem_cons_succ, List.setIfInBounds_toArray, List.set_cons_zero, List.set_cons_succ]
                    refine wpAnyH_take (i := 25) (v := ?_) rfl (by kernel_rfl) (by kernel_rfl) (by kernel_rfl) (fun _ _ _ h => h) (Or.inl ⟨by rfl, ?_⟩) (by assumption) ?_
                    rotate_left
                    · intro w hSw
                      try dsimp only at hSw
                      go_simp
                      try with_reducible rfl
                    try simp only [Act.put, List.getElem_toArray, List.getElem_cons_zero, List.getElem_cons_succ, List.setIfInBounds_toArray, List.set_cons_zero, List.set_cons_succ]
                    refine wpAnyH_take (i := 26) (v := ?_) rfl (by kernel_rfl) (by kernel_rfl) (by kernel_rfl) (fun _ _ _ h => h) (Or.inl ⟨by rfl, ?_⟩) (by assumption) ?_
                    rotate_left
                    · intro w hSw
                      try dsimp only at hSw
                      go_simp
                      try with_reducible rfl
                    try simp only [Act.put, List.getElem_toArray, List.getElem_cons_zero, List.getElem_cons_succ, List.setIfInBounds_toArray, List.set_cons_zero, List.set_cons_succ]
                    refine wpAnyH_take (i := 27) (v := ?_) rfl (by kernel_rfl) (by kernel_rfl) (by kernel_rfl) (fun _ _ _ h => h) (Or.inl ⟨by rfl, ?_⟩) (by assumption) ?_
                    rotate_left
                    · intro w hSw
                      try dsimp only at hSw
                      go_simp
                      try with_reducible rfl
                    try simp only [Act.put, List.getElem_toArray, List.getElem_cons_zero, List.getElem_cons_succ, List.setIfInBounds_toArray, List.set_cons_zero, List.set_cons_succ]
                    refine wpAnyH_take (i := 28) (v := ?_) rfl (by kernel_rfl) (by kernel_rfl) (by kernel_rfl) (fun _ _ _ h => h) (Or.inl ⟨by rfl, ?_⟩) (by assumption) ?_
                    rotate_left
                    · intro w hSw
                      try dsimp only at hSw
                      go_simp
                      try with_reducible rfl
                    try simp only [Act.put, List.getElem_toArray, List.getElem_cons_zero, List.getElem_cons_succ, List.setIfInBounds_toArray, List.set_cons_zero, List.set_cons_succ]
                    refine wpAnyH_take (i := 29) (v := ?_) rfl (by kernel_rfl) (by kernel_rfl) (by kernel_rfl) (fun _ _ _ h => h) (Or.inl ⟨by rfl, ?_⟩) (by assumption) ?_
                    rotate_left
                    · intro w hSw
                      try dsimp only at hSw
                      go_simp
                      try with_reducible rfl
                    try simp only [Act.put, List.getElem_toArray, List.getElem_cons_zero, List.getElem_cons_succ, List.setIfInBounds_toArray, List.set_cons_zero, List.set_cons_succ]
                    refine wpAnyH_ready (rs := [30]) (by kernel_rfl) (by simp) ?_
                    refine AllReadyH.cons rfl (fun K hK => ?_) AllReadyH.nil
                    go_simp
                    (go_at_call 66; refine (HS.out.top _ _ (hB3.out.trans (Below.mono (hc21.out) hB3.out.size))).mono ?_; rintro e w22 ⟨rfl, hb22⟩; have hc22 : Below wr.heap.size wr w22 := Below.trans (hc21.out) (Below.mono hb22 (Below.size (hc21.out))); have r22 := mv.out w22 (hB3.out.trans (hc22.mono hB3.out.size)); replace hc22 := Aside0.mk hc22; clear hb22)
                    refine hK.out _ _ ?_ (fun hHeld => ?_)
                    · go_keep
                    clear hK K
                    try simp only [Act.put, List.getElem_toArray, List.getElem_cons_zero, List.getElem_cons_succ, List.setIfInBounds_toArray, List.set_cons_zero, List.set_cons_succ]
                    refine wpAnyH_ready (rs := [31]) (by kernel_rfl) (by simp) ?_
                    refine AllReadyH.cons rfl (fun K hK => ?_) AllReadyH.nil
                    go_simp
                    (go_at_call 67; refine (HS.out.number _ _ (hB3.out.trans (Below.mono (hc22.out) hB3.out.size))).mono ?_; rintro e w23 ⟨rfl, hb23⟩; have hc23 : Below wr.heap.size wr w23 := Below.trans (hc22.out) (Below.mono hb23 (Below.size (hc22.out))); have r23 := mv.out w23 (hB3.out.trans (hc23.mono hB3.out.size)); replace hc23 := Aside0.mk hc23; clear hb23)
                    refine hK.out _ _ ?_ (fun hHeld => ?_)
                    · go_keep
                    clear hK K
                    try simp only [Act.put, List.getElem_toArray, List.getElem_cons_zero, List.getElem_cons_succ, List.setIfInBounds_toArray, List.set_cons_zero, List.set_cons_succ]
                    refine wpAnyH_take (i := 32) (v := ?_) rfl (by kernel_rfl) (by kernel_rfl) (by kernel_rfl) (fun _ _ _ h => h) (Or.inl ⟨by rfl, ?_⟩) (by assumption) ?_
                    rotate_left
                    · intro w hSw
                      try dsimp only at hSw
                      go_simp
                      try with_reducible rfl
                    try simp only [Act.put, List.getElem_toArray, List.getElem_cons_zero, List.getElem_cons_succ, List.setIfInBounds_toArray, List.set_cons_zero, List.set_cons_succ]
                    refine wpAnyH_take (i := 33) (v := ?_) rfl (by kernel_rfl) (by kernel_rfl) (by kernel_rfl) (fun _ _ _ h => h) (Or.inl ⟨by rfl, ?_⟩) (by assumption) ?_
                    rotate_left
                    · intro w hSw
                      try dsimp only at hSw
                      go_simp
                      try with_reducible rfl
                    try simp only [Act.put, List.getElem_toArray, List.getElem_cons_zero, List.getElem_cons_succ, List.setIfInBounds_toArray, List.set_cons_zero, List.set_cons_succ]
                    refine wpAnyH_done (by kernel_rfl) ?_ _
                    go_wp2
                    go_meet
                    case rel => exact ⟨by first | (rw [HBL.out]; done) | (rw [HBL.out]; rfl) | simp [HBL.out], hc23⟩
            case rest =>
              obtain ⟨rfl, hBd⟩ := hcut
              clear hy2 r1
              cases hbk : T.blocks top y with
              | true =>
                have hwr := Aside0.mk (show A.writes T top sub id n = (false, A) from by
                  have hor : (T.blocks top (A.at s).f2 || T.blocks top (A.at s).f4) = true := by
                    have hj3 : j = 0 ∨ j = 1 := by have := HJ.out; omega
                    rcases hj3 with h0 | h0
                    · rw [← HY.out.1 h0, hbk]
                      rfl
                    · rw [← HY.out.2 h0, hbk, Bool.or_true]
                  have hbl : A.blocked T top id = true := by
                    unfold AH.blocked
                    rw [HR.out.2, List.any_eq_true]
                    refine ⟨s, ?_, hor⟩
                    have hm : s ∈ R.take (i + 1) := by rw [htk.out]; simp
                    exact List.mem_of_mem_take hm
                  unfold AH.writes
                  rw [if_pos hbl])
                clear hbk
                go_wp2
                go_ret
                exact ⟨by rw [hwr.out]; rfl, by rw [hwr.out]; exact (HW.out.below (hB3.out.trans (hBd.out.mono hB3.out.size))).more (by omega)⟩
              | false =>
                have HBK := Aside0.mk hbk
                have hwj : wrap64 ((j : Int) + 1) = ((j + 1 : Nat) : Int) := by unfold wrap64; omega
                replace hwj := Aside0.mk hwj
                clear hbk
                go_wp2
                go_roundw
                case measure => exact meas_step (n := 2) HJ.out
                case rel =>
                  refine ⟨j + 1, by have := HJ.out; omega, by simp, ⟨hB4.out.trans (hBd.out.mono hB4.out.size)⟩, ⟨fun _ => ?_⟩, ⟨fun h1 => ?_⟩⟩
                  · by_cases h0 : j = 0
                    · rw [← HY.out.1 h0]
                      exact HBK.out
                    · exact hj1.out (by omega)
                  · rw [← HY.out.2 (by have := HJ.out; omega)]
                    exact HBK.out
          · have e1 : decide ((j : Int) < 2) = false := decide_eq_false (by omega)
            have e4 : decide (j < 2) = false := decide_eq_false hjl
            have HNB := Aside0.mk (show (T.blocks top (A.at s).f2 || T.blocks top (A.at s).f4) = false from by rw [hj1.out (by omega), hj2.out (by omega)]; rfl)
            have hwi : wrap64 ((i : Int) + 1) = ((i + 1 : Nat) : Int) := by unfold wrap64; omega
            replace hwi := Aside0.mk hwi
            have hmi := Aside0.mk (meas_step HLT.out)
            clear hjl hj1 hj2
            go_wp2
            go_roundw
            case measure => exact hmi.out
            case rel =>
              refine ⟨i + 1, HLT.out, by simp, ⟨hBi.out.trans ((hBw.out.trans (hB4.out.mono hBw.out.size)).mono hBi.out.size)⟩, ⟨?_⟩⟩
              rw [htk.out, List.any_append, hnb.out]
              simp [HNB.out]
    · have d1 : decide ((i : Int) < (R.length : Int)) = false := decide_eq_false (by omega)
      have d1b : decide (i < R.length) = false := decide_eq_false hlt
      have hie : i = R.length := by omega
      have hbl : A.blocked T top id = false := by
        unfold AH.blocked
        rw [HR.out.2]
        have := hnb.out
        rw [hie, List.take_length] at this
        exact this
      have hwr0 : A.writes T top sub id n = (match A.seen T T.last top 1 id with
        | none => if n < 0 then (false, A) else (decide ((A.putE ⟨1, id, sub, 0, 0, 0, [valOf n]⟩).2.1 = 0), (A.putE ⟨1, id, sub, 0, 0, 0, [valOf n]⟩).2.2)
        | some s => if (A.kill s sub 0).1 = 0 then (if n < 0 then (true, (A.kill s sub 0).2) else (decide (((A.kill s sub 0).2.putE ⟨1, id, sub, 0, 0, 0, [valOf n]⟩).2.1 = 0), ((A.kill s sub 0).2.putE ⟨1, id, sub, 0, 0, 0, [valOf n]⟩).2.2))
          else (false, (A.kill s sub 0).2)) := by
        unfold AH.writes
        rw [hbl]
        rfl
      have hnow := Aside0.mk (HS.out.now wr.drew top (hB.out.trans ((Below.refl _ wr).drew.mono hB.out.size)))
      have hsee := Aside0.mk (fun W hb => HS.out.seen W T.last top id HO.out hb)
      have r0 := mv0.out wr hB.out
      have r1 := mv.out wr hB.out
      clear hlt hie hbl hnb
      generalize A.seen T T.last top 1 id = r at hsee hwr0
      go_upto_region 12 with (fail)
      go_region_held3 (fun w' => w'.cell? ⟨b, 0, none⟩ = some (.pointer (some ⟨h, 0, none⟩)) ∧ w'.cell? ⟨b, 1, none⟩ = some (.pointer (some ⟨x, 0, none⟩))) (go_keep) ((first
        | (go_at_call 22; refine hnow.out.mono ?_; rintro e w5 ⟨rfl, hb5⟩; have hb6 : Below wr.heap.size wr w5 := (Below.refl wr.heap.size wr).drew.trans (Below.mono hb5 (Nat.le_refl _)); have hb7 := hB.out.trans (hb6.mono hB.out.size); have s0 := mv0.out w5 hb7; have s1 := mv.out w5 hb7; replace hb7 := Aside0.mk hb7; clear hb5 hb6)
        | (go_at_call 32; refine (hsee.out _ hb7.out).mono ?_; rintro e w6 ⟨rfl, hb8⟩; have hb9 := hb7.out.trans (hb8.mono hb7.out.size); have t0 := mv0.out w6 hb9; have t1 := mv.out w6 hb9; replace hb9 := Aside0.mk hb9; clear hb8)))
      clear r0 r1 s0 s1 t1 hnow hsee
      have H6 := HW.out.below hb9.out
      cases r with
      | none =>
        dsimp only at hwr0
        by_cases hn : n < 0
        · rw [if_pos hn] at hwr0
          have hwr := Aside0.mk hwr0
          have dn : decide (n < 0) = true := decide_eq_true hn
          replace H6 := Aside0.mk H6
          clear hwr0 hn
          go_wp2
          go_ret
          exact ⟨by rw [hwr.out]; rfl, by rw [hwr.out]; exact H6.out.more (by omega)⟩
        · rw [if_neg hn] at hwr0
          have hwr := Aside0.mk hwr0
          have dn : decide (n < 0) = false := decide_eq_false hn
          clear hwr0 hn
          have hc0 := H6.wr.c0
          have hr := R_val1 w6 1 n
          have hput := H6.put (by have := HK.out; omega) ⟨1, id, sub, 0, 0, 0, [valOf n]⟩ _ ((Below.refl _ w6).alloc (Nat.le_refl _) _) hr (show 1 < 2 by decide)
          clear hr
          go_wp2_with fail
          refine hput.mono ?_
          clear hput hc0
          rintro e w9 ⟨rfl, h9⟩
          replace h9 := Aside0.mk h9
          generalize hpe : (A.putE ⟨1, id, sub, 0, 0, 0, [valOf n]⟩).2.1 = pe
          cases hpb : (pe == 0) with
          | true =>
            have hpz : pe = 0 := eq_of_beq hpb
            have HP := Aside0.mk (And.intro hpe hpz)
            clear hpe hpz
            go_wp2
            go_ret
            exact ⟨by rw [hwr.out, HP.out.1, HP.out.2]; rfl, by rw [hwr.out]; exact h9.out.more (by omega)⟩
          | false =>
            have hpz : ¬ pe = 0 := fun e => by rw [e] at hpb; cases hpb
            have HP := Aside0.mk (And.intro hpe hpz)
            clear hpe hpz
            go_wp2
            go_ret
            exact ⟨by rw [hwr.out, HP.out.1, decide_eq_false HP.out.2]; rfl, by rw [hwr.out]; exact h9.out.more (by omega)⟩
      | some s =>
        dsimp only at hwr0
        have hkl := H6.kill s sub 0
        clear H6
        generalize hkr : A.kill s sub 0 = kr at hkl hwr0
        obtain ⟨k1, k2⟩ := kr
        simp only at hkl hwr0
        by_cases hk1 : k1 = 0
        · rw [if_pos hk1] at hwr0
          subst hk1
          clear hkr
          go_wp2_with fail
          refine hkl.mono ?_
          clear hkl t0
          rintro e w7 ⟨rfl, H7⟩
          by_cases hn : n < 0
          · rw [if_pos hn] at hwr0
            have hwr := Aside0.mk hwr0
            have dn : decide (n < 0) = true := decide_eq_true hn
            replace H7 := Aside0.mk H7
            clear hwr0 hn
            go_wp2
            go_ret
            exact ⟨by rw [hwr.out]; rfl, by rw [hwr.out]; exact H7.out.more (by omega)⟩
          · rw [if_neg hn] at hwr0
            have hwr := Aside0.mk hwr0
            have dn : decide (n < 0) = false := decide_eq_false hn
            clear hwr0 hn
            have hc0 := H7.wr.c0
            have hr := R_val1 w7 1 n
            have hput := H7.put (by have := HK.out; omega) ⟨1, id, sub, 0, 0, 0, [valOf n]⟩ _ ((Below.refl _ w7).alloc (Nat.le_refl _) _) hr (show 1 < 2 by decide)
            clear hr
            go_wp2_with fail
            refine hput.mono ?_
            clear hput hc0
            rintro e w9 ⟨rfl, h9⟩
            replace h9 := Aside0.mk h9
            generalize hpe : (k2.putE ⟨1, id, sub, 0, 0, 0, [valOf n]⟩).2.1 = pe
            cases hpb : (pe == 0) with
            | true =>
              have hpz : pe = 0 := eq_of_beq hpb
              have HP := Aside0.mk (And.intro hpe hpz)
              clear hpe hpz
              go_wp2
              go_ret
              exact ⟨by rw [hwr.out, HP.out.1, HP.out.2]; rfl, by rw [hwr.out]; exact h9.out.more (by omega)⟩
            | false =>
              have hpz : ¬ pe = 0 := fun e => by rw [e] at hpb; cases hpb
              have HP := Aside0.mk (And.intro hpe hpz)
              clear hpe hpz
              go_wp2
              go_ret
              exact ⟨by rw [hwr.out, HP.out.1, decide_eq_false HP.out.2]; rfl, by rw [hwr.out]; exact h9.out.more (by omega)⟩
        · rw [if_neg hk1] at hwr0
          have hwr := Aside0.mk hwr0
          have dk : (k1 == 0) = false := beq_eq_false_iff_ne.2 hk1
          have dk2 : (k1 != 0) = true := by rw [bne, dk]; rfl
          clear hkr hwr0
          go_wp2_with fail
          refine hkl.mono ?_
          clear hkl t0
          rintro e w7 ⟨rfl, H7⟩
          replace H7 := Aside0.mk H7
          go_wp2
          go_ret
          exact ⟨by rw [hwr.out]; rfl, by rw [hwr.out]; exact H7.out.more (by omega)⟩
end Go.Proofs.Ytljahhgankcalaa

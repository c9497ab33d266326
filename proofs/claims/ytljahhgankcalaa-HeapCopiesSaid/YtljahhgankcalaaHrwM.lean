import Derived.Test.YtljahhgankcalaaHrpM
import Derived.Test.YtljahhgankcalaaHscM
import Derived.Test.YtljahhgankcalaaG5
import Derived.BigQuiet
/-! HeapRows: the walk. -/
namespace Go.Proofs.Ytljahhgankcalaa
open Go.RowKit Go.Maps Go.MapKept Go.WideMaps
open Go.Proofs.YtljahhgankcalaaW.PrintWords Go.Proofs.YtljahhgankcalaaW.PrintLast Go.Proofs.YtljahhgankcalaaW.PrintMore
open PHeapThere
attribute [local go_sem] max2_mx min2_mn max_two min_two
set_option linter.unusedVariables false
set_option linter.unusedSimpArgs false

theorem Inv.ids {w0 w : World} {h : Nat} {A : AH} {F : Nat → Prop} {k : Nat} (H : Inv w0 w h A F k) (hk : k < 2147483648) (no : Int) : Calls Try.prog 36 #[.pointer (some ⟨h, 0, none⟩), .int .i64 no] w fun e w' =>
    ∃ v l, e = .returned v ∧ Kd.R (Kd.int .i64) 3 w' 0 (fun b => w.heap.size ≤ b) v l ∧ A.IsIDs no l ∧ Below w.heap.size w w' := ids_of no H.is H.ok (by have := H.len; omega)
theorem Inv.tabs {w0 w : World} {h : Nat} {A : AH} {F : Nat → Prop} {k : Nat} (H : Inv w0 w h A F k) (hk : k < 2147483648) : Calls Try.prog 35 #[.pointer (some ⟨h, 0, none⟩)] w fun e w' =>
    ∃ v l, e = .returned v ∧ Kd.R (Kd.int .i64) 3 w' 0 (fun b => w.heap.size ≤ b) v l ∧ A.IsTabs l ∧ Below w.heap.size w w' := tabs_of H.is H.ok (by have := H.len; omega)
theorem Inv.slots {w0 w : World} {h : Nat} {A : AH} {F : Nat → Prop} {k : Nat} (H : Inv w0 w h A F k) (hk : k < 2147483648) (no id : Int) (ho : okW (no, id)) : Calls Try.prog 37 #[.pointer (some ⟨h, 0, none⟩), .int .i64 no, .int .i64 id] w fun e w' =>
    ∃ v, e = .returned v ∧ Kd.R kInt 3 w' w.heap.size (fun _ => True) v (A.rows (no, id)) ∧ Below w.heap.size w w' := slots_calls h no id A F w H.is ho (by have := H.ok.rows_len (no, id); have := H.len; omega)
theorem HeapIs.okRow {w : World} {h : Nat} {A : AH} {F : Nat → Prop} (H : HeapIs w h A F) (p : Int × Int) (hne : A.rows p ≠ []) : okW p := by
  obtain ⟨sv, rb, gb, rg, gg, H⟩ := H
  cases hr : rg p with
  | none => exact absurd (H.rown _ hr) hne
  | some v => exact H.rmap.good hr

/-- HeapRows behind its steps: the rows vp have been gone over, and 'more' of the next one; m slots so far; each was met once. -/
structure RowsSt (w W : World) (h bm : Nat) (A : AH) (F : Nat → Prop) (k : Nat) (tv : Value) (T : List Int) (vp : List (Int × Int)) (more : List Int) (g : Int → Option Int) (m : Int) : Prop where
  inv : Inv w W h A F k
  map : MapOf (Value.int .i64) (Value.int .i64) okI W bm g
  tab : Kd.R (Kd.int .i64) 3 W 0 (fun b => bm < b) tv T
  nF : ¬ F bm
  low : w.heap.size ≤ bm
  nodup : vp.Nodup
  gs : ∀ s, g s = if s ∈ A.flat vp ++ more then some 1 else none
  many : m = ((A.flat vp ++ more).length : Nat)
section
variable {w W W' : World} {h bm : Nat} {A : AH} {F : Nat → Prop} {k : Nat} {tv : Value} {T : List Int} {vp : List (Int × Int)} {more : List Int} {g : Int → Option Int} {m : Int}
theorem RowsSt.below (H : RowsSt w W h bm A F k tv T vp more g m) (hB : Below W.heap.size W W') : RowsSt w W' h bm A F k tv T vp more g m :=
  ⟨H.inv.below hB, H.map.move (hB.block bm H.map.lt), Kd.R_below H.tab hB, H.nF, H.low, H.nodup, H.gs, H.many⟩
theorem RowsSt.cell (H : RowsSt w W h bm A F k tv T vp more g m) {i : Nat} (hi : i < T.length) : ∃ b cap, tv = .slice (some ⟨b, 0, none⟩) T.length cap ∧ T.length ≤ cap ∧ W.cell? ⟨b, i, none⟩ = some (.int .i64 T[i]) := by
  obtain ⟨b, cap, h1, h2, _, h3, _⟩ := int_cells H.tab hi
  exact ⟨b, cap, h1, h2, h3⟩
end

set_option maxRecDepth 100000 in
set_option maxHeartbeats 4000000 in
theorem rows_law (A0 : Option Addr) (c0 : Nat) (l : List AStep) (w : World) (hr : Kd.C kStep w A0 l.length l) (hc : l.length ≤ c0) (hs : Sized l) :
    Calls Try.prog 9 #[.slice A0 l.length c0] w fun e w' => e = .returned (.bool true) ∧ Below w.heap.size w w' := by
  obtain ⟨kl, r, hlg, hsm⟩ := large_is l hs
  have HR := Aside0.mk hr
  have HC := Aside0.mk hc
  have HS := Aside0.mk hs
  have HLG := Aside0.mk hlg
  have HSM := Aside0.mk hsm
  clear hr hc hs hlg hsm
  go_enter Try.func9, Try.ntmps9
  go_wp2_with fail
  refine (works_calls w).mono ?_
  rintro e w1 ⟨rfl, b1⟩
  replace b1 := Aside0.mk b1
  go_wp2_with fail
  refine (covenantlaw11_large.calls kl A0 c0 l r w1 (Kd.C_below HR.out b1.out) HC.out HLG.out).mono ?_
  rintro e w2 ⟨rfl, d2⟩
  have b2 := Aside0.mk (b1.out.trans (d2.below.mono b1.out.size))
  clear d2
  cases r with
  | true =>
    go_wp2_with fail
    refine (works_calls w2).mono ?_
    rintro e w3 ⟨rfl, b3⟩
    have b4 := Aside0.mk (b2.out.trans (b3.mono b2.out.size))
    clear b3
    go_wp2
    go_ret
    exact ⟨rfl, b4.out⟩
  | false =>
    obtain ⟨hl120, hrow⟩ := HSM.out rfl
    have HROW := Aside0.mk hrow
    clear hrow
    go_wp2_with fail
    refine (St.start w w2 b2.out).mono ?_
    rintro e w3 ⟨h, rfl, s3⟩
    replace s3 := Aside0.mk s3
    go_wp2
    go_loopw [4] (fun v4 wr => ∃ (k : Nat) (A : AH) (F : Nat → Prop), k ≤ l.length ∧ v4 = .int .i64 k ∧ Aside0 (Inv w wr h A F k)) (fun v4 _ => l.length - (intOf v4).toNat)
    case atStart => exact ⟨0, AH.empty, newer w w3, Nat.zero_le _, rfl, ⟨Inv.of_st s3.out⟩⟩
    case round =>
      obtain ⟨k, A, F, hk, rfl, HI⟩ := hrel
      by_cases hlt : k < l.length
      · have b1 : decide ((k : Int) < (l.length : Int)) = true := decide_eq_true (by omega)
        have p0 : (0 : Int) ≤ (k : Int) := by omega
        have p1 : (k : Int) < (l.length : Int) := by omega
        have hrow := HROW.out k
        obtain ⟨ad, A7, c7, e1, hc7, hr7, hcells⟩ := stepCellsIn HR.out k p1
        have hrd : (l.getD k zStep) = rd_T34 l k := rfl
        rw [hrd] at hrow
        generalize rd_T34 l k = s at hcells hc7 hr7 hrow
        clear hrd
        cases e1
        obtain ⟨x0, x1, x2, x3, x4, x5, x6, x7, x8, x9, x10⟩ := hcells wr HI.out.bel
        have hst := HI.out.step (by omega) s A7 c7 (Kd.C_below hr7 HI.out.bel) hc7 hrow
        obtain ⟨n, e, A', hstep⟩ : ∃ n e A', A.step s = (n, e, A') := ⟨_, _, _, rfl⟩
        rw [hstep] at hst
        simp only [stepCells] at hst
        clear hstep hr7 hc7 hcells
        go_wp2_with fail
        refine hst.mono ?_
        clear hst x0 x1 x2 x3 x4 x5 x6 x7 x8 x9 x10
        rintro ee w6 ⟨rfl, HI6, hch⟩
        generalize hFF : ext F wr w6 = F6 at HI6
        replace HI6 := Aside0.mk HI6
        clear hch hFF
        go_wp2
        go_roundw
        case measure => simp [intOf]; omega
        case rel => exact ⟨k + 1, A', F6, by omega, by go_num, HI6⟩
      · have b1 : decide ((k : Int) < (l.length : Int)) = false := decide_eq_false (by omega)
        obtain rfl : k = l.length := by omega
        have hnF : ¬ F wr.heap.size := fun hf => Nat.lt_irrefl _ (HI.out.is.bound _ hf)
        have hbm := HI.out.bel.size
        have hm0 := MapOf.made wr (Value.int .i64) (Value.int .i64) okI
        have HI1 := HI.out.below ((Below.refl _ wr).alloc (Nat.le_refl _) (.map #[] 0))
        have htab := HI1.tabs (by omega)
        obtain ⟨w5, hw5⟩ : ∃ w5, wr.alloc (.map #[] 0) = w5 := ⟨_, rfl⟩
        rw [hw5] at hm0 HI1 htab
        have hmm := @run_makeMap Try.prog
        have HM0 := Aside0.mk hm0
        have HIA := Aside0.mk HI1
        clear hm0 HI1 HI hlt hk
        go_wp2_with fail
        refine htab.mono ?_
        clear htab
        rintro ee w6 ⟨tv, T, rfl, hT, hTabs, hB⟩
        have hbm5 : wr.heap.size < w5.heap.size := HM0.out.lt
        have hst : RowsSt w w6 h wr.heap.size A F l.length tv T [] [] (fun _ => none) 0 := ⟨HIA.out.below hB, HM0.out.move (hB.block _ hbm5), Kd.R_mono hT (fun b hb => by omega), hnF, hbm, List.nodup_nil, fun s => by simp [AH.flat], by simp [AH.flat]⟩
        generalize wr.heap.size = bm at hst hnF hbm ⊢
        replace hst := Aside0.mk hst
        have hTS := Aside0.mk hTabs
        obtain ⟨ta, tc, e4⟩ := Kd.R_slice hT
        subst e4
        clear hT hTabs hB HM0 HIA hbm5 hw5 hnF hbm
        go_wp2
        go_loopw [6, 8] (fun v6 v8 wr => ∃ (i : Nat) (m : Int) (vp : List (Int × Int)) (g : Int → Option Int), i ≤ T.length ∧ 0 ≤ m ∧ m ≤ 200 ∧ v6 = .int .i64 m ∧ v8 = .int .i64 i ∧ Aside0 (RowsSt w wr h bm A F l.length (.slice ta T.length tc) T vp [] g m) ∧ Aside0 (∀ p, p ∈ vp ↔ p.1 ∈ T.take i ∧ A.rows p ≠ [])) (fun _ v8 _ => T.length - (intOf v8).toNat)
        case atStart => exact ⟨0, 0, [], _, Nat.zero_le _, by omega, by omega, rfl, rfl, hst, ⟨by simp⟩⟩
        case round =>
          clear hst
          obtain ⟨i, m, vp, g, hi, hm0, hm1, rfl, rfl, HS2, HV2⟩ := hrel
          by_cases hil : i < T.length
          · have g1 : decide ((i : Int) < (T.length : Int)) = true := decide_eq_true (by omega)
            have g4 : (i : Int) < (T.length : Int) := by omega
            have g5 : (0 : Int) ≤ (i : Int) := by omega
            obtain ⟨gT, cT, hv, hcap, y0⟩ := HS2.out.cell hil
            obtain ⟨rfl, rfl⟩ : ta = some ⟨gT, 0, none⟩ ∧ tc = cT := by
              injection hv with h1 _ h3
              exact ⟨h1, h3⟩
            clear hv
            obtain ⟨t, ht⟩ : ∃ t, T[i] = t := ⟨_, rfl⟩
            rw [ht] at y0
            replace ht := Aside0.mk ht
            have hids := HS2.out.inv.ids (by omega) t
            go_wp2_with fail
            refine hids.mono ?_
            clear hids
            rintro ee w7 ⟨iv, I, rfl, hI, hIs, hB⟩
            have HS7 := Aside0.mk (HS2.out.below hB)
            have hI2 : Kd.R (Kd.int .i64) 3 w7 0 (fun b => bm < b) iv I := Kd.R_mono hI (fun b hb => by have := HS2.out.map.lt; omega)
            obtain ⟨ia, ic, e5⟩ := Kd.R_slice hI2
            subst e5
            have hI0 : I.length ≠ 0 := fun e => by
              obtain ⟨id, hne⟩ := (hTS.out.2 t).1 (by rw [← ht.out]; exact List.getElem_mem hil)
              have := (hIs.2 id).2 hne
              rw [List.length_eq_zero_iff.1 e] at this
              cases this
            have g6 : (I.length == 0) = false := beq_eq_false_iff_ne.2 hI0
            have g7 : ((I.length : Int) == 0) = false := beq_eq_false_iff_ne.2 (by omega)
            have hIL := hI0
            replace hI2 := Aside0.mk hI2
            replace hIs := Aside0.mk hIs
            clear hI hB HS2 hI0 y0
            have g14 : (T.length : Int) ≤ 9223372036854775807 := by
              obtain ⟨_, cap, _, h1, h2, _⟩ := int_cells HS7.out.tab hil
              unfold maxLen at h2
              omega
            go_upto_region 15 with (fail)
            have y0 : w7.cell? ⟨gT, i, none⟩ = some (.int .i64 t) := by
              have := (int_cell_at HS7.out.tab hil).1
              rwa [ht.out] at this
            go_cut [68] from 38 to 156 (fun v68 wc => v68 = .bool false ∧ Drawn0 w7 wc)
            case first =>
              cases i with
              | zero =>
                have g8 : decide ((0 : Int) < 0) = false := by decide
                go_quiet (fail)
                go_wp2
                go_meet
                case rel => exact ⟨by first | rfl | simp, by first | exact ⟨⟨0, rfl⟩⟩ | exact ⟨⟨1, rfl⟩⟩ | exact ⟨⟨_, rfl⟩⟩⟩
              | succ q =>
                have hq : q < T.length := by omega
                have y1 := (int_cell_at HS7.out.tab hq).1
                have hlt2 : T[q] < T[q + 1] := (List.pairwise_iff_getElem.1 hTS.out.1) q (q + 1) hq hil (by omega)
                rw [ht.out] at hlt2
                have g8 : decide (t ≤ T[q]) = false := decide_eq_false (by omega)
                have g9 : decide ((0 : Int) < (q : Int) + 1) = true := decide_eq_true (by omega)
                have g10 : (q : Int) < (T.length : Int) := by omega
                have g11 : (0 : Int) ≤ (q : Int) := by omega
                have g12 : (q : Int) + 1 < (T.length : Int) := by omega
                have g13 : (0 : Int) ≤ (q : Int) + 1 := by omega
                have g15 : (q : Int) < 9223372036854775807 := by omega
                generalize T[q] = t' at y1 g8
                clear hlt2
                go_quiet (fail)
                go_wp2
                go_meet
                case rel => exact ⟨by first | rfl | simp, by first | exact ⟨⟨0, rfl⟩⟩ | exact ⟨⟨1, rfl⟩⟩ | exact ⟨⟨_, rfl⟩⟩⟩
            case rest =>
              obtain ⟨rfl, hdr⟩ := hcut
              have HS8 := Aside0.mk (HS7.out.below hdr.below)
              have HI8 := Aside0.mk (Kd.R_below hI2.out hdr.below)
              clear HS7 hI2 hdr y0
              obtain ⟨w8, hw8⟩ : ∃ w8, wc = w8 := ⟨_, rfl⟩
              rw [hw8] at HS8 HI8 ⊢
              clear hw8
              go_wp2
              obtain ⟨wo, hwo⟩ : ∃ wo : World, wo = wr := ⟨_, rfl⟩
              clear hwo
              go_loopw [6, 10] (fun v6 v10 wr => ∃ (j : Nat) (m : Int) (vq : List (Int × Int)) (g : Int → Option Int), j ≤ I.length ∧ 0 ≤ m ∧ m ≤ 200 ∧ v6 = .int .i64 m ∧ v10 = .int .i64 j ∧ Aside0 (RowsSt w wr h bm A F l.length (.slice (some ⟨gT, 0, none⟩) T.length tc) T vq [] g m) ∧ Aside0 (Kd.R (Kd.int .i64) 3 wr 0 (fun b => bm < b) (.slice ia I.length ic) I) ∧ Aside0 (∀ p, p ∈ vq ↔ p ∈ vp ∨ (p.1 = t ∧ p.2 ∈ I.take j))) (fun _ v10 _ => I.length - (intOf v10).toNat)
              case atStart => exact ⟨0, m, vp, g, Nat.zero_le _, hm0, hm1, rfl, rfl, HS8, HI8, ⟨fun p => by simp⟩⟩
              case round =>
                clear HS8 HI8 hm0 hm1
                obtain ⟨j, m, vq, g, hj, hm0, hm1, rfl, rfl, HS9, HI9, HV3⟩ := hrel
                by_cases hjl : j < I.length
                · have k1 : decide ((j : Int) < (I.length : Int)) = true := decide_eq_true (by omega)
                  have k4 : (j : Int) < (I.length : Int) := by omega
                  have k5 : (0 : Int) ≤ (j : Int) := by omega
                  obtain ⟨gI, cI, hv, hcapI, hmaxI, y1, _⟩ := int_cells HI9.out hjl
                  obtain ⟨rfl, rfl⟩ : ia = some ⟨gI, 0, none⟩ ∧ ic = cI := by
                    injection hv with h1 _ h3
                    exact ⟨h1, h3⟩
                  clear hv
                  have y0 : wr.cell? ⟨gT, i, none⟩ = some (.int .i64 t) := by
                    have := (int_cell_at HS9.out.tab hil).1
                    rwa [ht.out] at this
                  have k14 : (I.length : Int) ≤ 9223372036854775807 := by
                    unfold maxLen at hmaxI
                    omega
                  obtain ⟨id, hid⟩ : ∃ id, I[j] = id := ⟨_, rfl⟩
                  rw [hid] at y1
                  have hne : A.rows (t, id) ≠ [] := (hIs.out.2 id).1 (by rw [← hid]; exact List.getElem_mem hjl)
                  have hsl := Aside0.mk (fun (W : World) (hb : Below wr.heap.size wr W) => (HS9.out.inv.below hb).slots (by omega) t id (HS9.out.inv.is.okRow _ hne))
                  replace hid := Aside0.mk hid
                  replace hne := Aside0.mk hne
                  go_upto_region 20 with (fail)
                  go_region_held3 (fun w' => w'.cell? ⟨gT, i, none⟩ = some (.int .i64 t) ∧ w'.cell? ⟨gI, j, none⟩ = some (.int .i64 id)) (go_keep) ((go_at_call 37; refine (hsl.out _ (Below.refl _ _).drew).mono ?_; rintro e w' ⟨sv, rfl, hsv, hbs⟩; have r0 := (hbs.cell (p := ⟨gT, i, none⟩) (World.block_lt_of_cell? wr _ y0)).trans y0; have r1 := (hbs.cell (p := ⟨gI, j, none⟩) (World.block_lt_of_cell? wr _ y1)).trans y1; replace hsv := Aside0.mk hsv; replace hbs := Aside0.mk (show Below wr.heap.size wr w' from ⟨hbs.os, hbs.tape, hbs.output, hbs.size, hbs.block⟩)))
                  have HS10 := Aside0.mk (HS9.out.below hbs.out)
                  have HI10 := Aside0.mk (Kd.R_below HI9.out hbs.out)
                  obtain ⟨Sl, hSl⟩ : ∃ Sl, A.rows (t, id) = Sl := ⟨_, rfl⟩
                  rw [hSl] at hsv hne
                  have hS10 := Aside0.mk (Kd.R_mono (Kd.R_lower (Kd.R_bound hsv.out) (Nat.zero_le _)) (fun b hb => by have h1 := hb.2.1; have := HS9.out.map.lt; exact Nat.lt_of_lt_of_le this h1) : Kd.R kInt 3 w' 0 (fun b => bm < b) sv Sl)
                  obtain ⟨sa, sc, e6⟩ := Kd.R_slice hS10.out
                  subst e6
                  have s6 : (Sl.length == 0) = false := beq_eq_false_iff_ne.2 (fun e => hne.out (List.length_eq_zero_iff.1 e))
                  have s7 : ((Sl.length : Int) == 0) = false := beq_eq_false_iff_ne.2 (fun e => hne.out (List.length_eq_zero_iff.1 (by omega)))
                  have hnew : Aside0 ((t, id) ∉ vq) := ⟨fun hm => by
                    rcases (HV3.out _).1 hm with hm | ⟨_, hm⟩
                    · have := ((HV2.out _).1 hm).1
                      rw [← ht.out] at this
                      obtain ⟨x, hx, he⟩ := List.getElem_of_mem this
                      rw [List.length_take] at hx
                      rw [List.getElem_take] at he
                      have := (List.pairwise_iff_getElem.1 hTS.out.1) x i (by omega) hil (by omega)
                      omega
                    · rw [← hid.out] at hm
                      obtain ⟨x, hx, he⟩ := List.getElem_of_mem hm
                      rw [List.length_take] at hx
                      rw [List.getElem_take] at he
                      have := (List.pairwise_iff_getElem.1 hIs.out.1) x j (by omega) hjl (by omega)
                      omega⟩
                  clear HS9 HI9 hsv hbs hsl y0 y1 r0 r1
                  obtain ⟨w10, hw10⟩ : ∃ w10, w' = w10 := ⟨_, rfl⟩
                  rw [hw10] at HS10 HI10 hS10 ⊢
                  clear hw10
                  have y1 : w10.cell? ⟨gI, j, none⟩ = some (.int .i64 id) := by
                    have := (int_cell_at HI10.out hjl).1
                    rwa [hid.out] at this
                  go_upto_region 21 with (fail)
                  go_cut [103] from 69 to 156 (fun v103 wc => v103 = .bool false ∧ Drawn0 w10 wc)
                  case first =>
                    cases j with
                    | zero =>
                      have g8 : decide ((0 : Int) < 0) = false := by decide
                      go_quiet (fail)
                      go_wp2
                      go_meet
                      case rel => exact ⟨by first | rfl | simp, by first | exact ⟨⟨0, rfl⟩⟩ | exact ⟨⟨1, rfl⟩⟩ | exact ⟨⟨_, rfl⟩⟩⟩
                    | succ q =>
                      have hq : q < I.length := by omega
                      have y2 := (int_cell_at HI10.out hq).1
                      have hlt2 : I[q] < I[q + 1] := (List.pairwise_iff_getElem.1 hIs.out.1) q (q + 1) hq hjl (by omega)
                      rw [hid.out] at hlt2
                      have g8 : decide (id ≤ I[q]) = false := decide_eq_false (by omega)
                      have g9 : decide ((0 : Int) < (q : Int) + 1) = true := decide_eq_true (by omega)
                      have g10 : (q : Int) < (I.length : Int) := by omega
                      have g11 : (0 : Int) ≤ (q : Int) := by omega
                      have g12 : (q : Int) + 1 < (I.length : Int) := by omega
                      have g13 : (0 : Int) ≤ (q : Int) + 1 := by omega
                      have g15 : (q : Int) < 9223372036854775807 := by omega
                      generalize I[q] = t' at y2 g8
                      clear hlt2
                      go_quiet (fail)
                      go_wp2
                      go_meet
                      case rel => exact ⟨by first | rfl | simp, by first | exact ⟨⟨0, rfl⟩⟩ | exact ⟨⟨1, rfl⟩⟩ | exact ⟨⟨_, rfl⟩⟩⟩
                  case rest =>
                    obtain ⟨rfl, hdr⟩ := hcut
                    have HS11 := Aside0.mk (HS10.out.below hdr.below)
                    have HI11 := Aside0.mk (Kd.R_below HI10.out hdr.below)
                    have hS11 := Aside0.mk (Kd.R_below hS10.out hdr.below)
                    clear HS10 HI10 hS10 hdr y1
                    obtain ⟨w11, hw11⟩ : ∃ w11, wc = w11 := ⟨_, rfl⟩
                    rw [hw11] at HS11 HI11 hS11 ⊢
                    clear hw11
                    go_wp2
                    obtain ⟨wo, hwo⟩ : ∃ wo : World, wo = wr := ⟨_, rfl⟩
                    clear hwo
                    go_loopw [6, 12] (fun v6 v12 wr => ∃ (n : Nat) (m : Int) (g : Int → Option Int), n ≤ Sl.length ∧ 0 ≤ m ∧ m ≤ 200 ∧ v6 = .int .i64 m ∧ v12 = .int .i64 n ∧ Aside0 (RowsSt w wr h bm A F l.length (.slice (some ⟨gT, 0, none⟩) T.length tc) T vq (Sl.take n) g m) ∧ Aside0 (Kd.R (Kd.int .i64) 3 wr 0 (fun b => bm < b) (.slice (some ⟨gI, 0, none⟩) I.length ic) I) ∧ Aside0 (Kd.R (Kd.int .i64) 3 wr 0 (fun b => bm < b) (.slice sa Sl.length sc) Sl)) (fun _ v12 _ => Sl.length - (intOf v12).toNat)
                    case atStart => exact ⟨0, m, g, Nat.zero_le _, hm0, hm1, rfl, rfl, HS11, HI11, hS11⟩
                    case round =>
                      clear HS11 HI11 hS11 hm0 hm1
                      obtain ⟨n, m, g, hn, hm0, hm1, rfl, rfl, HS12, HI12, hS12⟩ := hrel
                      by_cases hnl : n < Sl.length
                      · have n1 : decide ((n : Int) < (Sl.length : Int)) = true := decide_eq_true (by omega)
                        have n4 : (n : Int) < (Sl.length : Int) := by omega
                        have n5 : (0 : Int) ≤ (n : Int) := by omega
                        obtain ⟨gS, cS, hv, hcapS, hmaxS, y2, _⟩ := int_cells hS12.out hnl
                        obtain ⟨rfl, rfl⟩ : sa = some ⟨gS, 0, none⟩ ∧ sc = cS := by
                          injection hv with h1 _ h3
                          exact ⟨h1, h3⟩
                        have n14 : (Sl.length : Int) ≤ 9223372036854775807 := by
                          unfold maxLen at hmaxS
                          omega
                        have hmem : Sl[n] ∈ A.rows (t, id) := by rw [hSl]; exact List.getElem_mem hnl
                        have hsnd := HS12.out.inv.ok.nodup (t, id)
                        have htake : Sl.take (n + 1) = Sl.take n ++ [Sl[n]] := by rw [List.take_add_one, List.getElem?_eq_getElem hnl]; rfl
                        have hnt : Sl[n] ∉ Sl.take n := fun hm => by
                          rw [hSl] at hsnd
                          have h1 := List.Sublist.nodup (List.take_sublist (n + 1) Sl) hsnd
                          rw [htake, List.nodup_append] at h1
                          exact h1.2.2 _ hm _ (List.mem_singleton_self _) rfl
                        have hlen : (A.flat vq ++ Sl.take n).length + 1 ≤ 120 := by
                          have h1 := AH.flat_le HS12.out.inv.ok (vp := vq ++ [(t, id)]) (List.nodup_append.2 ⟨HS12.out.nodup, by simp, fun x hx y hy e => by
                            rw [List.mem_singleton.1 hy] at e
                            exact hnew.out (e ▸ hx)⟩)
                          rw [A.flat_more, hSl, List.length_append] at h1
                          have h2 := HS12.out.inv.len
                          rw [List.length_append, List.length_take]
                          omega
                        obtain ⟨s, hs⟩ : ∃ s, Sl[n] = s := ⟨_, rfl⟩
                        rw [hs] at hmem hnt htake y2
                        obtain ⟨hth, hrow⟩ := (HS12.out.inv.ok.rows _ s).1 hmem
                        obtain ⟨hf0, hf1⟩ : (A.at s).f0 = t ∧ (A.at s).f1 = id := by
                          injection hrow with h1 h2
                          exact ⟨h1, h2⟩
                        have hsr := (A.there_iff s).1 hth
                        have hsl := HS12.out.inv.len
                        have hoki : okI s := okI_of (by omega) (by omega)
                        have hgn : g s = none := by
                          rw [HS12.out.gs s, if_neg]
                          intro hm
                          rcases List.mem_append.1 hm with hm | hm
                          · obtain ⟨q, hq, hsq⟩ := (A.mem_flat vq s).1 hm
                            have := ((HS12.out.inv.ok.rows q s).1 hsq).2
                            rw [hrow] at this
                            exact hnew.out (this ▸ hq)
                          · exact hnt hm
                        have hat := HS12.out.inv.at s
                        rw [show A.atE s = A.at s from by unfold AH.atE; rw [if_pos hth], hth, hf0, hf1] at hat
                        generalize (A.at s).f2 = c2 at hat
                        generalize (A.at s).f3 = c3 at hat
                        generalize (A.at s).f4 = c4 at hat
                        generalize (A.at s).f5 = c5 at hat
                        generalize (A.at s).f6 = c6 at hat
                        replace htake := Aside0.mk htake
                        replace hgn := Aside0.mk hgn
                        replace hoki := Aside0.mk hoki
                        replace hs := Aside0.mk hs
                        replace hlen := Aside0.mk hlen
                        clear hmem hsnd hnt hth hrow hf0 hf1 hsr hsl
                        go_wp2_with fail
                        refine hat.mono ?_
                        clear hat
                        rintro ee w13 ⟨v, rfl, hv13, hb13, _⟩
                        obtain ⟨va, vc, e7⟩ := Kd.R_slice hv13
                        subst e7
                        have hy2 := (hb13.cell (p := ⟨gS, n, none⟩) (World.block_lt_of_cell? wr _ y2)).trans y2
                        have HS13 := Aside0.mk (HS12.out.below hb13)
                        have HI13 := Aside0.mk (Kd.R_below HI12.out hb13)
                        have hS13 := Aside0.mk (Kd.R_below hS12.out hb13)
                        clear y2 HS12 HI12 hS12 hb13 hv13
                        have y2 := hy2
                        clear hy2
                        go_upto_region 27 with (fail)
                        have hbox := blk_new w13 (.cells #[.int .i64 t, .int .i64 id, .int .i64 c2, .int .i64 c3, .int .i64 c4, .int .i64 c5, .slice va c6.length vc] 39)
                        have hBw : Below w13.heap.size w13 (w13.alloc (.cells #[.int .i64 t, .int .i64 id, .int .i64 c2, .int .i64 c3, .int .i64 c4, .int .i64 c5, .slice va c6.length vc] 39)) := (Below.refl _ w13).alloc (Nat.le_refl _) _
                        have hy2 := (hBw.cell (p := ⟨gS, n, none⟩) (World.block_lt_of_cell? w13 _ y2)).trans y2
                        have HS14 := Aside0.mk (HS13.out.below hBw)
                        have HI14 := Aside0.mk (Kd.R_below HI13.out hBw)
                        have hS14 := Aside0.mk (Kd.R_below hS13.out hBw)
                        clear y2 HS13 HI13 hS13 hBw
                        generalize w13.alloc (.cells #[.int .i64 t, .int .i64 id, .int .i64 c2, .int .i64 c3, .int .i64 c4, .int .i64 c5, .slice va c6.length vc] 39) = w14 at hbox hy2 HS14 HI14 hS14 ⊢
                        have y2 := hy2
                        clear hy2
                        generalize w13.heap.size = Bn at hbox ⊢
                        have hlk := gmap_look HS14.out.map hoki.out
                        rw [hgn.out] at hlk
                        simp only [Option.getD_none] at hlk
                        obtain ⟨w15, hup, hm15, hc15, hs15⟩ := HS14.out.map.store keyInt Try.underlying27 hoki.out 1
                        have q0 := blk_cell hbox 0
                        have q1 := blk_cell hbox 1
                        simp at q0 q1
                        have p0 := hc15.cell_some (p := ⟨Bn, 0, none⟩) q0 (HS14.out.map.no_cell q0)
                        have p1 := hc15.cell_some (p := ⟨Bn, 1, none⟩) q1 (HS14.out.map.no_cell q1)
                        have p2 := hc15.cell_some (p := ⟨gS, n, none⟩) y2 (HS14.out.map.no_cell y2)
                        have HI15 := R_map HI14.out HS14.out.map hc15
                        have hS15 := R_map hS14.out HS14.out.map hc15
                        have hinv := HS14.out.inv.other hc15 (fun b hb e => HS14.out.nF (e ▸ hb)) (fun b e => by rw [e]; exact HS14.out.low)
                        have HS15 : RowsSt w w15 h bm A F l.length (.slice (some ⟨gT, 0, none⟩) T.length tc) T vq (Sl.take (n + 1)) (upd g s (some 1)) (m + 1) :=
                          ⟨hinv, hm15, R_map HS14.out.tab HS14.out.map hc15, HS14.out.nF, HS14.out.low, HS14.out.nodup, fun x => by
                            rw [htake.out]
                            by_cases hx : x = s
                            · subst hx
                              rw [upd_same, if_pos (by simp)]
                            · rw [upd_other _ _ hx, HS14.out.gs x]
                              simp [hx], by
                            rw [htake.out, HS14.out.many]
                            simp only [List.length_append, List.length_singleton]
                            omega⟩
                        have p3 : w15.cell? ⟨gT, i, none⟩ = some (.int .i64 t) := by
                          have := (int_cell_at HS15.tab hil).1
                          rwa [ht.out] at this
                        have p4 : w15.cell? ⟨gI, j, none⟩ = some (.int .i64 id) := by
                          have := (int_cell_at HI15 hjl).1
                          rwa [hid.out] at this
                        have hlk2 : ∀ q, (Instr.lookup 27 (.map (some bm)) (.int .i64 s) false).run Try.prog (w15.drewN q) = .ok (.int .i64 1) (w15.drewN q) := fun q => by
                          have := gmap_look (hm15.drewN q) hoki.out
                          rw [upd_same] at this
                          exact this
                        have hm2 : m + 1 ≤ 200 := by
                          have h1 := HS14.out.many
                          have h2 := hlen.out
                          omega
                        replace HS15 := Aside0.mk HS15
                        replace HI15 := Aside0.mk HI15
                        replace hS15 := Aside0.mk hS15
                        clear hm15 hc15 hs15 hinv HS14 HI14 hS14 hbox
                        go_upto_region 29 with (fail)
                        clear hlk hup q0 q1 y2
                        go_quiet (fail)
                        go_wp2
                        go_roundw
                        case measure => simp [intOf]; omega
                        case rel => exact ⟨n + 1, m + 1, _, by omega, by omega, hm2, by go_num, by go_num, ⟨HS15.out.below (Drawn0.below ⟨⟨_, rfl⟩⟩)⟩, ⟨Kd.R_below HI15.out (Drawn0.below ⟨⟨_, rfl⟩⟩)⟩, ⟨Kd.R_below hS15.out (Drawn0.below ⟨⟨_, rfl⟩⟩)⟩⟩
                      · have n1 : decide ((n : Int) < (Sl.length : Int)) = false := decide_eq_false (by omega)
                        obtain rfl : n = Sl.length := by omega
                        have HS13 := HS12.out
                        rw [List.take_length] at HS13
                        have HS14 : RowsSt w wr h bm A F l.length (.slice (some ⟨gT, 0, none⟩) T.length tc) T (vq ++ [(t, id)]) [] g m := ⟨HS13.inv, HS13.map, HS13.tab, HS13.nF, HS13.low, List.nodup_append.2 ⟨HS13.nodup, by simp, fun x hx y hy e => by
                          rw [List.mem_singleton.1 hy] at e
                          exact hnew.out (e ▸ hx)⟩, fun s => by rw [HS13.gs, A.flat_more, hSl]; simp, by rw [HS13.many, A.flat_more, hSl]; simp⟩
                        have hv4 : ∀ p, p ∈ vq ++ [(t, id)] ↔ p ∈ vp ∨ (p.1 = t ∧ p.2 ∈ I.take (j + 1)) := fun p => by
                          rw [List.mem_append, HV3.out, List.take_add_one, List.getElem?_eq_getElem hjl, hid.out]
                          simp only [Option.toList_some, List.mem_append, List.mem_singleton]
                          constructor
                          · rintro ((h1 | ⟨h1, h2⟩) | rfl)
                            · exact .inl h1
                            · exact .inr ⟨h1, .inl h2⟩
                            · exact .inr ⟨rfl, .inr rfl⟩
                          · rintro (h1 | ⟨h1, h2 | h2⟩)
                            · exact .inl (.inl h1)
                            · exact .inl (.inr ⟨h1, h2⟩)
                            · exact .inr (Prod.ext h1 h2)
                        replace HS14 := Aside0.mk HS14
                        replace hv4 := Aside0.mk hv4
                        clear HS13
                        go_wp2
                        go_roundw
                        case measure => simp [intOf]; omega
                        case rel => exact ⟨j + 1, m, _, g, by omega, hm0, hm1, by go_num, by go_num, HS14, HI12, hv4⟩
                · have k1 : decide ((j : Int) < (I.length : Int)) = false := decide_eq_false (by omega)
                  obtain rfl : j = I.length := by omega
                  have hv5 : ∀ p, p ∈ vq ↔ p.1 ∈ T.take (i + 1) ∧ A.rows p ≠ [] := fun p => by
                    rw [HV3.out, HV2.out, List.take_length, List.take_add_one, List.getElem?_eq_getElem hil, ht.out]
                    simp only [Option.toList_some, List.mem_append, List.mem_singleton]
                    constructor
                    · rintro (⟨h1, h2⟩ | ⟨h1, h2⟩)
                      · exact ⟨.inl h1, h2⟩
                      · refine ⟨.inr h1, ?_⟩
                        have := (hIs.out.2 p.2).1 h2
                        rwa [← h1] at this
                    · rintro ⟨h1 | h1, h2⟩
                      · exact .inl ⟨h1, h2⟩
                      · refine .inr ⟨h1, (hIs.out.2 p.2).2 ?_⟩
                        rwa [← h1]
                  replace hv5 := Aside0.mk hv5
                  go_wp2
                  go_roundw
                  case measure => simp [intOf]; omega
                  case rel => exact ⟨i + 1, m, vq, g, by omega, hm0, hm1, by go_num, by go_num, HS9, hv5⟩
          · have g1 : decide ((i : Int) < (T.length : Int)) = false := decide_eq_false (by omega)
            obtain rfl : i = T.length := by omega
            have hall : ∀ p, A.rows p ≠ [] → p ∈ vp := fun p hp => (HV2.out p).2 ⟨by rw [List.take_length]; exact (hTS.out.2 p.1).2 ⟨p.2, hp⟩, hp⟩
            have hmany := HS2.out.many
            rw [List.append_nil] at hmany
            have hcnt : m = A.many := hmany.trans (AH.flat_count HS2.out.inv.ok HS2.out.nodup hall)
            have n9 := HS2.out.inv.tell
            have hbel := Aside0.mk HS2.out.inv.bel
            rw [← hcnt] at n9
            clear hall hmany hcnt HS2 HV2
            go_wp2_with fail
            refine n9.mono ?_
            clear n9
            rintro ee w9 ⟨rfl, rfl⟩
            go_wp2
            go_ret
            exact ⟨by simp, hbel.out⟩
end Go.Proofs.Ytljahhgankcalaa

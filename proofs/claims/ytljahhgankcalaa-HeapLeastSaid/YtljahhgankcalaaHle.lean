import Derived.Test.YtljahhgankcalaaHlp
import Derived.Test.YtljahhgankcalaaOh
import Derived.Handy
/-! HeapLeast: the walk. -/
namespace Go.Proofs.Ytljahhgankcalaa
open Go.RowKit Go.Maps Go.MapKept Go.WideMaps
open Go.Proofs.YtljahhgankcalaaW.PrintWords Go.Proofs.YtljahhgankcalaaW.PrintLast Go.Proofs.YtljahhgankcalaaW.PrintMore
open PHeapThere
attribute [local go_sem] max2_mx min2_mn max_two min_two
set_option linter.unusedVariables false
set_option linter.unusedSimpArgs false

theorem Inv.at {w0 w : World} {h : Nat} {A : AH} {F : Nat → Prop} {k : Nat} (H : Inv w0 w h A F k) (s : Int) :
    Calls Try.prog 17 #[.pointer (some ⟨h, 0, none⟩), .int .i64 s] w fun e w' => ∃ v, e = .returned (.tuple #[.agg #[.int .i64 (A.atE s).f0, .int .i64 (A.atE s).f1, .int .i64 (A.atE s).f2, .int .i64 (A.atE s).f3, .int .i64 (A.atE s).f4, .int .i64 (A.atE s).f5, v], .bool (A.there s)]) ∧
      Kd.R kVal 91 w' w.heap.size (fun _ => True) v (A.atE s).f6 ∧ Below w.heap.size w w' ∧ Inv w0 w' h A F k := by
  refine (at_calls h s A F w H.is (by have := H.lim s.toNat; unfold AH.at; omega)).mono ?_
  rintro e w' ⟨v, rfl, h1, h2⟩
  exact ⟨v, rfl, h1, h2, H.below h2⟩
theorem Inv.tell {w0 w : World} {h : Nat} {A : AH} {F : Nat → Prop} {k : Nat} (H : Inv w0 w h A F k) :
    Calls Try.prog 19 #[.pointer (some ⟨h, 0, none⟩)] w fun e w' => e = .returned (.int .i64 A.many) ∧ w' = w := len_calls h A _ w H.is

theorem step_least (A : AH) (s : AStep) {n e : Int} {A' : AH} (h : A.step s = (n, e, A')) : (s.f0 = 0 ∧ e = 0 ∧ n = A.least) ∨ (s.f0 = 0 ∧ e ≠ 0) ∨ s.f0 ≠ 0 := by
  by_cases h0 : s.f0 = 0
  · rw [step_putE h0] at h
    unfold AH.putE at h
    split at h
    · injection h with h1 h
      injection h with h2 h3
      exact .inr (.inl ⟨h0, by omega⟩)
    · injection h with h1 h
      injection h with h2 h3
      exact .inl ⟨h0, h2.symm, h1.symm⟩
  · exact .inr (.inr h0)

set_option maxRecDepth 100000 in
set_option maxHeartbeats 4000000 in
theorem least_calls (A0 : Option Addr) (c0 : Nat) (l : List AStep) (w : World) (hr : Kd.C kStep w A0 l.length l) (hc : l.length ≤ c0) (hs : Sized l) :
    Calls Try.prog 5 #[.slice A0 l.length c0] w fun e w' => e = .returned (.bool true) ∧ Below w.heap.size w w' := by
  obtain ⟨kl, r, hlg, hsm⟩ := large_is l hs
  have HR := Aside0.mk hr
  have HC := Aside0.mk hc
  have HS := Aside0.mk hs
  have HLG := Aside0.mk hlg
  have HSM := Aside0.mk hsm
  clear hr hc hs hlg hsm
  go_enter Try.func5, Try.ntmps5
  go_wp2_with fail
  refine (works_calls w).mono ?_
  rintro e w1 ⟨rfl, b1⟩
  replace b1 := Aside0.mk b1
  go_wp2_with fail
  refine (covenantlaw11_large.calls kl A0 c0 l r w1 (Kd.C_below HR.out b1.out) HC.out HLG.out).mono ?_
  rintro e w2 ⟨rfl, d2⟩
  have b2 := Aside0.mk (b1.out.trans (d2.below.mono b1.out.size))
  clear d2
  cases r with
  | true =>
    go_wp2_with fail
    refine (works_calls w2).mono ?_
    rintro e w3 ⟨rfl, b3⟩
    have b4 := Aside0.mk (b2.out.trans (b3.mono b2.out.size))
    clear b3
    go_wp2
    go_ret
    exact ⟨rfl, b4.out⟩
  | false =>
    obtain ⟨hl120, hrow⟩ := HSM.out rfl
    have HROW := Aside0.mk hrow
    clear hrow
    go_wp2_with fail
    refine (St.start w w2 b2.out).mono ?_
    rintro e w3 ⟨h, rfl, s3⟩
    replace s3 := Aside0.mk s3
    go_wp2
    go_loopw [4, 5] (fun v4 v5 wr => ∃ (m : Int) (k : Nat) (A : AH) (F : Nat → Prop), k ≤ l.length ∧ v4 = .int .i64 m ∧ v5 = .int .i64 k ∧ Aside0 (Inv w wr h A F k) ∧ Aside0 (A.Low m) ∧ Aside0 (0 ≤ m ∧ m ≤ k)) (fun _ v5 _ => l.length - (intOf v5).toNat)
    case atStart => exact ⟨0, 0, AH.empty, newer w w3, Nat.zero_le _, rfl, rfl, ⟨Inv.of_st s3.out⟩, ⟨⟨fun j hj => by have := AH.there_lt hj; simp [AH.empty] at this, Int.le_refl _⟩⟩, ⟨by omega⟩⟩
    case round =>
      obtain ⟨m, k, A, F, hk, rfl, rfl, HI, HL, HM⟩ := hrel
      by_cases hlt : k < l.length
      · have b1 : decide ((k : Int) < (l.length : Int)) = true := decide_eq_true (by omega)
        have n0 := HI.out.at 0
        go_wp2_with fail
        refine n0.mono ?_
        clear n0
        rintro e w4 ⟨v, rfl, hv, hb4, HI4⟩
        obtain ⟨a4, c4, e4⟩ := Kd.R_slice hv
        subst e4
        replace hv := Aside0.mk hv
        replace hb4 := Aside0.mk hb4
        replace HI4 := Aside0.mk HI4
        go_wp2_with fail
        clear hv
        obtain ⟨wo, rfl⟩ : ∃ wo : World, wo = wr := ⟨_, rfl⟩
        go_loopw [6, 8] (fun v6 v8 wr => ∃ j : Nat, v6 = .int .i64 j ∧ v8 = .bool (A.there (j : Int)) ∧ Aside0 (Inv w wr h A F k) ∧ Aside0 (∀ i : Nat, i < j → A.there (i : Int) = true)) (fun v6 _ _ => A.slots.length - (intOf v6).toNat)
        case atStart => exact ⟨0, rfl, rfl, ⟨HI4.out.below ((Below.refl _ _).alloc (Nat.le_refl _) _)⟩, ⟨fun i hi => absurd hi (Nat.not_lt_zero _)⟩⟩
        case round =>
          obtain ⟨j, rfl, rfl, HIj, HB⟩ := hrel
          cases hj : A.there (j : Int) with
          | true =>
            have hjl := AH.there_lt hj
            have HB2 := Aside0.mk (show ∀ i : Nat, i < j + 1 → A.there (i : Int) = true from fun i hi => by
              by_cases e : i = j
              · rw [e]; exact hj
              · exact HB.out i (by omega))
            have n1 := HIj.out.at ((j : Int) + 1)
            have hjs : (j : Int) < 2147483648 := by have := HIj.out.len; omega
            clear hj
            go_wp2_with fail
            refine n1.mono ?_
            clear n1
            rintro e w5 ⟨v, rfl, hv5, hb5, HI5⟩
            obtain ⟨a5, c5, e5⟩ := Kd.R_slice hv5
            subst e5
            replace hb5 := Aside0.mk hb5
            replace HI5 := Aside0.mk HI5
            clear hv5
            go_wp2
            go_roundw
            case measure => simp [intOf]; omega
            case rel => exact ⟨j + 1, by go_num, rfl, HI5, HB2⟩
          | false =>
            have hleast := Aside0.mk (AH.least_of HB.out hj HIj.out.ok)
            have p0 : (0 : Int) ≤ (k : Int) := by omega
            have p1 : (k : Int) < (l.length : Int) := by omega
            have hrow := HROW.out k
            obtain ⟨ad, A7, c7, e1, hx⟩ := at_T34 (Kd.C_below HR.out HIj.out.bel) k p0 p1
            have hre := fun (w' : World) (hb : Below w.heap.size w w') => at_T34 (Kd.C_below HR.out hb) k p0 p1
            have hrd : (l.getD k zStep) = rd_T34 l k := rfl
            rw [hrd] at hrow
            generalize rd_T34 l k = s at hx hre hrow
            clear hrd
            replace hre := Aside0.mk hre
            obtain ⟨x0, x1, x2, x3, x4, x5, x6, x7, x8, x9, x10, hc7, hr7⟩ := hx
            cases e1
            simp only [Int.toNat_natCast] at x0 x1 x2 x3 x4 x5 x6 x7 x8 x9 x10
            have hst := HIj.out.step (by omega) s A7 c7 hr7 hc7 hrow
            have hlow := Aside0.mk (HL.out.step HIj.out.ok s)
            obtain ⟨n, e, A', hstep⟩ : ∃ n e A', A.step s = (n, e, A') := ⟨_, _, _, rfl⟩
            have hcs := step_least A s hstep
            rw [hleast.out] at hcs
            rw [hstep] at hst
            replace hlow := Aside0.mk (show A'.Low (mx m A'.many) from by have := hlow.out; rw [hstep] at this; exact this)
            simp only [stepCells] at hst
            replace hcs := Aside0.mk hcs
            clear hstep hr7 hc7 hrow hj
            go_wp2_with fail
            refine hst.mono ?_
            clear hst x0 x1 x2 x3 x4 x5 x6 x7 x8 x9 x10
            rintro ee w6 ⟨rfl, HI6, hch⟩
            obtain ⟨ad2, A72, c72, e2, x0, x1, x2, x3, x4, x5, x6, x7, x8, x9, x10, _, _⟩ := hre.out w6 HI6.bel
            cases e2
            simp only [Int.toNat_natCast] at x0 x1 x2 x3 x4 x5 x6 x7 x8 x9 x10
            generalize hFF : ext F wr w6 = F6 at HI6
            replace HI6 := Aside0.mk HI6
            have n7 := HI6.out.tell
            clear hch x1 x2 x3 x4 x5 x6 x7 x8 x9 x10
            go_upto_region 14 with (fail)
            go_cut [66] from 23 to 100 (fun v66 wc => v66 = .bool false ∧ wc = w6)
            case first =>
              rcases hcs.out with ⟨h0, h1, h2⟩ | ⟨h0, ce⟩ | h0
              · subst h1
                subst h2
                have d1 : (s.f0 == 0) = true := beq_iff_eq.2 h0
                clear h0 hcs n7
                go_wp2
                go_meet
                case rel => exact ⟨rfl, rfl⟩
              · have d1 : (s.f0 == 0) = true := beq_iff_eq.2 h0
                clear h0 hcs n7
                go_wp2
                go_meet
                case rel => exact ⟨rfl, rfl⟩
              · have d1 : (s.f0 == 0) = false := beq_eq_false_iff_ne.2 h0
                clear h0 hcs n7
                go_wp2
                go_meet
                case rel => exact ⟨rfl, rfl⟩
            case rest =>
              obtain ⟨rfl, ew⟩ := hcut
              subst ew
              go_wp2_with fail
              refine n7.mono ?_
              clear n7
              rintro ee w7 ⟨rfl, e7⟩
              subst e7
              have hmm : A'.many ≤ (k : Int) + 1 := by have := HI6.out.ok.many_le; have := HI6.out.len; omega
              have hm0 : 0 ≤ A'.many := by rw [HI6.out.ok.many]; omega
              have hmx : 0 ≤ mx m A'.many ∧ mx m A'.many ≤ (k : Int) + 1 := by have := HM.out; unfold mx; split <;> omega
              have HMX := Aside0.mk hmx
              have HMM := Aside0.mk (And.intro hmm hm0)
              clear hmm hm0 hmx
              go_wp2
              go_loopw [11, 12] (fun v11 v12 wr => ∃ (q : Nat) (z c : Int), q ≤ l.length + 4 ∧ v12 = .int .i64 z ∧ v11 = .int .i64 c ∧ Aside0 (z = (q : Int) - 2) ∧ Aside0 (c = (A'.cnt (q - 2) : Nat)) ∧ Aside0 (Inv w wr h A' F6 (k + 1))) (fun _ v12 _ => l.length + 4 - ((intOf v12) + 2).toNat)
              case atStart => exact ⟨0, -2, 0, by omega, rfl, rfl, ⟨rfl⟩, ⟨by simp [AH.cnt]⟩, HI6⟩
              case round =>
                obtain ⟨q, z, c, hq, rfl, rfl, HZ, HCt, HIq⟩ := hrel
                have hz := HZ.out
                by_cases hql : q ≤ l.length + 3
                · have g1 : decide (z ≤ (l.length : Int) + 1) = true := decide_eq_true (by omega)
                  have n8 := HIq.out.at z
                  have hz1 : -2 ≤ z := by omega
                  have hz2 : z ≤ 200 := by omega
                  have hcs := AH.cnt_succ HIq.out.ok (q - 2)
                  have hcl : c ≤ 200 := by
                    have h1 : A'.cnt (q - 2) ≤ (A'.slots.take (q - 2)).length := List.length_filter_le _ _
                    have h2 := List.length_take_le (q - 2) A'.slots
                    have := HCt.out
                    omega
                  have hcl0 : 0 ≤ c := by have := HCt.out; omega
                  cases ht : A'.there z with
                  | true =>
                    obtain ⟨i, hi, hi2, _⟩ := AH.there_cases _ _ ht
                    have hqi : q = i + 2 := by omega
                    have hlw := hlow.out.slot i (by rw [← hi]; exact ht)
                    rw [show ((q - 2 : Nat) : Int) = z from by omega, ht, if_pos rfl] at hcs
                    rw [ht] at n8
                    have g2 : decide (z < 0) = false := decide_eq_false (by omega)
                    have g3 : decide (mx m A'.many ≤ z) = false := decide_eq_false (by omega)
                    have hcs2 := Aside0.mk (show c + 1 = (A'.cnt (q + 1 - 2) : Nat) from by
                      rw [show q + 1 - 2 = q - 2 + 1 from by omega, hcs, HCt.out]
                      rfl)
                    clear ht hcs hlw hi hi2 hqi hz
                    go_wp2_with fail
                    refine n8.mono ?_
                    clear n8
                    rintro e w8 ⟨v, rfl, hv8, hb8, HI8⟩
                    obtain ⟨a8, c8, e8⟩ := Kd.R_slice hv8
                    subst e8
                    replace HI8 := Aside0.mk HI8
                    clear hv8 hb8
                    go_wp2
                    go_roundw
                    case measure =>
                      have := HZ.out
                      simp [intOf]
                      omega
                    case rel => exact ⟨q + 1, z + 1, c + 1, by omega, rfl, rfl, ⟨by have := HZ.out; omega⟩, hcs2, ⟨HI8.out.below ((Below.refl _ _).alloc (Nat.le_refl _) _)⟩⟩
                  | false =>
                    rw [ht] at n8
                    have hcs2 := Aside0.mk (show c = (A'.cnt (q + 1 - 2) : Nat) from by
                      rw [HCt.out]
                      by_cases h2 : q < 2
                      · rw [show q + 1 - 2 = 0 from by omega, show q - 2 = 0 from by omega]
                      · rw [show q + 1 - 2 = q - 2 + 1 from by omega, hcs, show ((q - 2 : Nat) : Int) = z from by omega, ht]
                        simp)
                    clear ht hcs hz
                    go_wp2_with fail
                    refine n8.mono ?_
                    clear n8
                    rintro e w8 ⟨v, rfl, hv8, hb8, HI8⟩
                    obtain ⟨a8, c8, e8⟩ := Kd.R_slice hv8
                    subst e8
                    replace HI8 := Aside0.mk HI8
                    clear hv8 hb8
                    go_wp2
                    go_roundw
                    case measure =>
                      have := HZ.out
                      simp [intOf]
                      omega
                    case rel => exact ⟨q + 1, z + 1, c, by omega, rfl, rfl, ⟨by have := HZ.out; omega⟩, hcs2, ⟨HI8.out.below ((Below.refl _ _).alloc (Nat.le_refl _) _)⟩⟩
                · have g1 : decide (z ≤ (l.length : Int) + 1) = false := decide_eq_false (by omega)
                  have n9 := HIq.out.tell
                  have hce : c = A'.many := HCt.out.trans (AH.cnt_all HIq.out.ok (by have := HIq.out.len; omega))
                  subst hce
                  clear hz
                  go_wp2_with fail
                  refine n9.mono ?_
                  clear n9
                  rintro ee w9 ⟨rfl, e9⟩
                  subst e9
                  go_wp2
                  go_roundw
                  case measure => simp [intOf]; omega
                  case rel => exact ⟨mx m A'.many, k + 1, A', _, by omega, rfl, by go_num, HIq, hlow, ⟨by have := HMX.out; omega⟩⟩
      · have b1 : decide ((k : Int) < (l.length : Int)) = false := decide_eq_false (by omega)
        go_wp2
        go_ret
        exact ⟨rfl, HI.out.bel⟩
end Go.Proofs.Ytljahhgankcalaa

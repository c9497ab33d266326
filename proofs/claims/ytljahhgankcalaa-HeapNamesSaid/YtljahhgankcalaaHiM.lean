import Derived.Test.YtljahhgankcalaaHlgM
/-! HeapIDs: the walk. -/
namespace Go.Proofs.Ytljahhgankcalaa
open Go.RowKit Go.Maps Go.MapKept Go.WideMaps
open Go.Proofs.YtljahhgankcalaaW.PrintWords Go.Proofs.YtljahhgankcalaaW.PrintLast Go.Proofs.YtljahhgankcalaaW.PrintMore
open PHeapThere
attribute [local go_sem] max2_mx min2_mn max_two min_two
set_option linter.unusedVariables false
set_option linter.unusedSimpArgs false

/-- A law's loop over its steps: after k of them. -/
structure Inv (w0 w : World) (h : Nat) (A : AH) (F : Nat → Prop) (k : Nat) : Prop where
  is : HeapIs w h A F
  low : ∀ b, F b → w0.heap.size ≤ b
  bel : Below w0.heap.size w0 w
  ok : A.Ok
  len : A.slots.length ≤ k
  lim : A.Lim 20000
theorem Inv.of_st {w0 w : World} {h : Nat} (H : St w0 w h AH.empty) : Inv w0 w h AH.empty (newer w0 w) 0 :=
  ⟨H.is, fun b hb => hb.1, H.bel, AH.empty_ok, by simp [AH.empty], AH.empty_lim (by decide)⟩
theorem Inv.step {w0 w : World} {h : Nat} {A : AH} {F : Nat → Prop} {k : Nat} (H : Inv w0 w h A F k) (hk : k < 2147483648) (s : AStep) (A7 : Option Addr) (c7 : Nat)
    (hr : Kd.C kVal w A7 s.f1.f6.length s.f1.f6) (hc : s.f1.f6.length ≤ c7) (hx : s.f1.f6.length < 20000) :
    Calls Try.prog 16 #[.agg (stepCells s A7 c7), .pointer (some ⟨h, 0, none⟩)] w fun e w' => e = .returned (.tuple #[.int .i64 (A.step s).1, .int .i64 (A.step s).2.1]) ∧ Inv w0 w' h (A.step s).2.2 (ext F w w') (k + 1) ∧ Chg w w' F := by
  refine (do_calls h s A7 c7 A F w H.is H.ok (by have := H.len; omega) hr hc (by omega)).mono ?_
  rintro e w' ⟨rfl, h1, h2⟩
  have hb := H.bel.size
  refine ⟨rfl, ⟨h1, fun b hb' => ?_, H.bel.trans (h2.below hb H.low), H.ok.step s, by have := A.step_len s; have := H.len; omega, H.lim.step (by decide) s hx⟩, h2⟩
  rcases hb' with hb' | hb'
  · exact H.low b hb'
  · have := hb'.1
    omega
/-- Another block of the law's own has changed. -/
theorem Inv.other {w0 w w' : World} {h : Nat} {A : AH} {F S : Nat → Prop} {k : Nat} (H : Inv w0 w h A F k) (hc : Chg w w' S) (hS : ∀ b, F b → ¬ S b) (hl : ∀ b, S b → w0.heap.size ≤ b) : Inv w0 w' h A F k :=
  ⟨H.is.chg hc hS, H.low, H.bel.trans (hc.below H.bel.size hl), H.ok, H.len, H.lim⟩
theorem Inv.below {w0 w w' : World} {h : Nat} {A : AH} {F : Nat → Prop} {k : Nat} (H : Inv w0 w h A F k) (hB : Below w.heap.size w w') : Inv w0 w' h A F k :=
  H.other (Chg.of_below hB (fun _ => False)) (fun _ _ h => h) (fun _ h => h.elim)

theorem step_putE {A : AH} {s : AStep} (h : s.f0 = 0) : A.step s = A.putE s.f1 := by unfold AH.step; rw [if_pos h]
theorem step_kill {A : AH} {s : AStep} (h : s.f0 = 1) : A.step s = (0, (A.kill s.f2 s.f3 s.f4).1, (A.kill s.f2 s.f3 s.f4).2) := by unfold AH.step; rw [if_neg (by omega), if_pos h]
theorem step_free {A : AH} {s : AStep} (h : s.f0 = 2) : A.step s = (0, (A.free s.f2).1, (A.free s.f2).2) := by unfold AH.step; rw [if_neg (by omega), if_neg (by omega), if_pos h]
theorem step_next {A : AH} {s : AStep} (h0 : s.f0 ≠ 0) (h1 : s.f0 ≠ 1) (h2 : s.f0 ≠ 2) : A.step s = ((A.next s.f3).1, 0, (A.next s.f3).2) := by unfold AH.step; rw [if_neg h0, if_neg h1, if_neg h2]
theorem kill_given (A : AH) (s x c : Int) : (A.kill s x c).2.given = A.given := by unfold AH.kill; split <;> rfl
theorem free_given (A : AH) (s : Int) : (A.free s).2.given = A.given := by unfold AH.free; split <;> rfl

theorem step_cases (A : AH) (s : AStep) {n e : Int} {A' : AH} (h : A.step s = (n, e, A')) :
    ((e ≠ 0 ∨ s.f0 = 1 ∨ s.f0 = 2) ∧ A'.given = A.given) ∨
    (e = 0 ∧ s.f0 = 0 ∧ (1 ≤ s.f1.f0 ∧ s.f1.f0 ≤ 2147483647 ∧ 1 ≤ s.f1.f1 ∧ s.f1.f1 ≤ 2147483647) ∧ A'.given = fun y => if y = s.f1.f0 then mx (A.given s.f1.f0) s.f1.f1 else A.given y) ∨
    (e = 0 ∧ (s.f0 ≠ 0 ∧ s.f0 ≠ 1 ∧ s.f0 ≠ 2) ∧ (s.f3 < 1 ∨ 2147483647 < s.f3 ∨ A.given s.f3 = 2147483647) ∧ n = 0 ∧ A'.given = A.given) ∨
    (e = 0 ∧ (s.f0 ≠ 0 ∧ s.f0 ≠ 1 ∧ s.f0 ≠ 2) ∧ ¬ (s.f3 < 1 ∨ 2147483647 < s.f3 ∨ A.given s.f3 = 2147483647) ∧ n = A.given s.f3 + 1 ∧ A'.given = fun x => if x = s.f3 then A.given s.f3 + 1 else A.given x) := by
  by_cases h0 : s.f0 = 0
  · rw [step_putE h0] at h
    unfold AH.putE at h
    by_cases hb : badTup s.f1
    · rw [if_pos hb] at h
      injection h with h1 h
      injection h with h2 h3
      exact .inl ⟨.inl (by omega), by rw [← h3]⟩
    · rw [if_neg hb] at h
      injection h with h1 h
      injection h with h2 h3
      unfold badTup at hb
      exact .inr (.inl ⟨h2.symm, h0, by omega, by rw [← h3]; rfl⟩)
  · by_cases h1 : s.f0 = 1
    · rw [step_kill h1] at h
      injection h with h2 h
      injection h with h3 h4
      exact .inl ⟨.inr (.inl h1), by rw [← h4, kill_given]⟩
    · by_cases h2 : s.f0 = 2
      · rw [step_free h2] at h
        injection h with h3 h
        injection h with h4 h5
        exact .inl ⟨.inr (.inr h2), by rw [← h5, free_given]⟩
      · rw [step_next h0 h1 h2] at h
        injection h with h3 h
        injection h with h4 h5
        unfold AH.next at h3 h5
        by_cases hc : s.f3 < 1 ∨ 2147483647 < s.f3 ∨ A.given s.f3 = 2147483647
        · rw [if_pos hc] at h3 h5
          exact .inr (.inr (.inl ⟨h4.symm, ⟨h0, h1, h2⟩, hc, h3.symm, by rw [← h5]⟩))
        · rw [if_neg hc] at h3 h5
          exact .inr (.inr (.inr ⟨h4.symm, ⟨h0, h1, h2⟩, hc, h3.symm, by rw [← h5]⟩))

set_option maxRecDepth 100000 in
set_option maxHeartbeats 2000000 in
theorem ids_calls (A0 : Option Addr) (c0 : Nat) (l : List AStep) (w : World) (hr : Kd.C kStep w A0 l.length l) (hc : l.length ≤ c0) (hs : Sized l) :
    Calls Try.prog 3 #[.slice A0 l.length c0] w fun e w' => e = .returned (.bool true) ∧ Below w.heap.size w w' := by
  obtain ⟨kl, r, hlg, hsm⟩ := large_is l hs
  have HR := Aside0.mk hr
  have HC := Aside0.mk hc
  have HS := Aside0.mk hs
  have HLG := Aside0.mk hlg
  have HSM := Aside0.mk hsm
  clear hr hc hs hlg hsm
  go_enter Try.func3, Try.ntmps3
  go_wp2_with fail
  refine (works_calls w).mono ?_
  rintro e w1 ⟨rfl, b1⟩
  replace b1 := Aside0.mk b1
  go_wp2_with fail
  refine (covenantlaw11_large.calls kl A0 c0 l r w1 (Kd.C_below HR.out b1.out) HC.out HLG.out).mono ?_
  rintro e w2 ⟨rfl, d2⟩
  have b2 := Aside0.mk (b1.out.trans (d2.below.mono b1.out.size))
  clear d2
  cases r with
  | true =>
    go_wp2_with fail
    refine (works_calls w2).mono ?_
    rintro e w3 ⟨rfl, b3⟩
    have b4 := Aside0.mk (b2.out.trans (b3.mono b2.out.size))
    clear b3
    go_wp2
    go_ret
    exact ⟨rfl, b4.out⟩
  | false =>
    obtain ⟨hl120, hrow⟩ := HSM.out rfl
    have HROW := Aside0.mk hrow
    clear hrow
    go_wp2_with fail
    refine (St.start w w2 b2.out).mono ?_
    rintro e w3 ⟨h, rfl, s3⟩
    have hmm := @run_makeMap Try.prog
    replace s3 := Aside0.mk s3
    go_wp2
    go_loopw [5] (fun v5 wr => ∃ (k : Nat) (A : AH) (F : Nat → Prop) (mg : Int → Option Int), k ≤ l.length ∧ v5 = .int .i64 k ∧ Aside0 (Inv w wr h A F k) ∧ Aside0 (¬ F w3.heap.size) ∧ Aside0 (MapOf (Value.int .i64) (Value.int .i64) okI wr w3.heap.size mg) ∧ Aside0 (∀ no, (mg no).getD 0 = A.given no)) (fun v5 _ => l.length - (intOf v5).toNat)
    case atStart => exact ⟨0, AH.empty, newer w w3, fun _ => none, Nat.zero_le _, rfl, ⟨(Inv.of_st s3.out).below ((Below.refl _ w3).alloc (Nat.le_refl _) _)⟩, ⟨fun hf => by have := hf.2; omega⟩, ⟨MapOf.made w3 _ _ _⟩, ⟨fun no => rfl⟩⟩
    case round =>
      obtain ⟨k, A, F, mg, hk, rfl, HI, HF, HM, HG⟩ := hrel
      by_cases hlt : k < l.length
      · have b1 : decide ((k : Int) < (l.length : Int)) = true := decide_eq_true (by omega)
        have p0 : (0 : Int) ≤ (k : Int) := by omega
        have p1 : (k : Int) < (l.length : Int) := by omega
        have hrow := HROW.out k
        obtain ⟨ad, A7, c7, e1, hx⟩ := at_T34 (Kd.C_below HR.out HI.out.bel) k p0 p1
        have hre := fun (w' : World) (hb : Below w.heap.size w w') => at_T34 (Kd.C_below HR.out hb) k p0 p1
        have hrd : (l.getD k zStep) = rd_T34 l k := rfl
        rw [hrd] at hrow
        generalize rd_T34 l k = s at hx hre hrow
        clear hrd
        replace hre := Aside0.mk hre
        obtain ⟨x0, x1, x2, x3, x4, x5, x6, x7, x8, x9, x10, hc7, hr7⟩ := hx
        cases e1
        simp only [Int.toNat_natCast] at x0 x1 x2 x3 x4 x5 x6 x7 x8 x9 x10
        have hst := HI.out.step (by omega) s A7 c7 hr7 hc7 hrow
        have hok := HI.out.ok
        obtain ⟨n, e, A', hstep⟩ : ∃ n e A', A.step s = (n, e, A') := ⟨_, _, _, rfl⟩
        have hcs := Aside0.mk (step_cases A s hstep)
        rw [hstep] at hst
        simp only [stepCells] at hst
        clear hstep
        clear hr7 hc7 hrow
        go_wp2_with fail
        refine hst.mono ?_
        clear hst x0 x1 x2 x3 x4 x5 x6 x7 x8 x9 x10
        rintro ee w4 ⟨rfl, HI2, hch⟩
        have HF2 : ¬ ext F wr w4 w3.heap.size := fun hf => by
          rcases hf with hf | hf
          · exact HF.out hf
          · have := HM.out.lt
            omega
        have HM2 := HM.out.chg hch HF.out
        obtain ⟨ad2, A72, c72, e2, x0, x1, x2, x3, x4, x5, x6, x7, x8, x9, x10, _, _⟩ := hre.out w4 HI2.bel
        cases e2
        simp only [Int.toNat_natCast] at x0 x1 x2 x3 x4 x5 x6 x7 x8 x9 x10
        replace HI2 := Aside0.mk HI2
        replace HF2 := Aside0.mk HF2
        clear hch
        have hgn := Aside0.mk hok.given0
        clear hok
        have HM3 := Aside0.mk HM2
        clear HM2
        rcases hcs.out with ⟨hc, hg⟩ | ⟨he, h0, ht, hg⟩ | ⟨he, ⟨h0, h1, h2⟩, ht, hn, hg⟩ | ⟨he, ⟨h0, h1, h2⟩, ht, hn, hg⟩
        · clear hcs
          have HG2 := Aside0.mk (show ∀ no, (mg no).getD 0 = A'.given no from fun no => by rw [hg]; exact HG.out no)
          clear hg
          by_cases c0 : e = 0
          · subst c0
            by_cases c1 : s.f0 = 1
            · have d1 : (s.f0 == 1) = true := beq_iff_eq.2 c1
              clear c1 hc
              go_wp2
              go_roundw
              case measure => simp [intOf]; omega
              case rel => exact ⟨k + 1, A', _, mg, by omega, by go_num, HI2, HF2, HM3, HG2⟩
            · have d1 : (s.f0 == 1) = false := beq_eq_false_iff_ne.2 c1
              have d2 : (s.f0 == 2) = true := beq_iff_eq.2 (by omega)
              clear c1 hc
              go_wp2
              go_roundw
              case measure => simp [intOf]; omega
              case rel => exact ⟨k + 1, A', _, mg, by omega, by go_num, HI2, HF2, HM3, HG2⟩
          · have d0 : (e == 0) = false := beq_eq_false_iff_ne.2 c0
            clear hc
            go_wp2
            go_roundw
            case measure => simp [intOf]; omega
            case rel => exact ⟨k + 1, A', _, mg, by omega, by go_num, HI2, HF2, HM3, HG2⟩
        · clear hcs
          subst he
          have d1 : (s.f0 == 0) = true := beq_iff_eq.2 h0
          have d2 : (s.f0 == 1) = false := beq_eq_false_iff_ne.2 (by omega)
          have d3 : (s.f0 == 2) = false := beq_eq_false_iff_ne.2 (by omega)
          have hoki : okI s.f1.f0 := okI_of (by omega) (by omega)
          have hlk := gmap_look (HM3.out.drew) hoki
          rw [HG.out] at hlk
          obtain ⟨w5, hup, hm5, hc5, hs5⟩ := HM3.out.drew.store keyInt Try.underlying27 hoki (mx (A.given s.f1.f0) s.f1.f1)
          have HG2 := Aside0.mk (show ∀ no, ((upd mg s.f1.f0 (some (mx (A.given s.f1.f0) s.f1.f1))) no).getD 0 = A'.given no from fun no => by
            rw [hg]
            by_cases hx : no = s.f1.f0
            · subst hx; rw [upd_same]; simp
            · rw [upd_other _ _ hx]; simp [hx, HG.out no])
          have y1 := hc5.cell_some (p := ⟨(ad.add (k * 11)).block, (ad.add (k * 11)).off + 1, none⟩) x1 (HM3.out.no_cell x1)
          have y2 := hc5.cell_some (p := ⟨(ad.add (k * 11)).block, (ad.add (k * 11)).off + 2, none⟩) x2 (HM3.out.no_cell x2)
          replace hm5 := Aside0.mk hm5
          replace hc5 := Aside0.mk hc5
          clear h0 hg hoki hs5
          replace ht := Aside0.mk ht
          go_wp2_with fail
          go_region_held3 (fun w' => w'.cell? ⟨(ad.add (k * 11)).block, (ad.add (k * 11)).off + 1, none⟩ = some (.int .i64 s.f1.f0) ∧ w'.cell? ⟨(ad.add (k * 11)).block, (ad.add (k * 11)).off + 2, none⟩ = some (.int .i64 s.f1.f1)) (go_keep) ((fail))
          go_wp2
          go_roundw
          case measure => simp [intOf]; omega
          case rel => exact ⟨k + 1, A', _, _, by omega, by go_num, ⟨HI2.out.other (S := fun b => b = w3.heap.size) ⟨hc5.out.os, hc5.out.tape, hc5.out.output, hc5.out.size, hc5.out.block⟩ (fun b hb e => HF2.out (e ▸ hb)) (fun b hb => by rw [hb]; exact s3.out.bel.size)⟩, HF2, hm5, HG2⟩
        · clear hcs
          subst he
          subst hn
          have d1 : (s.f0 == 0) = false := beq_eq_false_iff_ne.2 h0
          have d2 : (s.f0 == 1) = false := beq_eq_false_iff_ne.2 h1
          have d3 : (s.f0 == 2) = false := beq_eq_false_iff_ne.2 h2
          have HG2 := Aside0.mk (show ∀ no, (mg no).getD 0 = A'.given no from fun no => by rw [hg]; exact HG.out no)
          clear h0 h1 h2 hg
          by_cases t1 : s.f3 < 1
          · have d4 : decide (s.f3 < 1) = true := decide_eq_true t1
            clear ht t1
            go_wp2
            go_roundw
            case measure => simp [intOf]; omega
            case rel => exact ⟨k + 1, A', _, mg, by omega, by go_num, HI2, HF2, HM3, HG2⟩
          · have d4 : decide (s.f3 < 1) = false := decide_eq_false t1
            by_cases t2 : 2147483647 < s.f3
            · have d5 : decide (2147483647 < s.f3) = true := decide_eq_true t2
              clear ht t1 t2
              go_wp2
              go_roundw
              case measure => simp [intOf]; omega
              case rel => exact ⟨k + 1, A', _, mg, by omega, by go_num, HI2, HF2, HM3, HG2⟩
            · have d5 : decide (2147483647 < s.f3) = false := decide_eq_false t2
              have hlk := gmap_look HM3.out (no := s.f3) (okI_of (by omega) (by omega))
              rw [HG.out, show A.given s.f3 = 2147483647 from by omega] at hlk
              clear ht t1 t2
              go_wp2
              go_roundw
              case measure => simp [intOf]; omega
              case rel => exact ⟨k + 1, A', _, mg, by omega, by go_num, HI2, HF2, HM3, HG2⟩
        · clear hcs
          subst he
          have hgi := hgn.out s.f3
          have d1 : (s.f0 == 0) = false := beq_eq_false_iff_ne.2 h0
          have d2 : (s.f0 == 1) = false := beq_eq_false_iff_ne.2 h1
          have d3 : (s.f0 == 2) = false := beq_eq_false_iff_ne.2 h2
          have d4 : decide (s.f3 < 1) = false := decide_eq_false (by omega)
          have d5 : decide (2147483647 < s.f3) = false := decide_eq_false (by omega)
          have d6 : (A.given s.f3 == 2147483647) = false := beq_eq_false_iff_ne.2 (by omega)
          have hoki : okI s.f3 := okI_of (by omega) (by omega)
          have hlk := gmap_look HM3.out hoki
          rw [HG.out] at hlk
          obtain ⟨w5, hup, hm5, hc5, hs5⟩ := HM3.out.store keyInt Try.underlying27 hoki (A.given s.f3 + 1)
          have HG2 := Aside0.mk (show ∀ no, ((upd mg s.f3 (some (A.given s.f3 + 1))) no).getD 0 = A'.given no from fun no => by
            rw [hg]
            by_cases hx : no = s.f3
            · subst hx; rw [upd_same]; simp
            · rw [upd_other _ _ hx]; simp [hx, HG.out no])
          have hG0 : 0 ≤ A.given s.f3 := hgi.1
          have hG1 : A.given s.f3 < 2147483647 := by omega
          subst hn
          replace hm5 := Aside0.mk hm5
          replace hc5 := Aside0.mk hc5
          clear h0 h1 h2 hg ht hgi hoki hs5
          go_wp2
          go_roundw
          case measure => simp [intOf]; omega
          case rel => exact ⟨k + 1, A', _, _, by omega, by go_num, ⟨HI2.out.other (S := fun b => b = w3.heap.size) ⟨hc5.out.os, hc5.out.tape, hc5.out.output, hc5.out.size, hc5.out.block⟩ (fun b hb e => HF2.out (e ▸ hb)) (fun b hb => by rw [hb]; exact s3.out.bel.size)⟩, HF2, hm5, HG2⟩
      · have b1 : decide ((k : Int) < (l.length : Int)) = false := decide_eq_false (by omega)
        go_wp2
        go_ret
        exact ⟨rfl, HI.out.bel⟩
end Go.Proofs.Ytljahhgankcalaa

import Derived.Test.YtljahhgankcalaaHtpM
import Derived.BigQuiet
/-! HeapThere: the walk. -/
namespace Go.Proofs.Ytljahhgankcalaa
open Go.RowKit Go.Maps Go.MapKept Go.WideMaps
open Go.Proofs.YtljahhgankcalaaW.PrintWords Go.Proofs.YtljahhgankcalaaW.PrintLast Go.Proofs.YtljahhgankcalaaW.PrintMore
open PHeapThere
attribute [local go_sem] max2_mx min2_mn max_two min_two
set_option linter.unusedVariables false
set_option linter.unusedSimpArgs false

theorem Try.infoPlace : (Try.prog.info? 38).map (fun i => (i.zero, i.size, i.bytes)) = some (some (.agg #[.int .i64 0, .int .i64 0, .int .i64 0, .int .i64 0, .int .i64 0, .int .i64 0, .int .i64 0, .slice none 0 0]), 8, 80) := by kernel_rfl

/-- The law's places in memory: the block is newer than the law's start and none of the heap's; each row lies in what was handed in. -/
structure Places (w0 w : World) (F : Nat → Prop) (v : Value) (ps : List RP) : Prop where
  row : Kd.R kRP 38 w w0.heap.size (fun k => ¬ F k) v ps
  rows : ∀ p ∈ ps, Kd.C kVal w0 p.A p.t.f6.length p.t.f6 ∧ p.t.f6.length ≤ p.c ∧ p.t.f6.length < 20000
theorem Places.chg {w0 w w' : World} {F F' S : Nat → Prop} {v : Value} {ps : List RP} (h : Places w0 w F v ps) (hc : Chg w w' S) (hS : ∀ k, k < w.heap.size → ¬ F k → ¬ S k) (hF : ∀ k, F' k → F k ∨ w.heap.size ≤ k) : Places w0 w' F' v ps :=
  ⟨Kd.R_mono (Kd.R_step (Kd.R_bound h.row) (fun k hk hlt => hc.block k hlt (hS k hlt hk.1))) (fun k hk hf => by
    rcases hF k hf with h1 | h1
    · exact hk.1 h1
    · have := hk.2.2.1
      omega), h.rows⟩
theorem Places.below {w0 w w' : World} {F : Nat → Prop} {v : Value} {ps : List RP} (h : Places w0 w F v ps) (hb : Below w.heap.size w w') : Places w0 w' F v ps :=
  h.chg (Chg.of_below hb (fun _ => False)) (fun _ _ _ h => h) (fun _ h => .inl h)

/-- The cells of a step that was handed in, in whatever world the law has come to. -/
theorem step_cells {w : World} {A : Option Addr} {n : Nat} {xs : List AStep} (h : Kd.C kStep w A n xs) (i : Nat) (hi : (i : Int) < n) : ∃ ad A7 c7, A = some ad ∧ (rd_T34 xs i).f1.f6.length ≤ c7 ∧ Kd.C kVal w A7 (rd_T34 xs i).f1.f6.length (rd_T34 xs i).f1.f6 ∧
    ∀ w1, Below w.heap.size w w1 → w1.cell? (ad.add (i * 11)) = some (.int .u8 (rd_T34 xs i).f0) ∧ w1.cell? ⟨(ad.add (i * 11)).block, (ad.add (i * 11)).off + 1, none⟩ = some (.int .i64 (rd_T34 xs i).f1.f0) ∧
      w1.cell? ⟨(ad.add (i * 11)).block, (ad.add (i * 11)).off + 2, none⟩ = some (.int .i64 (rd_T34 xs i).f1.f1) ∧ w1.cell? ⟨(ad.add (i * 11)).block, (ad.add (i * 11)).off + 3, none⟩ = some (.int .i64 (rd_T34 xs i).f1.f2) ∧
      w1.cell? ⟨(ad.add (i * 11)).block, (ad.add (i * 11)).off + 4, none⟩ = some (.int .i64 (rd_T34 xs i).f1.f3) ∧ w1.cell? ⟨(ad.add (i * 11)).block, (ad.add (i * 11)).off + 5, none⟩ = some (.int .i64 (rd_T34 xs i).f1.f4) ∧
      w1.cell? ⟨(ad.add (i * 11)).block, (ad.add (i * 11)).off + 6, none⟩ = some (.int .i64 (rd_T34 xs i).f1.f5) ∧ w1.cell? ⟨(ad.add (i * 11)).block, (ad.add (i * 11)).off + 7, none⟩ = some (.slice A7 (rd_T34 xs i).f1.f6.length c7) ∧
      w1.cell? ⟨(ad.add (i * 11)).block, (ad.add (i * 11)).off + 8, none⟩ = some (.int .i64 (rd_T34 xs i).f2) ∧ w1.cell? ⟨(ad.add (i * 11)).block, (ad.add (i * 11)).off + 9, none⟩ = some (.int .i64 (rd_T34 xs i).f3) ∧
      w1.cell? ⟨(ad.add (i * 11)).block, (ad.add (i * 11)).off + 10, none⟩ = some (.int .i64 (rd_T34 xs i).f4) := by
  obtain ⟨ad, A7, c7, e1, x0, x1, x2, x3, x4, x5, x6, x7, x8, x9, x10, hc7, hr7⟩ := at_T34 h i (by omega) hi
  simp only [Int.toNat_natCast] at x0 x1 x2 x3 x4 x5 x6 x7 x8 x9 x10
  have mv : ∀ (w1 : World) (p : Addr) (v : Value), Below w.heap.size w w1 → w.cell? p = some v → w1.cell? p = some v := fun w1 p v hb hp => (hb.cell (p := p) (World.block_lt_of_cell? w _ hp)).trans hp
  exact ⟨ad, A7, c7, e1, hc7, hr7, fun w1 hb => ⟨mv w1 _ _ hb x0, mv w1 _ _ hb x1, mv w1 _ _ hb x2, mv w1 _ _ hb x3, mv w1 _ _ hb x4, mv w1 _ _ hb x5, mv w1 _ _ hb x6, mv w1 _ _ hb x7, mv w1 _ _ hb x8, mv w1 _ _ hb x9, mv w1 _ _ hb x10⟩⟩

def updT (s : AStep) (p : RP) : RP := { p with t := { p.t with f4 := s.f3, f5 := s.f4 } }
/-- A row of places lies in no other block. -/
theorem R_but {w : World} {F : Nat → Prop} {v : Value} {ps : List RP} {e base Bn : Nat} (h : Kd.R kRP e w base (fun k => ¬ F k) v ps) (hn : ∀ b, v.ownBlock = some b → b ≠ Bn) : Kd.R kRP e w base (fun k => ¬ F k ∧ k ≠ Bn) v ps := by
  obtain ⟨h0, inner, hown, hr⟩ := h
  exact ⟨fun k hk => ⟨h0 k hk, hn k hk⟩, inner, hown, hr.imp_ (fun q c hp => by
    obtain rfl := kRP_openM hp
    exact kRP_mkM _ _ _ _)⟩

set_option maxRecDepth 100000 in
set_option maxHeartbeats 40000000 in
theorem there_calls (A0 : Option Addr) (c0 : Nat) (l : List AStep) (w : World) (hr : Kd.C kStep w A0 l.length l) (hc : l.length ≤ c0) (hs : Sized l) :
    Calls Try.prog 4 #[.slice A0 l.length c0] w fun e w' => e = .returned (.bool true) ∧ Below w.heap.size w w' := by
  obtain ⟨kl, r, hlg, hsm⟩ := large_is l hs
  have HR := Aside0.mk hr
  have HC := Aside0.mk hc
  have HS := Aside0.mk hs
  have HLG := Aside0.mk hlg
  have HSM := Aside0.mk hsm
  clear hr hc hs hlg hsm
  go_enter Try.func4, Try.ntmps4
  go_wp2_with fail
  refine (works_calls w).mono ?_
  rintro e w1 ⟨rfl, b1⟩
  replace b1 := Aside0.mk b1
  go_wp2_with fail
  refine (covenantlaw11_large.calls kl A0 c0 l r w1 (Kd.C_below HR.out b1.out) HC.out HLG.out).mono ?_
  rintro e w2 ⟨rfl, d2⟩
  have b2 := Aside0.mk (b1.out.trans (d2.below.mono b1.out.size))
  clear d2
  cases r with
  | true =>
    go_wp2_with fail
    refine (works_calls w2).mono ?_
    rintro e w3 ⟨rfl, b3⟩
    have b4 := Aside0.mk (b2.out.trans (b3.mono b2.out.size))
    clear b3
    go_wp2
    go_ret
    exact ⟨rfl, b4.out⟩
  | false =>
    obtain ⟨hl120, hrow⟩ := HSM.out rfl
    have HROW := Aside0.mk hrow
    clear hrow
    go_wp2_with fail
    refine (St.start w w2 b2.out).mono ?_
    rintro e w3 ⟨h, rfl, s3⟩
    replace s3 := Aside0.mk s3
    go_wp2
    go_loopw [4, 5] (fun v4 v5 wr => ∃ (k : Nat) (A : AH) (F : Nat → Prop) (ps : List RP), k ≤ l.length ∧ v5 = .int .i64 k ∧ Aside0 (Inv w wr h A F k) ∧ Aside0 (Places w wr F v4 ps) ∧ Aside0 (Pl A ps) ∧ Aside0 (ps.length ≤ k)) (fun _ v5 _ => l.length - (intOf v5).toNat)
    case atStart => exact ⟨0, AH.empty, newer w w3, [], Nat.zero_le _, rfl, ⟨Inv.of_st s3.out⟩, ⟨⟨Kd.R_nil _ _ _ _ _, by simp⟩⟩, ⟨⟨by simp, fun i hi => by have := AH.there_lt hi; simp [AH.empty] at this, by simp, rfl⟩⟩, ⟨Nat.zero_le _⟩⟩
    case round =>
      obtain ⟨k, A, F, ps, hk, rfl, HI, HP, HPl, HPn⟩ := hrel
      obtain ⟨pa, pc, e4⟩ := Kd.R_slice HP.out.row
      subst e4
      by_cases hlt : k < l.length
      · have b1 : decide ((k : Int) < (l.length : Int)) = true := decide_eq_true (by omega)
        have p0 : (0 : Int) ≤ (k : Int) := by omega
        have p1 : (k : Int) < (l.length : Int) := by omega
        have hrow := HROW.out k
        obtain ⟨ad, A7, c7, e1, hc7, hr7, hcells⟩ := step_cells HR.out k p1
        have hrd : (l.getD k zStep) = rd_T34 l k := rfl
        rw [hrd] at hrow
        generalize rd_T34 l k = s at hcells hc7 hr7 hrow
        clear hrd
        replace hcells := Aside0.mk hcells
        cases e1
        obtain ⟨x0, x1, x2, x3, x4, x5, x6, x7, x8, x9, x10⟩ := hcells.out wr HI.out.bel
        have hst := HI.out.step (by omega) s A7 c7 (Kd.C_below hr7 HI.out.bel) hc7 hrow
        obtain ⟨n, e, A', hstep⟩ : ∃ n e A', A.step s = (n, e, A') := ⟨_, _, _, rfl⟩
        have hpl := Aside0.mk (HPl.out.step HI.out.ok s A7 c7 hstep)
        rw [hstep] at hst
        simp only [stepCells] at hst
        replace hrow := Aside0.mk (And.intro hr7 (And.intro hc7 hrow))
        clear hstep hr7 hc7
        go_wp2_with fail
        refine hst.mono ?_
        clear hst x0 x1 x2 x3 x4 x5 x6 x7 x8 x9 x10
        rintro ee w6 ⟨rfl, HI6, hch⟩
        have HP6 := Aside0.mk (HP.out.chg (F' := ext F wr w6) hch (fun k _ hk => hk) (fun k hk => by
          rcases hk with hk | hk
          · exact .inl hk
          · exact .inr hk.1))
        generalize hFF : ext F wr w6 = F6 at HI6 HP6
        replace HI6 := Aside0.mk HI6
        clear hch hFF
        go_upto_region 9 with (fail)
        obtain ⟨x0, x1, x2, x3, x4, x5, x6, x7, x8, x9, x10⟩ := hcells.out w6 HI6.out.bel
        go_cut [49] from 25 to 192 (fun v49 wc => v49 = .bool (decide (e = 0 ∧ s.f0 = 0)) ∧ w6 = wc)
        case first => as_aux_lemma =>
          by_cases he : e = 0
          · subst he
            by_cases h0 : s.f0 = 0
            · have d1 : (s.f0 == 0) = true := beq_iff_eq.2 h0
              have d2 := Aside0.mk (show decide ((0 : Int) = 0 ∧ s.f0 = 0) = true from decide_eq_true ⟨rfl, h0⟩)
              clear h0
              go_wp2
              go_meet
              case rel => exact ⟨by rw [d2.out], rfl⟩
            · have d1 : (s.f0 == 0) = false := beq_eq_false_iff_ne.2 h0
              have d2 := Aside0.mk (show decide ((0 : Int) = 0 ∧ s.f0 = 0) = false from decide_eq_false (fun h => h0 h.2))
              clear h0
              go_wp2
              go_meet
              case rel => exact ⟨by rw [d2.out], rfl⟩
          · have d2 := Aside0.mk (show decide (e = 0 ∧ s.f0 = 0) = false from decide_eq_false (fun h => he h.1))
            go_wp2
            go_meet
            case rel => exact ⟨by rw [d2.out], rfl⟩
        case rest =>
          obtain ⟨rfl, ew⟩ := hcut
          subst ew
          go_upto_if 49 with (fail)
          go_cut [4] from 25 to 192 (fun v4 wc => Aside0 (Inv w wc h A' F6 (k + 1)) ∧ Aside0 (Places w wc F6 v4 (puts1 s n e A7 c7 ps)))
          case first =>
            by_cases hb : e = 0 ∧ s.f0 = 0
            · rw [decide_eq_true hb]
              have hps : puts1 s n e A7 c7 ps = ps ++ [⟨n, s.f1, A7, c7⟩] := by unfold puts1; rw [if_pos hb]
              have HPS := Aside0.mk hps
              have hne := Aside0.mk (hpl.out.2.1 hb.1 hb.2)
              clear hb hps
              go_wp2
              obtain ⟨wo, rfl⟩ : ∃ wo : World, wo = wr := ⟨_, rfl⟩
              go_loopw [8] (fun v8 wr => ∃ q : Nat, q ≤ ps.length ∧ v8 = .int .i64 q ∧ w6 = wr) (fun v8 _ => ps.length - (intOf v8).toNat)
              case atStart => exact ⟨0, Nat.zero_le _, rfl, rfl⟩
              case round =>
                obtain ⟨q, hq, rfl, hw⟩ := hrel
                subst hw
                by_cases hql : q < ps.length
                · have g1 : decide ((q : Int) < (ps.length : Int)) = true := decide_eq_true (by omega)
                  obtain ⟨g, cap, hv, hcp, y0, _⟩ := rp_cells HP6.out.row hql
                  obtain ⟨rfl, rfl⟩ : pa = some ⟨g, 0, none⟩ ∧ pc = cap := by
                    injection hv with h1 _ h3
                    exact ⟨h1, h3⟩
                  have g3 : (ps[q].slot == n) = false := beq_eq_false_iff_ne.2 (hne.out _ (List.getElem_mem hql))
                  have g4 : (q : Int) < (ps.length : Int) := by omega
                  have hq2 : (q : Int) < 200 := by have := HPn.out; omega
                  clear hv
                  generalize ps[q].slot = sl at y0 g3
                  go_wp2
                  go_roundw
                  case measure => simp [intOf]; omega
                  case rel => exact ⟨q + 1, by omega, by go_num, by trivial⟩
                · have g1 : decide ((q : Int) < (ps.length : Int)) = false := decide_eq_false (by omega)
                  have hbd := HI6.out.is.bound
                  have hsz := HI6.out.bel.size
                  go_wp2_with (at_builtin; go_loud (refine Kd.R_append kRP (w0 := w) w.heap.size rfl (.tmp 63) (.tmp 71) 36 38 (.agg #[.int .i64 0, .int .i64 0, .int .i64 0, .int .i64 0, .int .i64 0, .int .i64 0, .int .i64 0, .slice none 0 0]) 80 rfl Try.underlying36 Try.infoPlace rfl (by decide) (by omega) (.slice pa ps.length pc) ps ⟨n, s.f1, A7, c7⟩ (rpCells ⟨n, s.f1, A7, c7⟩) (fun k => ¬ F6 k) (fun _ => False) rfl rfl (kRP_mkM _ _ _ _) (fun _ h => h.elim) (fun k hk hf => Nat.lt_irrefl _ (Nat.lt_of_lt_of_le (hbd k hf) hk)) HP6.out.row HI6.out.bel hsz (by have := HPn.out; omega) ?_); intro v1 w7 ho hb hg hat)
                  go_meet
                  case rel =>
                    have hrb := (Kd.R_bound HP6.out.row).1
                    refine ⟨⟨HI6.out.other (Chg.of_grown hg) (fun b hb e => (hrb b e.symm).1 hb) (fun b e => (hrb b e.symm).2.1)⟩, ⟨?_⟩⟩
                    rw [HPS.out]
                    refine ⟨ho, fun p hp => ?_⟩
                    rcases List.mem_append.1 hp with hp | hp
                    · exact HP6.out.rows p hp
                    · rw [List.mem_singleton.1 hp]
                      exact ⟨hrow.out.1, hrow.out.2.1, hrow.out.2.2⟩
            · rw [decide_eq_false hb]
              have hps : puts1 s n e A7 c7 ps = ps := by unfold puts1; rw [if_neg hb]
              have HP7 := Aside0.mk (show Places w w6 F6 (.slice pa ps.length pc) (puts1 s n e A7 c7 ps) from by rw [hps]; exact HP6.out)
              clear hps hb
              go_wp2
              go_meet
              case rel => exact ⟨HI6, HP7⟩
          case rest =>
            obtain ⟨HI7, HP7⟩ := hcut
            obtain ⟨qs, hqs⟩ : ∃ qs, qs = puts1 s n e A7 c7 ps := ⟨_, rfl⟩
            have hqn : qs.length ≤ k + 1 := by
              have := HPn.out
              rw [hqs]
              unfold puts1
              split
              · rw [List.length_append, List.length_singleton]
                omega
              · omega
            have hpl2 := hpl.out
            rw [← hqs] at hpl2 HP7
            replace hpl2 := Aside0.mk hpl2
            obtain ⟨qa, qc, e5⟩ := Kd.R_slice HP7.out.row
            subst e5
            clear hqs hpl HP6 HI6 HP HI HPl x0 x1 x2 x3 x4 x5 x6 x7 x8 x9 x10
            obtain ⟨w7, hw7⟩ : ∃ w7, w7 = wc := ⟨_, rfl⟩
            rw [← hw7] at HI7 HP7
            rw [← hw7]
            clear hw7
            go_wp2
            obtain ⟨wo, hwo⟩ : ∃ wo : World, wo = wr := ⟨_, rfl⟩
            clear hwo
            go_loopw [9, 10, 11] (fun v9 v10 v11 wr => ∃ i : Nat, i ≤ qs.length ∧ v11 = .int .i64 i ∧ v10 = .bool ((qs.take i).any (hit s)) ∧ Aside0 (Kd.R kRP 38 wr w7.heap.size (fun k => ¬ F6 k) v9 ((qs.take i).filterMap (upd1 s))) ∧ Aside0 (Inv w wr h A' F6 (k + 1)) ∧ Aside0 (Below w7.heap.size w7 wr)) (fun _ _ v11 _ => qs.length - (intOf v11).toNat)
            case atStart => exact ⟨0, Nat.zero_le _, rfl, rfl, ⟨Kd.R_nil _ _ _ _ _⟩, HI7, ⟨Below.refl _ _⟩⟩
            case round =>
              obtain ⟨i, hi, rfl, rfl, HL, HIi, HBi⟩ := hrel
              obtain ⟨la, lc, e6⟩ := Kd.R_slice HL.out
              subst e6
              by_cases hil : i < qs.length
              · have g1 : decide ((i : Int) < (qs.length : Int)) = true := decide_eq_true (by omega)
                have g4 : (i : Int) < (qs.length : Int) := by omega
                have hi2 : (i : Int) < 200 := by omega
                obtain ⟨g, cap, hv, hcp, y0, y1, y2, y3, y4, y5, y6, y7⟩ := rp_cells (HP7.out.below HBi.out).row hil
                obtain ⟨rfl, rfl⟩ : qa = some ⟨g, 0, none⟩ ∧ qc = cap := by
                  injection hv with h1 _ h3
                  exact ⟨h1, h3⟩
                have htk : qs.take (i + 1) = qs.take i ++ [qs[i]] := by rw [List.take_add_one, List.getElem?_eq_getElem hil]; rfl
                have HTK := Aside0.mk htk
                have hrw := Aside0.mk (HP7.out.rows qs[i] (List.getElem_mem hil))
                clear hv htk
                generalize qs[i] = p at y0 y1 y2 y3 y4 y5 y6 y7 HTK hrw
                obtain ⟨z0, _, _, _, _, _, _, _, z8, z9, z10⟩ := hcells.out wr HIi.out.bel
                go_upto_region 22 with (fail)
                have hbox := blk_new wr (.cells #[.int .i64 p.slot, .int .i64 p.t.f0, .int .i64 p.t.f1, .int .i64 p.t.f2, .int .i64 p.t.f3, .int .i64 p.t.f4, .int .i64 p.t.f5, .slice p.A p.t.f6.length p.c] 38)
                have hBw : Below wr.heap.size wr (wr.alloc (.cells #[.int .i64 p.slot, .int .i64 p.t.f0, .int .i64 p.t.f1, .int .i64 p.t.f2, .int .i64 p.t.f3, .int .i64 p.t.f4, .int .i64 p.t.f5, .slice p.A p.t.f6.length p.c] 38)) := (Below.refl _ wr).alloc (Nat.le_refl _) _
                have HI1 := HIi.out.below hBw
                have HL1 := Kd.R_below HL.out hBw
                have HB1 := HBi.out.trans (hBw.mono HBi.out.size)
                have hnF : ¬ F6 wr.heap.size := fun hf => Nat.lt_irrefl _ (HIi.out.is.bound _ hf)
                have hnL : ∀ b, (Value.slice la ((qs.take i).filterMap (upd1 s)).length lc).ownBlock = some b → b ≠ wr.heap.size := fun b hb e => by
                  have := ((Kd.R_bound HL.out).1 b hb).2.2.1
                  omega
                have hnB := HBi.out.size
                generalize wr.alloc (.cells #[.int .i64 p.slot, .int .i64 p.t.f0, .int .i64 p.t.f1, .int .i64 p.t.f2, .int .i64 p.t.f3, .int .i64 p.t.f4, .int .i64 p.t.f5, .slice p.A p.t.f6.length p.c] 38) = W1 at hbox HI1 HL1 HB1 ⊢
                clear hBw
                generalize wr.heap.size = Bn at hbox hnF hnL hnB ⊢
                obtain ⟨z0, _, _, _, _, _, _, _, z8, z9, z10⟩ := hcells.out W1 HI1.bel
                have q0 := blk_cell hbox 0
                simp at q0
                replace hbox := Aside0.mk hbox
                replace HI1 := Aside0.mk HI1
                replace HL1 := Aside0.mk HL1
                replace HB1 := Aside0.mk HB1
                replace hnF := Aside0.mk hnF
                replace hnL := Aside0.mk hnL
                clear y0 y1 y2 y3 y4 y5 y6 y7 HL HIi HBi
                go_cut [13] from 73 to 138 (fun v13 wc => v13 = .bool (hit s p) ∧ Drawn0 W1 wc)
                case first => as_aux_lemma =>
                  by_cases c1 : p.slot = s.f2
                  · have d1 : (p.slot == s.f2) = true := beq_iff_eq.2 c1
                    by_cases c2 : s.f0 = 1
                    · have d2 : (s.f0 == 1) = true := beq_iff_eq.2 c2
                      have hh := Aside0.mk (show hit s p = true from by unfold hit; rw [d1, d2]; rfl)
                      clear c1 c2
                      go_quiet (fail)
                      go_wp2
                      go_meet
                      case rel => exact ⟨by rw [hh.out], by first | exact ⟨⟨0, rfl⟩⟩ | exact ⟨⟨1, rfl⟩⟩ | exact ⟨⟨_, rfl⟩⟩⟩
                    · have d2 : (s.f0 == 1) = false := beq_eq_false_iff_ne.2 c2
                      by_cases c3 : s.f0 = 2
                      · have d3 : (s.f0 == 2) = true := beq_iff_eq.2 c3
                        have hh := Aside0.mk (show hit s p = true from by unfold hit; rw [d1, d2, d3]; rfl)
                        clear c1 c2 c3
                        go_quiet (fail)
                        go_wp2
                        go_meet
                        case rel => exact ⟨by rw [hh.out], by first | exact ⟨⟨0, rfl⟩⟩ | exact ⟨⟨1, rfl⟩⟩ | exact ⟨⟨_, rfl⟩⟩⟩
                      · have d3 : (s.f0 == 2) = false := beq_eq_false_iff_ne.2 c3
                        have hh := Aside0.mk (show hit s p = false from by unfold hit; rw [d1, d2, d3]; rfl)
                        clear c1 c2 c3
                        go_quiet (fail)
                        go_wp2
                        go_meet
                        case rel => exact ⟨by rw [hh.out], by first | exact ⟨⟨0, rfl⟩⟩ | exact ⟨⟨1, rfl⟩⟩ | exact ⟨⟨_, rfl⟩⟩⟩
                  · have d1 : (p.slot == s.f2) = false := beq_eq_false_iff_ne.2 c1
                    have hh := Aside0.mk (show hit s p = false from by unfold hit; rw [d1]; rfl)
                    clear c1
                    go_quiet (fail)
                    go_wp2
                    go_meet
                    case rel => exact ⟨by rw [hh.out], by first | exact ⟨⟨0, rfl⟩⟩ | exact ⟨⟨1, rfl⟩⟩ | exact ⟨⟨_, rfl⟩⟩⟩
                case rest =>
                  obtain ⟨rfl, hdr⟩ := hcut
                  have HI2 := Aside0.mk (HI1.out.below hdr.below)
                  have HL2 := Aside0.mk (Kd.R_below HL1.out hdr.below)
                  have HB2 := Aside0.mk (HB1.out.trans (hdr.below.mono HB1.out.size))
                  obtain ⟨mdr, edr⟩ := hdr.out
                  have hbox2 := Aside0.mk (show wc.heap[Bn]? = some (.cells #[.int .i64 p.slot, .int .i64 p.t.f0, .int .i64 p.t.f1, .int .i64 p.t.f2, .int .i64 p.t.f3, .int .i64 p.t.f4, .int .i64 p.t.f5, .slice p.A p.t.f6.length p.c] 38 (0, 0)) from by rw [edr]; exact hbox.out)
                  clear HI1 HL1 HB1 hbox hdr edr z0 z8 z9 z10 q0
                  have hany := Aside0.mk (show (qs.take (i + 1)).any (hit s) = ((qs.take i).any (hit s) || hit s p) from by rw [HTK.out, List.any_append]; simp)
                  go_upto_region 23 with (fail)
                  go_cut [10, 13] from 73 to 138 (fun v10 v13 w9 => v10 = .bool ((qs.take (i + 1)).any (hit s)) ∧ v13 = .bool (hit s p) ∧ wc = w9)
                  case first => as_aux_lemma =>
                    cases hf : (qs.take i).any (hit s) <;> cases hh : hit s p
                    all_goals
                      have hr2 := Aside0.mk (hany.out.trans (by rw [hf, hh]))
                      have hh2 := Aside0.mk hh
                      clear hf hh
                      go_wp2
                      go_meet
                      case rel => exact ⟨by rw [hr2.out]; try rfl, by rw [hh2.out], by trivial⟩
                  case rest =>
                    obtain ⟨rfl, rfl, ew⟩ := hcut
                    subst ew
                    obtain ⟨z0, _, _, _, _, _, _, _, z8, z9, z10⟩ := hcells.out wc HI2.out.bel
                    have q0 := blk_cell hbox2.out 0
                    have q1 := blk_cell hbox2.out 1
                    have q2 := blk_cell hbox2.out 2
                    have q3 := blk_cell hbox2.out 3
                    have q4 := blk_cell hbox2.out 4
                    have q5 := blk_cell hbox2.out 5
                    have q6 := blk_cell hbox2.out 6
                    have q7 := blk_cell hbox2.out 7
                    have qz := fun j => blk_frozen hbox2.out j
                    simp at q0 q1 q2 q3 q4 q5 q6 q7
                    have hlen : (((qs.take i).filterMap (upd1 s)).length + 1) * 80 ≤ 140737488355328 := by
                      have h1 := List.length_filterMap_le (upd1 s) (qs.take i)
                      have h2 := List.length_take_le i qs
                      omega
                    cases hh : hit s p with
                    | false =>
                      have hap := Aside0.mk (show (qs.take (i + 1)).filterMap (upd1 s) = (qs.take i).filterMap (upd1 s) ++ [p] from by
                        rw [HTK.out, List.filterMap_append]
                        simp [upd1, hh])
                      have hbd := HI2.out.is.bound
                      have hsz := HB2.out.size
                      have HLa := HL2
                      have HBa := HB2
                      clear hh
                      go_wp2_with (at_builtin; go_loud (refine Kd.R_append kRP (w0 := w7) w7.heap.size rfl (.tmp 135) (.tmp 137) 36 38 (.agg #[.int .i64 0, .int .i64 0, .int .i64 0, .int .i64 0, .int .i64 0, .int .i64 0, .int .i64 0, .slice none 0 0]) 80 rfl Try.underlying36 Try.infoPlace rfl (by decide) (by omega) (.slice la ((qs.take i).filterMap (upd1 s)).length lc) ((qs.take i).filterMap (upd1 s)) p (rpCells p) (fun k => ¬ F6 k) (fun _ => False) rfl rfl (kRP_mkM _ _ _ _) (fun _ h => h.elim) (fun b hk hf => Nat.lt_irrefl _ (Nat.lt_of_lt_of_le (hbd b hf) hk)) HLa.out HBa.out hsz hlen ?_); intro v1 w10 ho hb hg hat)
                      have hrb := (Kd.R_bound HLa.out).1
                      have HI3 := Aside0.mk (HI2.out.other (Chg.of_grown hg) (fun b hb e => (hrb b e.symm).1 hb) (fun b e => Nat.le_trans HI7.out.bel.size (hrb b e.symm).2.1))
                      have HL3 := Aside0.mk (hap.out ▸ ho)
                      have HB3 := Aside0.mk hb
                      clear ho hb hg hat hrb
                      go_wp2
                      go_roundw
                      case measure => simp [intOf]; omega
                      case rel => exact ⟨i + 1, by omega, by go_num, rfl, HL3, HI3, HB3⟩
                    | true =>
                      by_cases c2 : s.f0 = 2
                      · as_aux_lemma =>
                          have d3 : (s.f0 == 2) = true := beq_iff_eq.2 c2
                          have hap : (qs.take (i + 1)).filterMap (upd1 s) = (qs.take i).filterMap (upd1 s) := by
                            rw [HTK.out, List.filterMap_append]
                            simp [upd1, hh, c2]
                          have HL3 := Aside0.mk (show Kd.R kRP 38 wc w7.heap.size (fun k => ¬ F6 k) (.slice la ((qs.take i).filterMap (upd1 s)).length lc) ((qs.take (i + 1)).filterMap (upd1 s)) from by rw [hap]; exact HL2.out)
                          clear hh hap c2 hlen
                          go_wp2
                          go_roundw
                          case measure => simp [intOf]; omega
                          case rel => exact ⟨i + 1, by omega, by go_num, rfl, HL3, HI2, HB2⟩
                      · skip
                        have d3 : (s.f0 == 2) = false := beq_eq_false_iff_ne.2 c2
                        have hap := Aside0.mk (show (qs.take (i + 1)).filterMap (upd1 s) = (qs.take i).filterMap (upd1 s) ++ [updT s p] from by
                          rw [HTK.out, List.filterMap_append]
                          simp [upd1, hh, c2, updT])
                        have hW : Chg wc ((wc.setCell ⟨Bn, 5, none⟩ (.int .i64 s.f3)).setCell ⟨Bn, 6, none⟩ (.int .i64 s.f4)) (fun b => b = Bn) := Chg.setCell (p := ⟨Bn, 6, none⟩) (Chg.setCell (p := ⟨Bn, 5, none⟩) (Chg.refl wc (fun b => b = Bn)) (.inl rfl) (.int .i64 s.f3)) (.inl rfl) (.int .i64 s.f4)
                        have HIa := Aside0.mk (HI2.out.other hW (fun b hb e => hnF.out (e ▸ hb)) (fun b e => by rw [e]; exact Nat.le_trans HI7.out.bel.size hnB))
                        have HBa := Aside0.mk (HB2.out.trans (hW.below HB2.out.size (fun b e => by rw [e]; exact hnB)))
                        have HLa := Aside0.mk (Kd.R_mono (Kd.R_far (Kd.R_far (R_but HL2.out hnL.out) (fun b hb => hb.2) (p := ⟨Bn, 5, none⟩) (.int .i64 s.f3)) (fun b hb => hb.2) (p := ⟨Bn, 6, none⟩) (.int .i64 s.f4)) (fun b hb => hb.1))
                        obtain ⟨W2, hW2⟩ : ∃ W2, (wc.setCell ⟨Bn, 5, none⟩ (.int .i64 s.f3)).setCell ⟨Bn, 6, none⟩ (.int .i64 s.f4) = W2 := ⟨_, rfl⟩
                        have hbx : W2.heap[Bn]? = some (.cells #[.int .i64 p.slot, .int .i64 p.t.f0, .int .i64 p.t.f1, .int .i64 p.t.f2, .int .i64 p.t.f3, .int .i64 s.f3, .int .i64 s.f4, .slice p.A p.t.f6.length p.c] 38 (0, 0)) := by
                          rw [← hW2]
                          exact blk_put (blk_put hbox2.out 5 _ rfl) 6 _ rfl
                        have HXX := Aside0.mk (And.intro hW2 hbx)
                        clear hh c2 hW hW2 hbx
                        go_upto_region 28 with (fail)
                        obtain ⟨hW2, hbx⟩ := HXX.out
                        rw [hW2] at HIa HBa HLa ⊢
                        clear hW2 HXX q0 q1 q2 q3 q4 q5 q6 q7 qz z0 z8 z9 z10
                        have hbd := HIa.out.is.bound
                        have hsz := HBa.out.size
                        have q0 := blk_cell hbx 0
                        have q1 := blk_cell hbx 1
                        have q2 := blk_cell hbx 2
                        have q3 := blk_cell hbx 3
                        have q4 := blk_cell hbx 4
                        have q5 := blk_cell hbx 5
                        have q6 := blk_cell hbx 6
                        have q7 := blk_cell hbx 7
                        simp at q0 q1 q2 q3 q4 q5 q6 q7
                        clear hbx
                        go_wp2_with (at_builtin; go_loud (refine Kd.R_append kRP (w0 := w7) w7.heap.size rfl (.tmp 135) (.tmp 137) 36 38 (.agg #[.int .i64 0, .int .i64 0, .int .i64 0, .int .i64 0, .int .i64 0, .int .i64 0, .int .i64 0, .slice none 0 0]) 80 rfl Try.underlying36 Try.infoPlace rfl (by decide) (by omega) (.slice la ((qs.take i).filterMap (upd1 s)).length lc) ((qs.take i).filterMap (upd1 s)) (updT s p) [.int .i64 p.slot, .int .i64 p.t.f0, .int .i64 p.t.f1, .int .i64 p.t.f2, .int .i64 p.t.f3, .int .i64 s.f3, .int .i64 s.f4, .slice p.A p.t.f6.length p.c] (fun k => ¬ F6 k) (fun _ => False) rfl rfl (kRP_mkM _ _ _ (updT s p)) (fun _ h => h.elim) (fun b hk hf => Nat.lt_irrefl _ (Nat.lt_of_lt_of_le (hbd b hf) hk)) HLa.out HBa.out hsz hlen ?_); intro v1 w10 ho hb hg hat)
                        have hrb := (Kd.R_bound HLa.out).1
                        have HI3 := Aside0.mk (HIa.out.other (Chg.of_grown hg) (fun b hb e => (hrb b e.symm).1 hb) (fun b e => Nat.le_trans HI7.out.bel.size (hrb b e.symm).2.1))
                        have HL3 := Aside0.mk (hap.out ▸ ho)
                        have HB3 := Aside0.mk hb
                        clear ho hb hg hat hrb
                        go_wp2
                        go_roundw
                        case measure => simp [intOf]; omega
                        case rel => exact ⟨i + 1, by omega, by go_num, rfl, HL3, HI3, HB3⟩
              · have g1 : decide ((i : Int) < (qs.length : Int)) = false := decide_eq_false (by omega)
                have hin : i = qs.length := by omega
                subst hin
                have htl : qs.take qs.length = qs := List.take_length
                have HL8 := Aside0.mk (show Kd.R kRP 38 wr w7.heap.size (fun k => ¬ F6 k) (.slice la (qs.filterMap (upd1 s)).length lc) (qs.filterMap (upd1 s)) from by have := HL.out; rw [htl] at this; exact this)
                rw [htl]
                clear HL htl
                go_upto_region 29 with (fail)
                go_cut [10, 158] from 25 to 192 (fun v10 v158 w9 => v158 = .bool false ∧ wr = w9)
                case first => as_aux_lemma =>
                  obtain ⟨z0, _, _, _, _, _, _, _, z8, z9, z10⟩ := hcells.out wr HIi.out.bel
                  by_cases c1 : s.f0 = 1
                  · have d1 : (s.f0 == 1) = true := beq_iff_eq.2 c1
                    have hd := hpl2.out.2.2 (.inl c1)
                    clear c1
                    by_cases he : e = 0
                    · subst he
                      have hq : qs.any (hit s) = true := by rw [← hd]; rfl
                      clear hd
                      go_wp2
                      go_meet
                      case rel => exact ⟨by first | rfl | simp | simp [*], by trivial⟩
                    · have hq : qs.any (hit s) = false := by rw [← hd]; exact decide_eq_false he
                      have d7 : (e == 0) = false := beq_eq_false_iff_ne.2 he
                      clear hd
                      go_wp2
                      go_meet
                      case rel => exact ⟨by first | rfl | simp | simp [*], by trivial⟩
                  · have d1 : (s.f0 == 1) = false := beq_eq_false_iff_ne.2 c1
                    by_cases c2 : s.f0 = 2
                    · have d2 : (s.f0 == 2) = true := beq_iff_eq.2 c2
                      have hd := hpl2.out.2.2 (.inr c2)
                      clear c1 c2
                      by_cases he : e = 0
                      · subst he
                        have hq : qs.any (hit s) = true := by rw [← hd]; rfl
                        clear hd
                        go_wp2
                        go_meet
                        case rel => exact ⟨by first | rfl | simp | simp [*], by trivial⟩
                      · have hq : qs.any (hit s) = false := by rw [← hd]; exact decide_eq_false he
                        have d7 : (e == 0) = false := beq_eq_false_iff_ne.2 he
                        clear hd
                        go_wp2
                        go_meet
                        case rel => exact ⟨by first | rfl | simp | simp [*], by trivial⟩
                    · have d2 : (s.f0 == 2) = false := beq_eq_false_iff_ne.2 c2
                      clear c1 c2
                      go_wp2
                      go_meet
                      case rel => exact ⟨by first | rfl | simp | simp [*], by trivial⟩
                case rest =>
                  obtain ⟨rfl, ew⟩ := hcut
                  subst ew
                  have HPL := Aside0.mk hpl2.out.1
                  have hrows := Aside0.mk (show ∀ p ∈ qs.filterMap (upd1 s), Kd.C kVal w p.A p.t.f6.length p.t.f6 ∧ p.t.f6.length ≤ p.c ∧ p.t.f6.length < 20000 from fun p hp => by
                    obtain ⟨q, hq, e⟩ := List.mem_filterMap.1 hp
                    have := HP7.out.rows q hq
                    unfold upd1 at e
                    split at e
                    · split at e
                      · cases e
                      · injection e with e
                        subst e
                        exact this
                    · injection e with e
                      subst e
                      exact this)
                  have hln : (qs.filterMap (upd1 s)).length ≤ k + 1 := Nat.le_trans (List.length_filterMap_le _ _) hqn
                  clear hpl2
                  generalize qs.filterMap (upd1 s) = ls at HL8 HPL hrows hln ⊢
                  go_wp2
                  obtain ⟨w8, hw8⟩ : ∃ w8 : World, w8 = wr := ⟨_, rfl⟩
                  rw [← hw8] at HL8 HIi
                  rw [← hw8]
                  clear hw8
                  go_loopw [14] (fun v14 wr => ∃ j : Nat, j ≤ ls.length ∧ v14 = .int .i64 j ∧ Aside0 (Below w8.heap.size w8 wr)) (fun v14 _ => ls.length - (intOf v14).toNat)
                  case atStart => exact ⟨0, Nat.zero_le _, rfl, ⟨Below.refl _ _⟩⟩
                  case round =>
                    obtain ⟨j, hj, rfl, HBj⟩ := hrel
                    have HI9 := Aside0.mk (HIi.out.below HBj.out)
                    have HL9 := Aside0.mk (Kd.R_below HL8.out HBj.out)
                    by_cases hjl : j < ls.length
                    · as_aux_lemma =>
                        have g1 : decide ((j : Int) < (ls.length : Int)) = true := decide_eq_true (by omega)
                        have g4 : (j : Int) < (ls.length : Int) := by omega
                        have hj2 : (j : Int) < 200 := by omega
                        obtain ⟨g, cap, hv, hcp, y0, y1, y2, y3, y4, y5, y6, y7⟩ := rp_cells HL9.out hjl
                        obtain ⟨rfl, rfl⟩ : la = some ⟨g, 0, none⟩ ∧ lc = cap := by
                          injection hv with h1 _ h3
                          exact ⟨h1, h3⟩
                        obtain ⟨x, hx, hth, hat⟩ := HPL.out.there ls[j] (List.getElem_mem hjl)
                        have hrw := Aside0.mk (hrows.out ls[j] (List.getElem_mem hjl))
                        clear hv
                        generalize ls[j] = p at y0 y1 y2 y3 y4 y5 y6 y7 hx hat hrw
                        obtain ⟨ks, hks⟩ := tup_same p.t (by have := hrw.out.2.2; omega)
                        replace hks := Aside0.mk hks
                        have n8 := HI9.out.at (x : Int)
                        rw [show A'.atE (x : Int) = p.t from by unfold AH.atE; rw [if_pos hth]; exact hat, hth] at n8
                        rw [hx] at y0
                        clear hx hth hat
                        go_wp2_with fail
                        refine n8.mono ?_
                        clear n8
                        rintro ee w9 ⟨v, rfl, hv9, hb9, HIt⟩
                        obtain ⟨a9, c9, e9⟩ := Kd.R_slice hv9
                        subst e9
                        have mv : ∀ (p : Addr) (v : Value), wr.cell? p = some v → w9.cell? p = some v := fun p v hp => (hb9.cell (p := p) (World.block_lt_of_cell? wr _ hp)).trans hp
                        replace y0 := mv _ _ y0
                        replace y1 := mv _ _ y1
                        replace y2 := mv _ _ y2
                        replace y3 := mv _ _ y3
                        replace y4 := mv _ _ y4
                        replace y5 := mv _ _ y5
                        replace y6 := mv _ _ y6
                        replace y7 := mv _ _ y7
                        replace hv9 := Aside0.mk hv9
                        have HB9 := Aside0.mk (HBj.out.trans (hb9.mono HBj.out.size))
                        replace HIt := Aside0.mk HIt
                        clear mv hb9
                        go_upto_region 36 with (fail)
                        have hbox := blk_new w9 (.cells #[.int .i64 p.t.f0, .int .i64 p.t.f1, .int .i64 p.t.f2, .int .i64 p.t.f3, .int .i64 p.t.f4, .int .i64 p.t.f5, .slice a9 p.t.f6.length c9] 39)
                        have hBw : Below w9.heap.size w9 (w9.alloc (.cells #[.int .i64 p.t.f0, .int .i64 p.t.f1, .int .i64 p.t.f2, .int .i64 p.t.f3, .int .i64 p.t.f4, .int .i64 p.t.f5, .slice a9 p.t.f6.length c9] 39)) := (Below.refl _ w9).alloc (Nat.le_refl _) _
                        have mv : ∀ (r : Addr) (v : Value), w9.cell? r = some v → (w9.alloc (.cells #[.int .i64 p.t.f0, .int .i64 p.t.f1, .int .i64 p.t.f2, .int .i64 p.t.f3, .int .i64 p.t.f4, .int .i64 p.t.f5, .slice a9 p.t.f6.length c9] 39)).cell? r = some v := fun r v hp => (hBw.cell (p := r) (World.block_lt_of_cell? w9 _ hp)).trans hp
                        replace y0 := mv _ _ y0
                        replace y1 := mv _ _ y1
                        replace y2 := mv _ _ y2
                        replace y3 := mv _ _ y3
                        replace y4 := mv _ _ y4
                        replace y5 := mv _ _ y5
                        replace y6 := mv _ _ y6
                        replace y7 := mv _ _ y7
                        have hC1 := Kd.C_below (Kd.R_reads' hv9.out).2.2 hBw
                        have hC2 := Kd.C_below hrw.out.1 (HIt.out.bel.trans (hBw.mono HIt.out.bel.size))
                        have HB10 := Aside0.mk (HB9.out.trans (hBw.mono HB9.out.size))
                        generalize w9.alloc (.cells #[.int .i64 p.t.f0, .int .i64 p.t.f1, .int .i64 p.t.f2, .int .i64 p.t.f3, .int .i64 p.t.f4, .int .i64 p.t.f5, .slice a9 p.t.f6.length c9] 39) = W1 at hbox y0 y1 y2 y3 y4 y5 y6 y7 hC1 hC2 HB10 ⊢
                        have hsm := fun (W : World) (hb : Below W1.heap.size W1 W) => covenantref11_Same.calls ks p.t.f0 p.t.f1 p.t.f2 p.t.f3 p.t.f4 p.t.f5 a9 c9 p.t.f6 p.t.f0 p.t.f1 p.t.f2 p.t.f3 p.t.f4 p.t.f5 p.A p.c p.t.f6 true W (Kd.C_below hC1 hb) (Kd.R_reads' hv9.out).2.1 (Kd.C_below hC2 hb) hrw.out.2.1 hks.out
                        replace hsm := Aside0.mk hsm
                        generalize w9.heap.size = Bn at hbox ⊢
                        have q0 := blk_cell hbox 0
                        have q1 := blk_cell hbox 1
                        have q2 := blk_cell hbox 2
                        have q3 := blk_cell hbox 3
                        have q4 := blk_cell hbox 4
                        have q5 := blk_cell hbox 5
                        have q6 := blk_cell hbox 6
                        simp at q0 q1 q2 q3 q4 q5 q6
                        clear hbox hC1 hC2 hBw mv
                        go_region_held3 (fun w' => w'.cell? ⟨Bn, 0, none⟩ = some (.int .i64 p.t.f0) ∧ w'.cell? ⟨Bn, 1, none⟩ = some (.int .i64 p.t.f1) ∧ w'.cell? ⟨Bn, 2, none⟩ = some (.int .i64 p.t.f2) ∧ w'.cell? ⟨Bn, 3, none⟩ = some (.int .i64 p.t.f3) ∧ w'.cell? ⟨Bn, 4, none⟩ = some (.int .i64 p.t.f4) ∧ w'.cell? ⟨Bn, 5, none⟩ = some (.int .i64 p.t.f5) ∧ w'.cell? ⟨Bn, 6, none⟩ = some (.slice a9 p.t.f6.length c9) ∧ w'.cell? ⟨g, j * 8 + 1, none⟩ = some (.int .i64 p.t.f0) ∧ w'.cell? ⟨g, j * 8 + 2, none⟩ = some (.int .i64 p.t.f1) ∧ w'.cell? ⟨g, j * 8 + 3, none⟩ = some (.int .i64 p.t.f2) ∧ w'.cell? ⟨g, j * 8 + 4, none⟩ = some (.int .i64 p.t.f3) ∧ w'.cell? ⟨g, j * 8 + 5, none⟩ = some (.int .i64 p.t.f4) ∧ w'.cell? ⟨g, j * 8 + 6, none⟩ = some (.int .i64 p.t.f5) ∧ w'.cell? ⟨g, j * 8 + 7, none⟩ = some (.slice p.A p.t.f6.length p.c)) (go_keep) ((go_at_call 18; refine (hsm.out _ (Below.refl _ _).drew).mono ?_; rintro e w' ⟨rfl, hbs⟩; have mw : ∀ (r : Addr) (v : Value), W1.cell? r = some v → w'.cell? r = some v := fun r v hp => (hbs.cell (p := r) (World.block_lt_of_cell? W1 _ hp)).trans hp; have r0 := mw _ _ q0; have r1 := mw _ _ q1; have r2 := mw _ _ q2; have r3 := mw _ _ q3; have r4 := mw _ _ q4; have r5 := mw _ _ q5; have r6 := mw _ _ q6; have t1 := mw _ _ y1; have t2 := mw _ _ y2; have t3 := mw _ _ y3; have t4 := mw _ _ y4; have t5 := mw _ _ y5; have t6 := mw _ _ y6; have t7 := mw _ _ y7; clear mw; replace hbs := Aside0.mk (show Below W1.heap.size W1 w' from ⟨hbs.os, hbs.tape, hbs.output, hbs.size, hbs.block⟩)))
                        go_wp2
                        go_roundw
                        case measure => simp [intOf]; omega
                        case rel => exact ⟨j + 1, by omega, by go_num, ⟨HB10.out.trans (hbs.out.mono HB10.out.size)⟩⟩
                    · as_aux_lemma =>
                        have g1 : decide ((j : Int) < (ls.length : Int)) = false := decide_eq_false (by omega)
                        have n9 := HI9.out.tell
                        rw [← HPL.out.len] at n9
                        go_wp2_with fail
                        refine n9.mono ?_
                        clear n9
                        rintro ee w9 ⟨rfl, e9⟩
                        subst e9
                        go_wp2
                        go_roundw
                        case measure => simp [intOf]; omega
                        case rel => exact ⟨k + 1, A', F6, ls, by omega, by go_num, HI9, ⟨⟨Kd.R_lower HL9.out HI7.out.bel.size, hrows.out⟩⟩, HPL, ⟨hln⟩⟩
      · have b1 : decide ((k : Int) < (l.length : Int)) = false := decide_eq_false (by omega)
        go_wp2
        go_ret
        exact ⟨rfl, HI.out.bel⟩
end Go.Proofs.Ytljahhgankcalaa

import Derived.Test.YteejeakbagbcoaaWa
import Derived.BigQuiet
/-! waits.along, walked. -/
namespace Go.Proofs.Yteejeakbagbcoaa
open Go.RowKit Go.Maps Go.MapKept Go.WideMaps
open Go.Proofs.YteejeakbagbcoaaW.PrintWords Go.Proofs.YteejeakbagbcoaaW.PrintLast Go.Proofs.YteejeakbagbcoaaW.PrintMore
set_option linter.unusedVariables false
set_option linter.unusedSimpArgs false

set_option maxRecDepth 100000 in
set_option maxHeartbeats 4000000 in
theorem along_calls (A0 : Option Addr) (c0 : Nat) (es : Edges) (w : World) (hr : Kd.C kEdge w A0 es.length es) (hok : ∀ e ∈ es, okI e.1 ∧ okI e.2) (hl : es.length < 100000) :
    Calls Try.prog 23 #[.slice A0 es.length c0] w fun e w' => ∃ b mg, e = .returned (.map (some b)) ∧ Next w' b mg w.heap.size es ∧ w.heap.size ≤ b ∧ Below w.heap.size w w' := by
  have HR := Aside0.mk hr
  have HOK := Aside0.mk hok
  have hmm := @run_makeMap Try.prog
  have hm0 := MapOf.made w (Value.int .i64) (id : Value → Value) okI
  have hb0 : Below w.heap.size w (w.alloc (.map #[] 0)) := (Below.refl _ w).alloc (Nat.le_refl _) _
  obtain ⟨bm, hbm⟩ : ∃ bm, w.heap.size = bm := ⟨_, rfl⟩
  have hN0 : Next (w.alloc (.map #[] 0)) bm (fun _ => none) w.heap.size [] := ⟨hbm ▸ hm0, by simp, fun _ _ => rfl, by simp⟩
  have HN0 := Aside0.mk hN0
  have HB0 := Aside0.mk hb0
  clear hr hok hm0 hb0 hN0
  go_enter Try.func23, Try.ntmps23
  go_wp2
  go_loopw [9] (fun v9 wr => ∃ (k : Nat) (mg : Int → Option Value), k ≤ es.length ∧ v9 = .int .i64 k ∧ Aside0 (Next wr bm mg w.heap.size (es.take k)) ∧ Aside0 (Below w.heap.size w wr)) (fun v9 _ => es.length - (intOf v9).toNat)
  case atStart => exact ⟨0, _, Nat.zero_le _, rfl, HN0, HB0⟩
  case round =>
    obtain ⟨k, mg, hk, rfl, HN, HB⟩ := hrel
    by_cases hlt : k < es.length
    · have b1 : decide ((k : Int) < (es.length : Int)) = true := decide_eq_true (by omega)
      have p0 : (0 : Int) ≤ (k : Int) := by omega
      have p1 : (k : Int) < (es.length : Int) := by omega
      obtain ⟨ad, e1, y0, y1⟩ := edge_cells HR.out hlt
      subst e1
      have x0 := (HB.out.cell (p := ad.add (k * 2)) (World.block_lt_of_cell? w _ y0)).trans y0
      have x1 := (HB.out.cell (p := ⟨(ad.add (k * 2)).block, (ad.add (k * 2)).off + 1, none⟩) (World.block_lt_of_cell? w _ y1)).trans y1
      have htk : es.take (k + 1) = es.take k ++ [(es[k].1, es[k].2)] := by rw [List.take_add_one, List.getElem?_eq_getElem hlt]; rfl
      obtain ⟨ho1, ho2⟩ := HOK.out es[k] (List.getElem_mem hlt)
      generalize es[k].1 = a at x0 x1 htk ho1
      generalize es[k].2 = c at x0 x1 htk ho2
      have HTK := Aside0.mk htk
      replace ho1 := Aside0.mk ho1
      clear y0 y1 htk ho2
      go_upto_region 5 with (fail)
      have hbox := blk_new wr (.cells #[.int .i64 a, .int .i64 c] 22)
      have hBw : Below wr.heap.size wr (wr.alloc (.cells #[.int .i64 a, .int .i64 c] 22)) := (Below.refl _ wr).alloc (Nat.le_refl _) _
      have HN1 := HN.out.below hBw
      have HB1 := Aside0.mk (HB.out.trans (hBw.mono HB.out.size))
      generalize wr.alloc (.cells #[.int .i64 a, .int .i64 c] 22) = W at hbox hBw HN1 HB1 ⊢
      generalize wr.heap.size = Bn at hbox ⊢
      have q0 := blk_cell hbox 0
      have q1 := blk_cell hbox 1
      simp at q0 q1
      have hlkA := (HN1.below ((Below.refl _ W).drew)).look ho1.out
      have hlkB := (HN1.below (((Below.refl _ W).alloc (Nat.le_refl _) (.cells #[.int .i64 c] 3)).drew)).look ho1.out
      obtain ⟨v0, hv0⟩ : ∃ v0, v0 = (mg a).getD (.slice none 0 0) := ⟨_, rfl⟩
      rw [← hv0] at hlkA hlkB
      have hrow0 := HN1.row a
      rw [← hv0] at hrow0
      have hrow := Kd.R_tight rfl hrow0
      have hob : ∀ k, v0.ownBlock = some k → ∃ cs, W.heap[k]? = some (.cells cs 3 (0, 0)) := fun k hk => (R_block hrow0 hk).2
      have hvb := Aside0.mk (fun k (hk : v0.ownBlock = some k) => (R_block hrow0 hk).1)
      have hol := outs_len (es.take k) a
      have hB0 : NextB W bm mg v0 (outs (es.take k) a) [(⟨Bn, 0, none⟩, .int .i64 a), (⟨Bn, 1, none⟩, .int .i64 c)] W := ⟨HN1.map, hrow, by simp [q0, q1], Chg.refl _ _⟩
      have hB1 := (hB0.drew).alloc1 (.int .i64 c) 3
      have hcb : ∀ x ∈ [((⟨W.heap.size, 0, none⟩ : Addr), Value.int .i64 c), (⟨Bn, 0, none⟩, .int .i64 a), (⟨Bn, 1, none⟩, .int .i64 c)], some x.1.block ≠ v0.ownBlock := fun x hx e => by
        obtain ⟨cs, hc⟩ := hob x.1.block e.symm
        simp only [List.mem_cons, List.not_mem_nil, or_false] at hx
        rcases hx with rfl | rfl | rfl
        · exact absurd (blk_lt hc) (Nat.lt_irrefl _)
        · rw [hbox] at hc; simp at hc
        · rw [hbox] at hc; simp at hc
      obtain ⟨va, vc, e7⟩ := Kd.R_slice hrow
      have hl2 : (outs (es.take k) a).length < 17592186044000 := by
        rw [List.length_take] at hol
        omega
      replace hv0 := Aside0.mk hv0
      subst e7
      replace HN1 := Aside0.mk HN1
      replace hB1 := Aside0.mk hB1
      replace hcb := Aside0.mk hcb
      replace hl2 := Aside0.mk hl2
      clear hrow hrow0 hob hB0 hbox hBw hol
      go_region_held3 (fun w' => w'.cell? ⟨Bn, 0, none⟩ = some (.int .i64 a) ∧ w'.cell? ⟨Bn, 1, none⟩ = some (.int .i64 c)) (go_keep) ((refine step_nextB (by rfl) (.tmp 19) (.tmp 22) (by rfl) (by rfl) (nb := W.heap.size) (n := c) (by rfl) (hB1.out.cell (⟨W.heap.size, 0, none⟩, .int .i64 c) (by simp)) hB1.out hl2.out hcb.out ?_; intro v1 W1 hC hat; obtain ⟨W4, run4, hm4, hc4, hs4⟩ := hC.map.store keyInt Try.underlying38 ho1.out v1; have g1 := hC.cell (⟨Bn, 0, none⟩, .int .i64 a) (by simp); have g2 := hC.cell (⟨Bn, 1, none⟩, .int .i64 c) (by simp); simp only [id] at run4 g1 g2; have l1 := hc4.cell_some (p := ⟨Bn, 0, none⟩) g1 (hC.map.no_cell g1); have l2 := hc4.cell_some (p := ⟨Bn, 1, none⟩) g2 (hC.map.no_cell g2); replace hC := Aside0.mk hC; replace hat := Aside0.mk hat; replace hm4 := Aside0.mk hm4; replace hc4 := Aside0.mk hc4; replace hs4 := Aside0.mk hs4))
      all_goals
        have HN2 := HN1.out.more HB1.out.size (Below.refl _ _) hv0.out hC.out hat.out hm4.out hc4.out
        have hch := hC.out.chg.trans (S := fun y => y = bm ∨ some y = (Value.slice va (outs (es.take k) a).length vc).ownBlock) hc4.out (fun _ _ h => .inr h) (fun _ _ h => .inl h)
        have HB2 := Aside0.mk (HB1.out.trans (hch.below HB1.out.size (fun x hx => by
          rcases hx with hx | hx
          · omega
          · exact hvb.out x hx.symm)))
        rw [← HTK.out] at HN2
        replace HN2 := Aside0.mk HN2
        clear hch hC hat hm4 hc4
        go_wp2
        go_roundw
        case measure => simp [intOf]; omega
        case rel => exact ⟨k + 1, _, by omega, by go_num, HN2, HB2⟩
    · have b1 : decide ((k : Int) < (es.length : Int)) = false := decide_eq_false (by omega)
      obtain rfl : k = es.length := by omega
      have HN2 := HN.out
      rw [List.take_length] at HN2
      replace HN2 := Aside0.mk HN2
      go_wp2
      go_ret
      exact ⟨bm, mg, rfl, HN2.out, by omega, HB.out⟩
end Go.Proofs.Yteejeakbagbcoaa

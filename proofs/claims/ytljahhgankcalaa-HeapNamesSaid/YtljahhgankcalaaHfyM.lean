import Derived.Test.YtljahhgankcalaaHfrM
/-! (*Heap).Free, of a tuple that is there. -/
namespace Go.Proofs.Ytljahhgankcalaa
open Go.RowKit Go.Maps Go.MapKept Go.WideMaps
open Go.Proofs.YtljahhgankcalaaW.PrintWords Go.Proofs.YtljahhgankcalaaW.PrintLast Go.Proofs.YtljahhgankcalaaW.PrintMore
open PHeapThere
set_option linter.unusedVariables false
set_option linter.unusedSimpArgs false

set_option maxRecDepth 100000 in
set_option maxHeartbeats 2000000 in
theorem freed_yes (h : Nat) (i : Nat) (A : AH) (F : Nat → Prop) (w : World) (H : HeapIs w h A F) (hA : A.Ok) (hi : i < A.slots.length) (hb : A.there i = true) (hm0 : 1 ≤ A.many) (hm1 : A.many < 2147483648) :
    Calls Try.prog 41 #[.pointer (some ⟨h, 0, none⟩), .int .i64 i] w fun e w' => e = .returned (.int .i64 0) ∧ HeapIs w' h (A.free i).2 (ext F w w') ∧ Chg w w' F := by
  have hri := refused_calls h i A F (w.alloc (.cells #[.int .i64 i] 3)) (H.below ((Below.refl _ w).alloc (Nat.le_refl _) _))
  rw [hb] at hri
  have HH := Aside0.mk H
  have HA := Aside0.mk hA
  have hb' := Aside0.mk hb
  clear H hA hb
  go_enter Try.func41, Try.ntmps41
  go_wp2_with fail
  refine hri.mono ?_
  rintro e w' ⟨rfl, rfl⟩
  clear hri
  have H0 := HH.out.below ((Below.refl _ w).alloc (Nat.le_refl _) (.cells #[.int .i64 i] 3))
  have hs0 := blk_new w (.cells #[.int .i64 i] 3)
  have C0 : Chg w (w.alloc (.cells #[.int .i64 i] 3)) (fun _ => False) := (Chg.refl w _).alloc _
  have hsz0 : (w.alloc (.cells #[.int .i64 i] 3)).heap.size = w.heap.size + 1 := World.size_alloc _ _
  generalize w.alloc (.cells #[.int .i64 i] 3) = w0 at H0 hs0 C0 hsz0 ⊢
  obtain ⟨sv, rb, gb, rg, gg, H0⟩ := H0
  obtain ⟨g, cap, cur, u6, hsv, hn, hm, hgF, hg, hsz, h6, x0, x1, x2, x3, x4, x5, x6⟩ := slot_cells H0.slots hi
  obtain ⟨A6, c6, e6⟩ := Kd.R_slice h6
  subst e6
  have k0 := H0.cell 0
  have k1 := H0.cell 1
  rw [hsv] at k0
  have ks := blk_cell hs0 0
  have y0 := (blk_cell hg (i * 7)).trans x0
  have y1 := (blk_cell hg (i * 7 + 1)).trans x1
  have y2 := (blk_cell hg (i * 7 + 2)).trans x2
  have y3 := (blk_cell hg (i * 7 + 3)).trans x3
  have y4 := (blk_cell hg (i * 7 + 4)).trans x4
  have y5 := (blk_cell hg (i * 7 + 5)).trans x5
  have y6 := (blk_cell hg (i * 7 + 6)).trans x6
  simp at k0 k1 ks
  have b1 : (0 : Int) ≤ (i : Int) := by omega
  have b2 : (i : Int) < (A.slots.length : Int) := by omega
  have n0 := World.new_ne w0 _ k0
  have n1 := World.new_ne w0 _ ks
  have n2 := World.new_ne w0 _ y0
  have HSV := Aside0.mk hsv
  have HG := Aside0.mk hg
  have HN := Aside0.mk (And.intro hn (And.intro hm hsz))
  replace H0 := Aside0.mk H0
  replace C0 := Aside0.mk C0
  replace hs0 := Aside0.mk hs0
  obtain ⟨T, hT⟩ : ∃ T, T = A.slots[i] := ⟨_, rfl⟩
  rw [← hT] at y0 y1 y2 y3 y4 y5 y6
  replace hT := Aside0.mk hT
  clear hsv hg hn hm hsz x0 x1 x2 x3 x4 x5 x6 h6
  go_wp2_with fail
  go_region_held3 (fun w' => w'.cell? ⟨h, 0, none⟩ = some (.slice (some ⟨g, 0, none⟩) A.slots.length cap) ∧ w'.cell? ⟨w.heap.size, 0, none⟩ = some (.int .i64 i) ∧ w'.cell? ⟨g, i * 7, none⟩ = some (.int .i64 T.f0) ∧ w'.cell? ⟨g, i * 7 + 1, none⟩ = some (.int .i64 T.f1) ∧ w'.cell? ⟨g, i * 7 + 2, none⟩ = some (.int .i64 T.f2) ∧ w'.cell? ⟨g, i * 7 + 3, none⟩ = some (.int .i64 T.f3) ∧ w'.cell? ⟨g, i * 7 + 4, none⟩ = some (.int .i64 T.f4) ∧ w'.cell? ⟨g, i * 7 + 5, none⟩ = some (.int .i64 T.f5) ∧ w'.cell? ⟨g, i * 7 + 6, none⟩ = some (.slice A6 T.f6.length c6)) (go_keep) ((fail))
  go_wp2_with fail
  have C5 : Chg w0 (((w0.alloc (.cells #[.int .i64 T.f0, .int .i64 T.f1, .int .i64 T.f2, .int .i64 T.f3, .int .i64 T.f4, .int .i64 T.f5, .slice A6 T.f6.length c6] 39)).alloc (.cells #[.int .i64 T.f0, .int .i64 T.f1] 128)).drew) (fun _ => False) := (((Chg.refl w0 _).alloc _).alloc _).drew
  have hb7 : (((w0.alloc (.cells #[.int .i64 T.f0, .int .i64 T.f1, .int .i64 T.f2, .int .i64 T.f3, .int .i64 T.f4, .int .i64 T.f5, .slice A6 T.f6.length c6] 39)).alloc (.cells #[.int .i64 T.f0, .int .i64 T.f1] 128)).drew).heap[w.heap.size + 1 + 1]? = some (.cells #[.int .i64 T.f0, .int .i64 T.f1] 128 (0, 0)) := by
    have := blk_new (w0.alloc (.cells #[.int .i64 T.f0, .int .i64 T.f1, .int .i64 T.f2, .int .i64 T.f3, .int .i64 T.f4, .int .i64 T.f5, .slice A6 T.f6.length c6] 39)) (.cells #[.int .i64 T.f0, .int .i64 T.f1] 128)
    rw [World.size_alloc, hsz0] at this
    exact this
  generalize ((w0.alloc (.cells #[.int .i64 T.f0, .int .i64 T.f1, .int .i64 T.f2, .int .i64 T.f3, .int .i64 T.f4, .int .i64 T.f5, .slice A6 T.f6.length c6] 39)).alloc (.cells #[.int .i64 T.f0, .int .i64 T.f1] 128)).drew = w5 at C5 hb7 ⊢
  have H5 := H0.out.chg C5 (fun _ _ h => h)
  have hs5 := C5.obj hs0.out (fun h => h)
  have hg5 := C5.obj HG.out (fun h => h)
  have k1' := H5.cell 1
  have ks' := blk_cell hs5 0
  have d0 := blk_cell hb7 0
  have d1 := blk_cell hb7 1
  simp at k1' ks' d0 d1
  have hAt : A.at i = T := by rw [A.at_nat hi, hT.out]
  have hin : (i : Int) ∈ A.rows (T.f0, T.f1) := (HA.out.rows _ _).2 ⟨hb'.out, by rw [hAt]⟩
  obtain ⟨v0, hv0⟩ : ∃ v0, rg (T.f0, T.f1) = some v0 := by
    cases hq : rg (T.f0, T.f1) with
    | some v => exact ⟨v, rfl⟩
    | none => rw [H5.rown _ hq] at hin; cases hin
  have hR0 := (H5.rowv _ _ hv0).1
  have hokw := H5.rmap.good hv0
  obtain ⟨b0, hb0⟩ : ∃ b0, v0.ownBlock = some b0 := by
    obtain ⟨g', cap', hv', _⟩ := int_cells hR0 (i := 0) (List.length_pos_of_mem hin)
    exact ⟨g', by rw [hv']; rfl⟩
  obtain ⟨hb0F, cs0, hcs0⟩ := R_block hR0 hb0
  have ne1 : w.heap.size ≠ b0 := fun e => HH.out.bound _ hb0F |> fun hlt => by omega
  have ne2 : h ≠ b0 := fun e => by
    have hh := H5.blk
    rw [e, hcs0] at hh
    simp at hh
  have ne3 : w.heap.size + 1 + 1 ≠ b0 := fun e => HH.out.bound _ hb0F |> fun hlt => by omega
  have hlk := H5.rmap.drew.look keyWhere Try.underlying103 (Try.zeroRow _) false hokw
  rw [hv0] at hlk
  simp only [kvW, id] at hlk
  have heg : ∀ args w, (callFunc 83 args).run Try.prog w = .ok (.enter 83 args) w := enters_of Try.func83 (by kernel_rfl) rfl
  have hdel := deleteInt_calls 83 #[.pointer (some ⟨w.heap.size, 0, none⟩)] (fun x => x == (i : Int)) heg v0 _ F w5.drew (Kd.R_drew hR0) (freed_reads i w.heap.size _ _ ks' (by rw [hb0]; intro e; injection e with e; exact ne1 e))
  generalize hl : (A.rows (T.f0, T.f1)).filter (fun x => !(x == (i : Int))) = l at hdel
  have HNE : Aside0 (∀ k, k ≠ b0 → ¬ some k = v0.ownBlock) := ⟨fun k hk e => by rw [hb0] at e; injection e with e; exact hk e⟩
  have ne4 : rb ≠ b0 := fun e => by
    obtain ⟨es, cl, hm⟩ := H5.rmap.isMap
    rw [e, hcs0] at hm
    cases hm
  have H5' := Aside0.mk H5
  have C5' := Aside0.mk C5
  have HK := Aside0.mk (And.intro hv0 (And.intro hb0 (And.intro hcs0 (And.intro hR0 hokw))))
  have HL := Aside0.mk hl
  have HX := Aside0.mk (And.intro hs5 (And.intro hb7 (And.intro hg5 (And.intro hAt hin))))
  clear H5 C5 hv0 hb0 hcs0 hR0 hs5 hb7 hg5 hAt hin hl k0 k1 ks y0 y1 y2 y3 y4 y5 y6
  go_region_held3 (fun w' => w'.cell? ⟨h, 1, none⟩ = some (.map (some rb)) ∧ w'.cell? ⟨w.heap.size + 1 + 1, 0, none⟩ = some (.int .i64 T.f0) ∧ w'.cell? ⟨w.heap.size + 1 + 1, 1, none⟩ = some (.int .i64 T.f1)) (go_keep) ((go_at_call 82; refine hdel.mono ?_; rintro e W6 ⟨v1, rfl, hr6, ho6, hc6, hs6⟩; have hm6 := H5'.out.rmap.drew.chg hc6 (HNE.out rb ne4); have f1 := hc6.cell_some (p := ⟨h, 1, none⟩) k1' (HNE.out h ne2); have f2 := hc6.cell_some (p := ⟨w.heap.size + 1 + 1, 0, none⟩) d0 (HNE.out _ ne3); have f3 := hc6.cell_some (p := ⟨w.heap.size + 1 + 1, 1, none⟩) d1 (HNE.out _ ne3); obtain ⟨W7, hup, hm7, hc7, hs7⟩ := hm6.store keyWhere Try.underlying103 HK.out.2.2.2.2 v1; simp only [kvW, id] at hup; have g1 := hc7.cell_some (p := ⟨h, 1, none⟩) f1 (hm6.no_cell f1); have g2 := hc7.cell_some (p := ⟨w.heap.size + 1 + 1, 0, none⟩) f2 (hm6.no_cell f2); have g3 := hc7.cell_some (p := ⟨w.heap.size + 1 + 1, 1, none⟩) f3 (hm6.no_cell f3); replace hr6 := Aside0.mk hr6; replace ho6 := Aside0.mk ho6; replace hc6 := Aside0.mk hc6; replace hs6 := Aside0.mk hs6; replace hm6 := Aside0.mk hm6; replace hm7 := Aside0.mk hm7; replace hc7 := Aside0.mk hc7; replace hs7 := Aside0.mk hs7))
  all_goals
    obtain ⟨a1, c1, e1⟩ := Kd.R_slice hr6.out
    subst e1
    have hlk7 := hm7.out.drew.look keyWhere Try.underlying103 (Try.zeroRow _) false HK.out.2.2.2.2
    rw [upd_same] at hlk7
    simp only [kvW, id] at hlk7
    clear hup f1 f2 f3 hlk
    have hl9 : l.length ≤ 9223372036854775807 := by obtain ⟨_, _, _, _, h3⟩ := int_slice hr6.out; exact h3
    have hc56 : Chg w5 W6 (fun k => some k = v0.ownBlock) := ⟨hc6.out.os, hc6.out.tape, hc6.out.output, hc6.out.size, hc6.out.block⟩
    have hc57 := Aside0.mk ((hc56.trans (S := fun k => k = rb ∨ some k = v0.ownBlock) hc7.out (fun _ _ h => .inr h) (fun _ _ h => .inl h)))
    clear hc56
    have hS57 : Aside0 (∀ k, (k = rb ∨ some k = v0.ownBlock) → k < w5.heap.size → k = rb ∨ ∃ u, rg (T.f0, T.f1) = some u ∧ u.ownBlock = some k) := ⟨fun k hk _ => by
      rcases hk with hk | hk
      · exact .inl hk
      · exact .inr ⟨v0, HK.out.1, hk.symm⟩⟩
    have hgb0 : g ≠ b0 := fun e => by
      have h1 := HK.out.2.2.1
      have h2 := HX.out.2.2.1
      rw [← e, h2] at h1
      simp at h1
    have hgrb : g ≠ rb := fun e => by
      obtain ⟨es, cl, hm⟩ := H5'.out.rmap.isMap
      rw [← e, HX.out.2.2.1] at hm
      cases hm
    have hgh : g ≠ h := fun e => by
      have hh := H5'.out.blk
      rw [← e, HX.out.2.2.1] at hh
      simp at hh
    have hgw : g ≠ w.heap.size := fun e => by have := HH.out.bound g hgF; omega
    have hhg := Ne.symm hgh
    have hwg := Ne.symm hgw
    have hwrb : w.heap.size ≠ rb := fun e => by have := HH.out.bound rb H5'.out.rF; omega
    have hg7 := Aside0.mk (hc57.out.obj HX.out.2.2.1 (fun hs => by
      rcases hs with hs | hs
      · exact hgrb hs
      · exact HNE.out g hgb0 hs))
    have hs7' := Aside0.mk (hc57.out.obj HX.out.1 (fun hs => by
      rcases hs with hs | hs
      · exact hwrb hs
      · exact HNE.out _ ne1 hs))
    by_cases hle : l = []
    · subst hle
      have b8 : ((0 : Int) == 0) = true := rfl
      have hdl := hm7.out.drew.drew.del (ty := 0) keyWhere Try.underlying103 HK.out.2.2.2.2
      go_wp2_with fail
      go_region_held3 (fun w' => w'.cell? ⟨h, 1, none⟩ = some (.map (some rb)) ∧ w'.cell? ⟨w.heap.size + 1 + 1, 0, none⟩ = some (.int .i64 T.f0) ∧ w'.cell? ⟨w.heap.size + 1 + 1, 1, none⟩ = some (.int .i64 T.f1)) (go_keep) ((fail))
      go_wp2_with fail
      obtain ⟨W8, hdr, hm8, hc8, hs8'⟩ := hdl
      simp only [kvW] at hdr
      have q1 := hc8.cell_some (p := ⟨h, 1, none⟩) (show W7.drew.drew.cell? ⟨h, 1, none⟩ = _ from g1) ((hm7.out.drew.drew).no_cell (show W7.drew.drew.cell? ⟨h, 1, none⟩ = _ from g1))
      have q2 := hc8.cell_some (p := ⟨w.heap.size + 1 + 1, 0, none⟩) (show W7.drew.drew.cell? ⟨w.heap.size + 1 + 1, 0, none⟩ = _ from g2) ((hm7.out.drew.drew).no_cell (show W7.drew.drew.cell? ⟨w.heap.size + 1 + 1, 0, none⟩ = _ from g2))
      have q3 := hc8.cell_some (p := ⟨w.heap.size + 1 + 1, 1, none⟩) (show W7.drew.drew.cell? ⟨w.heap.size + 1 + 1, 1, none⟩ = _ from g3) ((hm7.out.drew.drew).no_cell (show W7.drew.drew.cell? ⟨w.heap.size + 1 + 1, 1, none⟩ = _ from g3))
      go_region_held3 (fun w' => w'.cell? ⟨h, 1, none⟩ = some (.map (some rb)) ∧ w'.cell? ⟨w.heap.size + 1 + 1, 0, none⟩ = some (.int .i64 T.f0) ∧ w'.cell? ⟨w.heap.size + 1 + 1, 1, none⟩ = some (.int .i64 T.f1)) (go_keep) ((fail))
      rw [upd_upd] at hm8
      have hc58 : Chg w5 W8 (fun k => k = rb ∨ some k = v0.ownBlock) := hc57.out.trans (S := fun k => k = rb ∨ some k = v0.ownBlock) ⟨hc8.os, hc8.tape, hc8.output, hc8.size, hc8.block⟩ (fun _ _ h => h) (fun _ _ h => .inl h)
      have H8 := H5'.out.delRow (p := (T.f0, T.f1)) hc58 hS57.out hm8
      have hsz8 : W8.heap.size = W7.heap.size := hs8'
      have hg8 : W8.heap[g]? = _ := (hc8.block g (blk_lt hg7.out) (fun e => hgrb e)).trans hg7.out
      have hs8 : W8.heap[w.heap.size]? = _ := (hc8.block _ (blk_lt hs7'.out) (fun e => hwrb e)).trans hs7'.out
      replace hc58 := Aside0.mk hc58
      rw [show ext F w5 W8 = ext F w5 W7 from by unfold ext; rw [hsz8]] at H8
      clear hm8 hc8 hs8'
      have HZ := H8
      have HZN : Aside0 (∀ k, ext F w5 W7 k → F k ∨ w.heap.size ≤ k) := ⟨fun k hk => by
        rcases hk with hk | hk
        · exact .inl hk
        · have z1 := C5'.out.size
          exact .inr (by have := hk.1; omega)⟩
      have r0 := HZ.cell 0
      have r3 := HZ.cell 3
      have rz := HZ.frozen 3
      have rs := blk_cell hs8 0
      rw [HSV.out] at r0
      have y0 := blk_cell hg8 (i * 7)
      have y1 := blk_cell hg8 (i * 7 + 1)
      have y2 := blk_cell hg8 (i * 7 + 2)
      have y3 := blk_cell hg8 (i * 7 + 3)
      have y4 := blk_cell hg8 (i * 7 + 4)
      have y5 := blk_cell hg8 (i * 7 + 5)
      have y6 := blk_cell hg8 (i * 7 + 6)
      have ysz := HN.out.2.2
      have ylt : i * 7 + 7 ≤ cur.size := by
        have := HN.out.1
        have h7 : (i + 1) * 7 ≤ cap * 7 := Nat.mul_le_mul_right _ (by omega)
        omega
      rw [Array.getElem?_eq_getElem (by omega)] at y0 y1 y2 y3 y4 y5 y6
      generalize cur[i * 7] = o0 at y0
      generalize cur[i * 7 + 1] = o1 at y1
      generalize cur[i * 7 + 2] = o2 at y2
      generalize cur[i * 7 + 3] = o3 at y3
      generalize cur[i * 7 + 4] = o4 at y4
      generalize cur[i * 7 + 5] = o5 at y5
      generalize cur[i * 7 + 6] = o6 at y6
      have yz : ∀ j, W8.frozen? ⟨g, j, none⟩ = false := fun j => blk_frozen hg8 j
      simp at r0 r3 rs
      replace HZ := Aside0.mk HZ
      replace hg8 := Aside0.mk hg8
      replace hs8 := Aside0.mk hs8
      replace ysz := Aside0.mk ysz
      clear ylt
      go_wp2_with fail
      go_region_held3 (fun w' => w'.cell? ⟨h, 0, none⟩ = some (.slice (some ⟨g, 0, none⟩) A.slots.length cap) ∧ w'.cell? ⟨w.heap.size, 0, none⟩ = some (.int .i64 i)) (go_keep) ((fail))
      go_wp2
      go_ret
      have hFr : (A.free i).2 = { slots := A.slots.set i zTup, rows := fun q => if q = (T.f0, T.f1) then [] else A.rows q, given := A.given, many := A.many - 1 } := by
        have h1 : A.free i = (0, { slots := A.slots.set (i : Int).toNat zTup, rows := fun q => if q = ((A.at i).f0, (A.at i).f1) then (A.rows q).filter (fun x => !(x == (i : Int))) else A.rows q, given := A.given, many := A.many - 1 }) := by
          unfold AH.free
          rw [if_pos hb'.out]
        rw [h1, HX.out.2.2.2.1, Int.toNat_natCast]
        show ({ slots := _, rows := _, given := _, many := _ } : AH) = _
        congr 1
        funext q
        by_cases hq : q = (T.f0, T.f1)
        · subst hq
          rw [if_pos rfl, if_pos rfl]
          exact HL.out
        · rw [if_neg hq, if_neg hq]
      have hZ := (HZ.out.zeroSlot (i := i) (g := g) (cap := cap) (cur := cur) hi HSV.out HN.out.1 hg8.out HN.out.2.2).setMany (A.many - 1)
      have hC8 : Chg w W8 (fun k => F k ∨ w.heap.size ≤ k) := ((C0.out.trans (S := fun k => F k ∨ w.heap.size ≤ k) C5'.out (fun _ _ h => h.elim) (fun _ _ h => h.elim)).trans (S := fun k => F k ∨ w.heap.size ≤ k) hc58.out (fun _ _ h => h) (fun k _ hs => by
        rcases hs with hs | hs
        · rw [hs]; exact .inl H5'.out.rF
        · rw [HK.out.2.1] at hs
          injection hs with hs
          rw [hs]
          exact .inl hb0F))
      have hC9 := hC8.trans (S := fun k => F k ∨ w.heap.size ≤ k) (chg_setCells W8 g (i * 7) [.int .i64 0, .int .i64 0, .int .i64 0, .int .i64 0, .int .i64 0, .int .i64 0, .slice none 0 0]) (fun _ _ h => h) (fun k _ (hk : k = g) => by rw [hk]; exact .inl hgF)
      have hC10 := hC9.setCell (p := ⟨h, 3, none⟩) (.inl (.inl HH.out.hF)) (.int .i64 (A.many - 1))
      have hZd := hZ.drew
      have hbd := hZd.bound
      have hCd := hC10.drew
      clear hZ hC10 hC9 hC8
      change _ ∧ HeapIs (((W8.setCells g (i * 7) [.int .i64 0, .int .i64 0, .int .i64 0, .int .i64 0, .int .i64 0, .int .i64 0, .slice none 0 0]).setCell ⟨h, 3, none⟩ (.int .i64 (A.many - 1))).drew) h _ (ext F w (((W8.setCells g (i * 7) [.int .i64 0, .int .i64 0, .int .i64 0, .int .i64 0, .int .i64 0, .int .i64 0, .slice none 0 0]).setCell ⟨h, 3, none⟩ (.int .i64 (A.many - 1))).drew)) ∧ Chg w (((W8.setCells g (i * 7) [.int .i64 0, .int .i64 0, .int .i64 0, .int .i64 0, .int .i64 0, .int .i64 0, .slice none 0 0]).setCell ⟨h, 3, none⟩ (.int .i64 (A.many - 1))).drew) F
      generalize ((W8.setCells g (i * 7) [.int .i64 0, .int .i64 0, .int .i64 0, .int .i64 0, .int .i64 0, .int .i64 0, .slice none 0 0]).setCell ⟨h, 3, none⟩ (.int .i64 (A.many - 1))).drew = WF at hZd hbd hCd ⊢
      refine ⟨by simp, ?_, ?_⟩
      · rw [hFr]
        refine ⟨sv, rb, gb, upd rg (T.f0, T.f1) none, gg, hZd.mono (fun k hk => ?_) (fun k hk => ?_)⟩
        · rcases HZN.out k hk with h1 | h1
          · exact .inl h1
          · exact .inr ⟨h1, hbd k hk⟩
        · rcases hk with hk | hk
          · exact Nat.lt_of_lt_of_le (HH.out.bound k hk) hCd.size
          · exact hk.2
      · exact hCd.mono (S1 := F) (fun k hk hs => by rcases hs with hs | hs; exact hs; omega)
    · have hpos : 0 < l.length := by cases l with | nil => exact absurd rfl hle | cons _ _ => simp
      have b8 : ((l.length : Int) == 0) = false := beq_eq_false_iff_ne.2 (by omega)
      go_wp2_with fail
      go_region_held3 (fun w' => w'.cell? ⟨h, 1, none⟩ = some (.map (some rb)) ∧ w'.cell? ⟨w.heap.size + 1 + 1, 0, none⟩ = some (.int .i64 T.f0) ∧ w'.cell? ⟨w.heap.size + 1 + 1, 1, none⟩ = some (.int .i64 T.f1)) (go_keep) ((fail))
      have H7 := H5'.out.setRow (p := (T.f0, T.f1)) (l := l) hle (v := .slice a1 l.length c1) hc57.out hS57.out hm7.out (Kd.R_mono (R_map hr6.out hm6.out hc7.out) (fun _ _ => trivial)) (fun b hb => .inr ⟨v0, HK.out.1, by rw [← ho6.out]; exact hb⟩)
      have H8 := H7.move (w1 := W7.drew) (fun _ _ => rfl) (Nat.le_refl _)
      have hg8 : W7.drew.heap[g]? = _ := hg7.out
      have hs8 : W7.drew.heap[w.heap.size]? = _ := hs7'.out
      have hc58 := Aside0.mk (show Chg w5 W7.drew (fun k => k = rb ∨ some k = v0.ownBlock) from hc57.out.drew)
      have hsz8 : W7.drew.heap.size = W7.heap.size := rfl
      clear H7 hlk7 g1 g2 g3
      generalize W7.drew = W8 at H8 hg8 hs8 hsz8 hc58 ⊢
      have HZ := H8
      have HZN : Aside0 (∀ k, ext F w5 W7 k → F k ∨ w.heap.size ≤ k) := ⟨fun k hk => by
        rcases hk with hk | hk
        · exact .inl hk
        · have z1 := C5'.out.size
          exact .inr (by have := hk.1; omega)⟩
      have r0 := HZ.cell 0
      have r3 := HZ.cell 3
      have rz := HZ.frozen 3
      have rs := blk_cell hs8 0
      rw [HSV.out] at r0
      have y0 := blk_cell hg8 (i * 7)
      have y1 := blk_cell hg8 (i * 7 + 1)
      have y2 := blk_cell hg8 (i * 7 + 2)
      have y3 := blk_cell hg8 (i * 7 + 3)
      have y4 := blk_cell hg8 (i * 7 + 4)
      have y5 := blk_cell hg8 (i * 7 + 5)
      have y6 := blk_cell hg8 (i * 7 + 6)
      have ysz := HN.out.2.2
      have ylt : i * 7 + 7 ≤ cur.size := by
        have := HN.out.1
        have h7 : (i + 1) * 7 ≤ cap * 7 := Nat.mul_le_mul_right _ (by omega)
        omega
      rw [Array.getElem?_eq_getElem (by omega)] at y0 y1 y2 y3 y4 y5 y6
      generalize cur[i * 7] = o0 at y0
      generalize cur[i * 7 + 1] = o1 at y1
      generalize cur[i * 7 + 2] = o2 at y2
      generalize cur[i * 7 + 3] = o3 at y3
      generalize cur[i * 7 + 4] = o4 at y4
      generalize cur[i * 7 + 5] = o5 at y5
      generalize cur[i * 7 + 6] = o6 at y6
      have yz : ∀ j, W8.frozen? ⟨g, j, none⟩ = false := fun j => blk_frozen hg8 j
      simp at r0 r3 rs
      replace HZ := Aside0.mk HZ
      replace hg8 := Aside0.mk hg8
      replace hs8 := Aside0.mk hs8
      replace ysz := Aside0.mk ysz
      clear ylt
      go_wp2_with fail
      go_region_held3 (fun w' => w'.cell? ⟨h, 0, none⟩ = some (.slice (some ⟨g, 0, none⟩) A.slots.length cap) ∧ w'.cell? ⟨w.heap.size, 0, none⟩ = some (.int .i64 i)) (go_keep) ((fail))
      go_wp2
      go_ret
      have hFr : (A.free i).2 = { slots := A.slots.set i zTup, rows := fun q => if q = (T.f0, T.f1) then l else A.rows q, given := A.given, many := A.many - 1 } := by
        have h1 : A.free i = (0, { slots := A.slots.set (i : Int).toNat zTup, rows := fun q => if q = ((A.at i).f0, (A.at i).f1) then (A.rows q).filter (fun x => !(x == (i : Int))) else A.rows q, given := A.given, many := A.many - 1 }) := by
          unfold AH.free
          rw [if_pos hb'.out]
        rw [h1, HX.out.2.2.2.1, Int.toNat_natCast]
        show ({ slots := _, rows := _, given := _, many := _ } : AH) = _
        congr 1
        funext q
        by_cases hq : q = (T.f0, T.f1)
        · subst hq
          rw [if_pos rfl, if_pos rfl]
          exact HL.out
        · rw [if_neg hq, if_neg hq]
      have hZ := (HZ.out.zeroSlot (i := i) (g := g) (cap := cap) (cur := cur) hi HSV.out HN.out.1 hg8.out HN.out.2.2).setMany (A.many - 1)
      have hC8 : Chg w W8 (fun k => F k ∨ w.heap.size ≤ k) := ((C0.out.trans (S := fun k => F k ∨ w.heap.size ≤ k) C5'.out (fun _ _ h => h.elim) (fun _ _ h => h.elim)).trans (S := fun k => F k ∨ w.heap.size ≤ k) hc58.out (fun _ _ h => h) (fun k _ hs => by
        rcases hs with hs | hs
        · rw [hs]; exact .inl H5'.out.rF
        · rw [HK.out.2.1] at hs
          injection hs with hs
          rw [hs]
          exact .inl hb0F))
      have hC9 := hC8.trans (S := fun k => F k ∨ w.heap.size ≤ k) (chg_setCells W8 g (i * 7) [.int .i64 0, .int .i64 0, .int .i64 0, .int .i64 0, .int .i64 0, .int .i64 0, .slice none 0 0]) (fun _ _ h => h) (fun k _ (hk : k = g) => by rw [hk]; exact .inl hgF)
      have hC10 := hC9.setCell (p := ⟨h, 3, none⟩) (.inl (.inl HH.out.hF)) (.int .i64 (A.many - 1))
      have hZd := hZ.drew
      have hbd := hZd.bound
      have hCd := hC10.drew
      clear hZ hC10 hC9 hC8
      change _ ∧ HeapIs (((W8.setCells g (i * 7) [.int .i64 0, .int .i64 0, .int .i64 0, .int .i64 0, .int .i64 0, .int .i64 0, .slice none 0 0]).setCell ⟨h, 3, none⟩ (.int .i64 (A.many - 1))).drew) h _ (ext F w (((W8.setCells g (i * 7) [.int .i64 0, .int .i64 0, .int .i64 0, .int .i64 0, .int .i64 0, .int .i64 0, .slice none 0 0]).setCell ⟨h, 3, none⟩ (.int .i64 (A.many - 1))).drew)) ∧ Chg w (((W8.setCells g (i * 7) [.int .i64 0, .int .i64 0, .int .i64 0, .int .i64 0, .int .i64 0, .int .i64 0, .slice none 0 0]).setCell ⟨h, 3, none⟩ (.int .i64 (A.many - 1))).drew) F
      generalize ((W8.setCells g (i * 7) [.int .i64 0, .int .i64 0, .int .i64 0, .int .i64 0, .int .i64 0, .int .i64 0, .slice none 0 0]).setCell ⟨h, 3, none⟩ (.int .i64 (A.many - 1))).drew = WF at hZd hbd hCd ⊢
      refine ⟨by simp, ?_, ?_⟩
      · rw [hFr]
        refine ⟨sv, rb, gb, upd rg (T.f0, T.f1) (some (.slice a1 l.length c1)), gg, hZd.mono (fun k hk => ?_) (fun k hk => ?_)⟩
        · rcases HZN.out k hk with h1 | h1
          · exact .inl h1
          · exact .inr ⟨h1, hbd k hk⟩
        · rcases hk with hk | hk
          · exact Nat.lt_of_lt_of_le (HH.out.bound k hk) hCd.size
          · exact hk.2
      · exact hCd.mono (S1 := F) (fun k hk hs => by rcases hs with hs | hs; exact hs; omega)
end Go.Proofs.Ytljahhgankcalaa

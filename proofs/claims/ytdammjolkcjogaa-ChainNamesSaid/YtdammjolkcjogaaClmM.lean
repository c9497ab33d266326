import Derived.Test.YtdammjolkcjogaaCllM
/-! ChainNames: its walk. -/
namespace Go.Proofs.Ytdammjolkcjogaa
open Go.RowKit Go.Maps Go.MapKept Go.WideMaps
open Go.Proofs.YtdammjolkcjogaaW.PrintWords Go.Proofs.YtdammjolkcjogaaW.PrintLast Go.Proofs.YtdammjolkcjogaaW.PrintMore
open PModelNames
set_option linter.unusedVariables false
set_option linter.unusedSimpArgs false
abbrev zItem : Value := .agg #[.int .i64 0, .int .i64 0, .bool false, .slice none 0 0, .slice none 0 0, .string ⟨#[]⟩, .slice none 0 0]
theorem infoItem : (Try.prog.info? 48).map (fun i => (i.zero, i.size, i.bytes)) = some (some zItem, 7, 112) := by kernel_rfl
/-- The list under way. -/
structure LS (w1 wr : World) (v : Value) (its : List (Option (Nat × Nat))) : Prop where
  some_ : ∀ k, k < its.length → ∃ gc gv, its[k]? = some (some (gc, gv))
  row : Kd.R (kRaw 7) 48 wr w1.heap.size (fun _ => True) v (its.map rawI)
  vals : ∀ (k gc gv : Nat), its[k]? = some (some (gc, gv)) → wr.heap[gc]? = some (.cells #[.int .i64 0] 3 (0, 0)) ∧ wr.heap[gv]? = some (.cells #[.int .u8 1, .int .i64 (k : Int), .int .i64 0, .string ⟨#[]⟩] 53 (0, 0))
  bel : Below w1.heap.size w1 wr
theorem row_typed {w : World} {base : Nat} {ok : Nat → Prop} {v : Value} {xs : List { l : List Value // l.length = 7 ∧ ∀ u ∈ l, u.oneCell' = true }} (h : Kd.R (kRaw 7) 48 w base ok v xs) (k : Nat) (hk : v.ownBlock = some k) : ∃ cells, w.heap[k]? = some (.cells cells 48 (0, 0)) := by
  obtain ⟨_, inner, ho, _⟩ := h
  exact own_typed ho k hk
theorem LS.push {w1 wr w2 : World} {v v' : Value} {its : List (Option (Nat × Nat))} (H : LS w1 wr v its) (hr : Kd.R (kRaw 7) 48 w2 w1.heap.size (fun _ => True) v' (its.map rawI ++ [rawI (some (wr.heap.size, wr.heap.size + 1))])) (hb : Below w1.heap.size w1 w2)
    (hg : ((wr.alloc (.cells #[.int .i64 0] 3)).alloc (.cells #[.int .u8 1, .int .i64 (its.length : Int), .int .i64 0, .string ⟨#[]⟩] 53)).grownBy w2 v.ownBlock) : LS w1 w2 v' (its ++ [some (wr.heap.size, wr.heap.size + 1)]) := by
  have hc := Chg.of_grown hg
  have hB : Below wr.heap.size wr ((wr.alloc (.cells #[.int .i64 0] 3)).alloc (.cells #[.int .u8 1, .int .i64 (its.length : Int), .int .i64 0, .string ⟨#[]⟩] 53)) := ((Below.refl _ wr).alloc (Nat.le_refl _) _).alloc (by simp) _
  have hR2 := Kd.R_below H.row hB
  have keep : ∀ {k e : Nat} {cs : Array Value}, ((wr.alloc (.cells #[.int .i64 0] 3)).alloc (.cells #[.int .u8 1, .int .i64 (its.length : Int), .int .i64 0, .string ⟨#[]⟩] 53)).heap[k]? = some (.cells cs e (0, 0)) → e ≠ 48 → w2.heap[k]? = some (.cells cs e (0, 0)) := fun hk he =>
    (hc.block _ (blk_lt hk) (fun hs => by
      obtain ⟨cur, hcur⟩ := row_typed hR2 _ hs.symm
      exact cells_ne hk hcur he rfl)).trans hk
  refine ⟨fun k hk => ?_, by rw [List.map_append]; exact hr, fun k gc gv hk => ?_, hb⟩
  · rw [List.length_append, List.length_singleton] at hk
    by_cases e : k < its.length
    · obtain ⟨gc, gv, h⟩ := H.some_ k e
      exact ⟨gc, gv, by rw [List.getElem?_append_left e]; exact h⟩
    · obtain rfl : k = its.length := by omega
      exact ⟨wr.heap.size, wr.heap.size + 1, by simp⟩
  · by_cases e : k < its.length
    · rw [List.getElem?_append_left e] at hk
      obtain ⟨h1, h2⟩ := H.vals k gc gv hk
      exact ⟨keep ((hB.block gc (blk_lt h1)).trans h1) (by decide), keep ((hB.block gv (blk_lt h2)).trans h2) (by decide)⟩
    · have hkl := (List.getElem?_eq_some_iff.1 hk).1
      rw [List.length_append, List.length_singleton] at hkl
      obtain rfl : k = its.length := by omega
      rw [List.getElem?_append_right (Nat.le_refl _)] at hk
      simp at hk
      obtain ⟨rfl, rfl⟩ := hk
      refine ⟨keep ((Below.heap_alloc _ _ _ (by simp)).trans (heap_alloc_new wr _)) (by decide), keep ?_ (by decide)⟩
      have h := heap_alloc_new (wr.alloc (.cells #[.int .i64 0] 3)) (.cells #[.int .u8 1, .int .i64 (its.length : Int), .int .i64 0, .string ⟨#[]⟩] 53)
      rwa [World.size_alloc] at h
theorem LS.below {w1 wr w2 : World} {v : Value} {its : List (Option (Nat × Nat))} (H : LS w1 wr v its) (hb : Below wr.heap.size wr w2) : LS w1 w2 v its :=
  ⟨H.some_, Kd.R_below H.row hb, fun k gc gv hk => ⟨(hb.block gc (blk_lt (H.vals k gc gv hk).1)).trans (H.vals k gc gv hk).1, (hb.block gv (blk_lt (H.vals k gc gv hk).2)).trans (H.vals k gc gv hk).2⟩, H.bel.trans (hb.mono H.bel.size)⟩
set_option maxRecDepth 100000 in
set_option maxHeartbeats 8000000 in
theorem chain_law (haw : ∀ W : World, Calls Try.prog 20 #[] W fun e W' => e = .returned (.bool true) ∧ Below W.heap.size W W') (w : World) :
    Calls Try.prog 4 #[] w fun e w' => e = .returned (.bool true) ∧ Below w.heap.size w w' := by
  have hfo := Aside0.mk follow_none
  have han := Aside0.mk apply_nil
  have hrn := Aside0.mk run_nil
  replace haw := Aside0.mk haw
  go_enter Try.func4, Try.ntmps4
  go_wp2_with fail
  refine (hfo.out _ _ _ _ _ _).mono ?_
  rintro e wa ⟨rfl, hBa⟩
  replace hBa := Aside0.mk hBa
  clear hfo
  go_wp2_with fail
  refine (han.out _).mono ?_
  rintro e wb ⟨rfl, hBb⟩
  replace hBa := Aside0.mk (hBa.out.trans (hBb.mono hBa.out.size))
  clear hBb han
  go_wp2_with fail
  refine (hrn.out _ _).mono ?_
  rintro e wc ⟨rfl, hBc⟩
  replace hBa := Aside0.mk ((hBa.out.alloc hBa.out.size _).trans (hBc.mono (by have := hBa.out.size; simp; omega)))
  have hwc : w.heap.size ≤ wc.heap.size := hBa.out.size
  clear hBc hrn
  go_wp2_with fail
  refine (new_calls _).mono ?_
  rintro e wd ⟨m, rfl, hm, H1, hBd⟩
  replace hBa := Aside0.mk (hBa.out.trans (hBd.mono hBa.out.size))
  clear hBd
  go_wp2_with fail
  have hput : Calls Try.prog 5 #[.pointer (some ⟨m, 0, none⟩), .int .i64 1, .int .i64 1, .slice (some ⟨wd.heap.size, 0, none⟩) 1 1] (wd.alloc (.cells #[.int .u8 0, .int .i64 0, .int .i64 0, .string ⟨#[]⟩] 53)) fun e w' => e = .returned (.tuple #[]) ∧ (∃ mb t r v, One w' m mb t r v ∧ Kd.R kVal 53 w' 0 (fun _ => True) v [zv]) ∧ Below w.heap.size w w' := by
    have hBx : Below wd.heap.size wd (wd.alloc (.cells #[.int .u8 0, .int .i64 0, .int .i64 0, .string ⟨#[]⟩] 53)) := (Below.refl _ wd).alloc (Nat.le_refl _) _
    have hF := H1.bound
    have hFn : ∀ k, (wc.heap.size ≤ k ∧ k < wd.heap.size) → wc.heap.size ≤ k := fun k hk => hk.1
    obtain ⟨mb, tb, rv, H, hD⟩ := H1.below hBx
    have hz := heap_alloc_new wd (.cells #[.int .u8 0, .int .i64 0, .int .i64 0, .string ⟨#[]⟩] 53)
    refine (put_calls H hD 1 1 (okI_small (by decide) (by decide)) (okI_small (by decide) (by decide)) (some ⟨wd.heap.size, 0, none⟩) 1 [zv] (fun W hc => ?_) (by simp) (by simp)).mono ?_
    · have hz2 := (hc.block wd.heap.size (blk_lt hz) (fun hk => by have := hk.2; omega)).trans hz
      exact (show VCells W wd.heap.size zv from ⟨blk_cell hz2 0, blk_cell hz2 1, blk_cell hz2 2, blk_cell hz2 3⟩).C
    · rintro e w' ⟨rfl, h1, h2⟩
      refine ⟨rfl, inst_one h1, (hBa.out.trans (hBx.mono hBa.out.size)).trans (h2.below (by have := hBa.out.size; simp; omega) (fun k hk => Nat.le_trans hwc hk.1))⟩
  refine hput.mono ?_
  clear hput
  rintro e w1 ⟨rfl, ⟨mb, t, r, v, hone, hR⟩, hB1⟩
  replace hB1 := Aside0.mk hB1
  replace hone := Aside0.mk (And.intro hone hR)
  clear hR hBa H1 hm
  go_wp2
  go_loopw [9, 10] (fun v9 v10 wr => ∃ its : List (Option (Nat × Nat)), its.length ≤ 1024 ∧ v10 = .int .i64 (its.length : Int) ∧ Aside0 (LS w1 wr v9 its)) (fun _ v10 _ => 1025 - (intOf v10).toNat)
  case atStart => exact ⟨[], by simp, rfl, ⟨⟨fun k hk => by simp at hk, Kd.R_nil _ _ _ _ _, fun k gc gv hk => by simp at hk, Below.refl _ _⟩⟩⟩
  case round =>
    obtain ⟨its, hle, rfl, HS⟩ := hrel
    by_cases hlt : its.length < 1024
    · have d1 : decide ((its.length : Int) < 1024) = true := decide_eq_true (by omega)
      have x1 : IntKind.wrap .i64 ((its.length : Int) + 1) = (its.length : Int) + 1 := by rw [IntKind.wrap_i64]; omega
      go_wp2_with (at_builtin; refine Kd.R_append (kRaw 7) (w0 := w1) (W := (wr.alloc (.cells #[.int .i64 0] 3)).alloc (.cells #[.int .u8 1, .int .i64 (its.length : Int), .int .i64 0, .string ⟨#[]⟩] 53)) w1.heap.size rfl (.tmp 46) (.tmp 52) 37 48 zItem 112 rfl Try.underlying37 infoItem rfl (by decide) (by omega) u9 (its.map rawI) (rawI (some (wr.heap.size, wr.heap.size + 1))) (icells (some (wr.heap.size, wr.heap.size + 1))) (fun _ => True) (fun _ => False) rfl (by simp [Act.eval]) rfl (fun _ h => h.elim) (fun _ _ => trivial) (Kd.R_below HS.out.row (((Below.refl _ wr).alloc (Nat.le_refl _) _).alloc (by simp) _)) (HS.out.bel.trans ((((Below.refl _ wr).alloc (Nat.le_refl _) _).alloc (by simp) _).mono HS.out.bel.size)) (by have := HS.out.bel.size; simp; omega) (by simp; omega) ?_; intro v2 w2 ho hb hg hat; replace ho := Aside0.mk ho; replace hb := Aside0.mk hb; replace hg := Aside0.mk hg; clear hat)
      go_roundw
      case measure => simp [intOf]; omega
      case rel => exact ⟨its ++ [some (wr.heap.size, wr.heap.size + 1)], by simp; omega, by simp, ⟨HS.out.push ho.out hb.out hg.out⟩⟩
    · have hlen : its.length = 1024 := by omega
      obtain ⟨l, lc, rfl, hlc, hI, hbl⟩ := items_of HS.out.row (by omega) HS.out.vals
      have d1 : decide ((its.length : Int) < 1024) = false := decide_eq_false (by omega)
      have hcp := Aside0.mk (copy_one (hone.out.1.below HS.out.bel))
      have hI' := Aside0.mk (And.intro hI (And.intro hlc hbl))
      clear hI hbl
      go_wp2_with fail
      refine hcp.out.mono ?_
      clear hcp
      rintro e w2 ⟨c, mb', t', r', rfl, hc1, hnw, hB2⟩
      have hR2 := Kd.R_below (Kd.R_below hone.out.2 HS.out.bel) hB2
      have hrun := run_calls hc1 hR2 (hI'.out.1.below hB2) hlc (fun k hk => HS.out.some_ k (by omega)) (.inl hlen)
      rw [hlen] at hrun
      replace hrun := Aside0.mk hrun
      have hE2 := Aside0.mk (And.intro hnw hB2)
      clear hc1 hnw hB2 hR2
      go_wp2_with fail
      refine hrun.out.mono ?_
      clear hrun
      rintro e w3 (⟨_, A, oc, rfl, hc3⟩ | ⟨h, _⟩)
      · have hB3 : Below wr.heap.size wr w3 := hE2.out.2.trans (hc3.below hE2.out.2.size (fun k hk => by rw [hk]; exact hE2.out.1.1))
        have HS3 := Aside0.mk (HS.out.below hB3)
        have hd := HS3.out.bel.size
        have hrow : Kd.R (kRaw 7) 48 w3 w1.heap.size (fun _ => True) (.slice (some ⟨l, 0, none⟩) 1024 lc) (its.map rawI) := by rw [← hlen]; exact HS3.out.row
        replace hrow := Aside0.mk hrow
        have hln : ((its.map rawI).length + 1) * 112 ≤ 140737488355328 := by simp; omega
        replace hB3 := Aside0.mk hB3
        clear hc3 hE2
        go_wp2_with (at_builtin; refine Kd.R_append (kRaw 7) (w0 := w1) (W := w3) w1.heap.size rfl (.tmp 63) (.tmp 65) 37 48 zItem 112 rfl Try.underlying37 infoItem rfl (by decide) (by omega) (.slice (some ⟨l, 0, none⟩) 1024 lc) (its.map rawI) (rawI none) (icells none) (fun _ => True) (fun _ => False) rfl rfl rfl (fun _ h => h.elim) (fun _ _ => trivial) hrow.out HS3.out.bel hd hln ?_; intro v4 w4 ho hb hg hat; replace ho := Aside0.mk ho; replace hb := Aside0.mk hb; replace hg := Aside0.mk hg; clear hat)
        have hlen2 : (its ++ [none]).length = 1025 := by simp [hlen]
        have hcg := Chg.of_grown hg.out
        have keep : ∀ {k e : Nat} {cs : Array Value}, w3.heap[k]? = some (.cells cs e (0, 0)) → e ≠ 48 → w4.heap[k]? = some (.cells cs e (0, 0)) := fun hk he =>
          (hcg.block _ (blk_lt hk) (fun hs => by
            obtain ⟨cur, hcur⟩ := row_typed hrow.out _ hs.symm
            exact cells_ne hk hcur he rfl)).trans hk
        have hv4 : ∀ (k gc gv : Nat), (its ++ [none])[k]? = some (some (gc, gv)) → w4.heap[gc]? = some (.cells #[.int .i64 0] 3 (0, 0)) ∧ w4.heap[gv]? = some (.cells #[.int .u8 1, .int .i64 (k : Int), .int .i64 0, .string ⟨#[]⟩] 53 (0, 0)) := fun k gc gv hk => by
          by_cases e : k < its.length
          · rw [List.getElem?_append_left e] at hk
            obtain ⟨h1, h2⟩ := HS3.out.vals k gc gv hk
            exact ⟨keep h1 (by decide), keep h2 (by decide)⟩
          · rw [List.getElem?_append_right (by omega)] at hk
            cases hj : k - its.length with
            | zero => rw [hj] at hk; simp at hk
            | succ n => rw [hj] at hk; simp at hk
        obtain ⟨l2, lc2, e4, hc2, hI2, _⟩ := items_of (its := its ++ [none]) (by rw [List.map_append]; exact ho.out) (by omega) hv4
        have hrun2 := run_calls (hone.out.1.below hb.out) (Kd.R_below hone.out.2 hb.out) hI2 hc2 (fun k hk => by rw [List.getElem?_append_left (by omega)]; exact HS.out.some_ k (by omega)) (.inr ⟨hlen2, by rw [List.getElem?_append_right (by omega), hlen]; rfl⟩)
        rw [hlen2] at e4 hrun2
        subst e4
        have hrow1 := Aside0.mk (fun (W : World) (hB : Below w4.heap.size w4 W) => row_one ((hone.out.1.below hb.out).below hB) (Kd.R_below (Kd.R_below hone.out.2 hb.out) hB) (by simp))
        refine hrun2.mono ?_
        clear hrun2 keep hv4 hcg hI2 ho hrow HS3 hI' HS hB3 hln
        rintro e w5 (⟨h, _⟩ | ⟨_, rfl, hB5⟩)
        · omega
        replace hB5 := Aside0.mk hB5
        go_wp2_with fail
        refine (hrow1.out w5 hB5.out).mono ?_
        clear hrow1
        rintro e w6 ⟨u, rfl, hu, hB6⟩
        obtain ⟨g, gc, rfl, hgc, z0, z1, z2, z3⟩ := R_vc hu
        simp only [zv] at z0 z1 z2 z3
        have hBE := Aside0.mk ((hB1.out.trans (hb.out.mono hB1.out.size)).trans ((hB5.out.trans (hB6.mono hB5.out.size)).mono (Nat.le_trans hB1.out.size hb.out.size)))
        have haw6 := haw.out w6
        clear hu hB6 hB5 hb hg
        go_wp2_with fail
        refine haw6.mono ?_
        clear haw6
        rintro e w7 ⟨rfl, hB7⟩
        replace hBE := Aside0.mk (hBE.out.trans (hB7.mono hBE.out.size))
        clear hB7
        go_wp2
        go_ret
        exact ⟨rfl, hBE.out⟩
      · omega
end Go.Proofs.Ytdammjolkcjogaa

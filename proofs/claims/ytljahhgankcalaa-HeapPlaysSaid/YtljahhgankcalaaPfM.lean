import Derived.Test.YtljahhgankcalaaGP
import Derived.Test.YtljahhgankcalaaG3
/-! The document's heap: Put. -/
namespace Go.Proofs.Ytljahhgankcalaa
open Go.RowKit Go.Maps Go.MapKept Go.WideMaps
open Go.Proofs.YtljahhgankcalaaW.PrintWords Go.Proofs.YtljahhgankcalaaW.PrintLast Go.Proofs.YtljahhgankcalaaW.PrintMore
open PHeapThere
set_option linter.unusedVariables false
set_option linter.unusedSimpArgs false

set_option maxRecDepth 100000 in
theorem rput_bad (x : Nat) (no id mi cm ma cx : Int) (A6 : Option Addr) (n6 c6 : Nat) (w : World) (hb : no < 1 ∨ id < 1 ∨ 2147483647 < no ∨ 2147483647 < id) :
    Calls Try.prog 47 #[.pointer (some ⟨x, 0, none⟩), .agg #[.int .i64 no, .int .i64 id, .int .i64 mi, .int .i64 cm, .int .i64 ma, .int .i64 cx, .slice A6 n6 c6]] w fun e w' => e = .returned (.tuple #[.int .i64 0, .int .i64 1]) ∧ Below w.heap.size w w' := by
  by_cases h1 : no < 1
  · have d1 : decide (no < 1) = true := decide_eq_true h1
    clear h1 hb
    go_enter Try.func47, Try.ntmps47
    go_wp2
    go_ret2
    exact ⟨by simp, (Below.refl _ w).alloc (Nat.le_refl _) _⟩
  · have d1 : decide (no < 1) = false := decide_eq_false h1
    by_cases h2 : id < 1
    · have d2 : decide (id < 1) = true := decide_eq_true h2
      clear h1 h2 hb
      go_enter Try.func47, Try.ntmps47
      go_wp2
      go_ret2
      exact ⟨by simp, (Below.refl _ w).alloc (Nat.le_refl _) _⟩
    · have d2 : decide (id < 1) = false := decide_eq_false h2
      by_cases h3 : 2147483647 < no
      · have d3 : decide (2147483647 < no) = true := decide_eq_true h3
        clear h1 h2 h3 hb
        go_enter Try.func47, Try.ntmps47
        go_wp2
        go_ret2
        exact ⟨by simp, (Below.refl _ w).alloc (Nat.le_refl _) _⟩
      · have d3 : decide (2147483647 < no) = false := decide_eq_false h3
        have d4 : decide (2147483647 < id) = true := decide_eq_true (by omega)
        clear h1 h2 h3 hb
        go_enter Try.func47, Try.ntmps47
        go_wp2
        go_ret2
        exact ⟨by simp, (Below.refl _ w).alloc (Nat.le_refl _) _⟩

theorem put_fin {w w9 : World} {x : Nat} {R : RH} {G : Nat → Prop} {lv gv v3 : Value} {t : ATup} {s : Int} {A7 : Option Addr} {c7 : Nat} (HH : RAt w x R G lv gv) (hb : Below w.heap.size w w9) (ho : Kd.R kRP 38 w9 w.heap.size (fun _ => True) v3 (R.L ++ [⟨s, t, A7, c7⟩]))
    (hr : Kd.R kVal 91 w9 0 (fun k => w.heap.size ≤ k) (.slice A7 t.f6.length c7) t.f6) :
    RIs (w9.setCell ⟨x, 0, none⟩ v3) x { R with L := R.L ++ [⟨s, t, A7, c7⟩] } (ext G w (w9.setCell ⟨x, 0, none⟩ v3)) ∧ Chg w (w9.setCell ⟨x, 0, none⟩ v3) (fun k => k = x) := by
  have h := HH.setL hb ho (fun p hp => by
    rcases List.mem_append.1 hp with hp | hp
    · exact Kd.R_below (Kd.R_mono (HH.rows p hp) (fun k hk => .inl hk)) hb
    · rw [List.mem_singleton.1 hp]
      exact Kd.R_mono hr (fun k hk => .inr hk))
  exact ⟨⟨_, _, h.1⟩, h.2⟩
theorem put_end {w W w' : World} {x : Nat} {R R' R2 : RH} {G : Nat → Prop} {lv gv : Value} (HH : RAt w x R G lv gv) (h1 : RIs W x R' (ext G w W)) (h2 : Chg w W (fun k => k = x)) (h3 : RIs w' x R2 (ext (ext G w W) W w')) (h4 : Chg W w' (ext G w W)) : RIs w' x R2 (ext G w w') ∧ Chg w w' G := by
  have s1 := h2.size
  have s2 := h4.size
  refine ⟨h3.mono (fun k hk => ?_) (fun k hk => ?_), h2.trans h4 (fun k _ e => e ▸ HH.xG) (fun k hk e => ?_)⟩
  · rcases hk with (hk | hk) | hk
    · exact .inl hk
    · exact .inr ⟨hk.1, by omega⟩
    · exact .inr ⟨by omega, hk.2⟩
  · rcases hk with hk | hk
    · have := HH.bound k hk; omega
    · exact hk.2
  · rcases e with e | e
    · exact e
    · omega
theorem box_C {W : World} {Bx : Nat} {p : RP} (h : W.heap[Bx]? = some (.cells (rpCells p).toArray 38 (0, 0))) : Kd.C kRP W (some ⟨Bx, 0, none⟩) 1 [p] :=
  ⟨rfl, by omega, fun _ => ⟨_, rfl, fun j q hj => by
    match j, hj with
    | 0, hj =>
      simp at hj
      subst hj
      refine ⟨rpCells p, rfl, kRP.K_of_M (kRP_mkM W 0 (fun _ => True) p), fun i u hu => ?_⟩
      have h1 := blk_cell h i
      have h2 : (rpCells p).toArray[i]? = some u := by simpa using hu
      rcases i with _ | i
      · simpa [Addr.add] using h1.trans h2
      · simpa [Addr.add] using h1.trans h2⟩⟩
set_option maxRecDepth 100000 in
set_option maxHeartbeats 4000000 in
theorem rput_good (x : Nat) (t : ATup) (A6 : Option Addr) (c6 : Nat) (R : RH) (G : Nat → Prop) (w : World) (H : RIs w x R G) (hl : R.L.length < 90000000) (hlg : R.G.length < 90000000) (hr : Kd.C kVal w A6 t.f6.length t.f6) (hx : t.f6.length < 3518437208883)
    (hb : ¬ badTup t) (n : Nat) (hn : n < 90000000) (hfn : R.find n = -1) (hfb : ∀ j : Nat, j < n → 0 ≤ R.find j) :
    Calls Try.prog 47 #[.pointer (some ⟨x, 0, none⟩), .agg #[.int .i64 t.f0, .int .i64 t.f1, .int .i64 t.f2, .int .i64 t.f3, .int .i64 t.f4, .int .i64 t.f5, .slice A6 t.f6.length c6]] w fun e w' =>
      e = .returned (.tuple #[.int .i64 n, .int .i64 0]) ∧ ∃ A c, RIs w' x (R.put n t A c) (ext G w w') ∧ Chg w w' G := by
  have d1 : decide (t.f0 < 1) = false := decide_eq_false (fun h => hb (.inl h))
  have d2 : decide (t.f1 < 1) = false := decide_eq_false (fun h => hb (.inr (.inl h)))
  have d3 : decide (2147483647 < t.f0) = false := decide_eq_false (fun h => hb (.inr (.inr (.inl h))))
  have d4 : decide (2147483647 < t.f1) = false := decide_eq_false (fun h => hb (.inr (.inr (.inr h))))
  obtain ⟨lv, gv, H⟩ := H
  obtain ⟨A, c, e⟩ := Kd.R_slice H.pl
  subst e
  have c0 := blk_cell H.blk 0
  have f0 := blk_frozen H.blk 0
  simp at c0
  have hxl := H.bound x H.xG
  have HC := Aside0.mk (Kd.R_reads' H.pl).2.2
  have HV := Aside0.mk hr
  have HH := Aside0.mk H
  have HX := Aside0.mk hx
  have HL := Aside0.mk hl
  have HLG := Aside0.mk hlg
  have HN := Aside0.mk hn
  have HXL := Aside0.mk hxl
  have hf := fun (j : Nat) => find_calls x j R G (w.alloc (.cells #[.int .i64 t.f0, .int .i64 t.f1, .int .i64 t.f2, .int .i64 t.f3, .int .i64 t.f4, .int .i64 t.f5, .slice A6 t.f6.length c6] 32)) (RIs.below ⟨_, _, H⟩ ((Below.refl _ w).alloc (Nat.le_refl _) _)) (by omega)
  have HFn := Aside0.mk hfn
  have HFb := Aside0.mk hfb
  have HF := Aside0.mk hf
  clear H hr hx hl hlg hb hfn hfb hn hf
  go_enter Try.func47, Try.ntmps47
  go_wp2
  obtain ⟨wb, hwb⟩ : ∃ wb, w.alloc (.cells #[.int .i64 t.f0, .int .i64 t.f1, .int .i64 t.f2, .int .i64 t.f3, .int .i64 t.f4, .int .i64 t.f5, .slice A6 t.f6.length c6] 32) = wb := ⟨_, rfl⟩
  have bw : Below w.heap.size w wb := by rw [← hwb]; exact (Below.refl _ w).alloc (Nat.le_refl _) _
  have hbk : wb.heap[w.heap.size]? = some (.cells #[.int .i64 t.f0, .int .i64 t.f1, .int .i64 t.f2, .int .i64 t.f3, .int .i64 t.f4, .int .i64 t.f5, .slice A6 t.f6.length c6] 32 (0, 0)) := by rw [← hwb]; exact heap_alloc_new w _
  rw [hwb] at HF
  try rw [hwb]
  clear hwb
  replace bw := Aside0.mk bw
  replace hbk := Aside0.mk hbk
  go_loopw [6] (fun v6 wr => ∃ i : Nat, i ≤ n ∧ v6 = .int .i64 i ∧ wr = wb) (fun v6 _ => n - (intOf v6).toNat)
  case atStart => exact ⟨0, Nat.zero_le _, rfl, rfl⟩
  case round =>
    obtain ⟨i, hi, rfl, rfl⟩ := hrel
    by_cases hlt : i < n
    · have hfi := HF.out i
      have d5 : decide (R.find (i : Int) ≥ 0) = true := decide_eq_true (HFb.out i hlt)
      have d6 : decide (0 ≤ R.find (i : Int)) = true := decide_eq_true (HFb.out i hlt)
      generalize R.find (i : Int) = fi at hfi d5 d6
      have i2 : (i : Int) < 90000000 := by have := HN.out; omega
      have i1 : (0 : Int) ≤ (i : Int) := by omega
      have hlt2 := Aside0.mk hlt
      go_wp2_with (go_at_call 85; refine hfi.mono ?_; rintro e w' ⟨rfl, hw⟩; obtain rfl := hw.symm)
      go_roundw
      case measure => have := hlt2.out; simp [intOf]; omega
      case rel => exact ⟨i + 1, by have := hlt2.out; omega, by go_num, by first | rfl | trivial⟩
    · obtain rfl : i = n := by omega
      have hfi := HF.out i
      rw [HFn.out] at hfi
      have x0 := blk_cell hbk.out 0
      have x1 := blk_cell hbk.out 1
      have x2 := blk_cell hbk.out 2
      have x3 := blk_cell hbk.out 3
      have x4 := blk_cell hbk.out 4
      have x5 := blk_cell hbk.out 5
      have x6 := blk_cell hbk.out 6
      have z6 := blk_frozen hbk.out 6
      simp at x0 x1 x2 x3 x4 x5 x6
      have hlt6 : w.heap.size < wr.heap.size := blk_lt hbk.out
      clear hlt
      go_upto_region 7 with (first
        | (go_at_call 85; refine hfi.mono ?_; rintro e w' ⟨rfl, hw⟩; obtain rfl := hw.symm)
        | (at_builtin; refine Kd.R_append_rows kVal (w0 := wr) wr.heap.size rfl (.tmp 31) (.tmp 33) 30 91 (.agg #[(.int .u8 0), (.int .i64 0), (.int .i64 0), (.string ⟨#[]⟩)]) 40 rfl Try.underlying30 info91 rfl (by decide) (by omega) (.slice (some ⟨wr.heap.size, 0, none⟩) 0 0) [] t.f6 _ _ _ (fun _ => True) (fun _ => False) rfl rfl (R_empty kVal 91 wr wr.heap.size (Nat.le_refl _) (fun _ => True) trivial) (Kd.C_below (Kd.C_below HV.out bw.out) ((Below.refl _ _).alloc (Nat.le_refl _) _)) (fun _ _ h => h) (fun _ h => h.elim) (fun _ _ => trivial) ((Below.refl _ _).alloc (Nat.le_refl _) _) (by simp) (by have := HX.out; simp; omega) ?_; intro v7 w5 ho7 hb7 hg7 hat7; simp only [List.nil_append] at ho7; clear hg7 hat7; obtain ⟨A7, c7, e7⟩ := Kd.R_slice ho7; subst e7; replace ho7 := Aside0.mk ho7; have hbk5 := (hb7.block w.heap.size (blk_lt hbk.out)).trans hbk.out; have k6 := blk_cell hbk5 6; have y6 := blk_frozen hbk5 6; simp at k6; replace hbk5 := Aside0.mk hbk5; replace hb7 := Aside0.mk hb7))
      -- region 7
      have hbz := blk_set hbk5.out 6 (.slice A7 t.f6.length c7)
      simp at hbz
      have hzB : Below w.heap.size w (w5.setCell ⟨w.heap.size, 6, none⟩ (.slice A7 t.f6.length c7)).drew := ((bw.out.trans (hb7.out.mono bw.out.size)).setCell (by simp) _).drew
      have hRz : Kd.R kVal 91 (w5.setCell ⟨w.heap.size, 6, none⟩ (.slice A7 t.f6.length c7)).drew 0 (fun k => w.heap.size ≤ k) (.slice A7 t.f6.length c7) t.f6 := Kd.R_lower (R_typ (Kd.R_mono (Kd.R_bound ho7.out) (fun k hk => Nat.le_trans (Nat.le_of_lt (blk_lt hbk.out)) hk.2.1)) hbk5.out (fun q hq => (by
        have hq2 : q ∈ ([91] : List Nat) := hq
        simp at hq2
        subst hq2
        decide)) ((((Chg.refl w5 (fun k => k = w.heap.size)).setCell (p := ⟨w.heap.size, 6, none⟩) (.inl rfl) _)).drew)) (Nat.zero_le _)
      have hbzd : (w5.setCell ⟨w.heap.size, 6, none⟩ (.slice A7 t.f6.length c7)).drew.heap[w.heap.size]? = some (.cells #[.int .i64 t.f0, .int .i64 t.f1, .int .i64 t.f2, .int .i64 t.f3, .int .i64 t.f4, .int .i64 t.f5, .slice A7 t.f6.length c7] 32 (0, 0)) := hbz
      obtain ⟨wz, hwz⟩ : ∃ wz, w5.setCell ⟨w.heap.size, 6, none⟩ (.slice A7 t.f6.length c7) = wz := ⟨_, rfl⟩
      rw [hwz] at hzB hRz hbzd
      try rw [hwz]
      clear hwz hbz
      have hxz : wz.drew.heap[x]? = some (.cells #[.slice A R.L.length c, gv] 136 (0, 0)) := (hzB.block x HXL.out).trans HH.out.blk
      obtain ⟨wd, hwd⟩ : ∃ wd, wz.drew = wd := ⟨_, rfl⟩
      rw [hwd] at hzB hRz hbzd hxz
      have hkeep : Aside0 (∀ W : World, Below wd.heap.size wd W → W.cell? ⟨w.heap.size, 0, none⟩ = some (.int .i64 t.f0) ∧ W.cell? ⟨w.heap.size, 1, none⟩ = some (.int .i64 t.f1) ∧ W.cell? ⟨w.heap.size, 2, none⟩ = some (.int .i64 t.f2) ∧ W.cell? ⟨w.heap.size, 3, none⟩ = some (.int .i64 t.f3) ∧ W.cell? ⟨w.heap.size, 4, none⟩ = some (.int .i64 t.f4) ∧ W.cell? ⟨w.heap.size, 5, none⟩ = some (.int .i64 t.f5) ∧ W.cell? ⟨w.heap.size, 6, none⟩ = some (.slice A7 t.f6.length c7) ∧ W.cell? ⟨x, 0, none⟩ = some (.slice A R.L.length c)) := ⟨fun W hb => by
        have h1 := (hb.block w.heap.size (blk_lt hbzd)).trans hbzd
        have h2 := (hb.block x (blk_lt hxz)).trans hxz
        exact ⟨blk_cell h1 0, blk_cell h1 1, blk_cell h1 2, blk_cell h1 3, blk_cell h1 4, blk_cell h1 5, blk_cell h1 6, blk_cell h2 0⟩⟩
      have hfrz : Aside0 (∀ W : World, Below wd.heap.size wd W → W.frozen? ⟨x, 0, none⟩ = false) := ⟨fun W hb => blk_frozen ((hb.block x (blk_lt hxz)).trans hxz) 0⟩
      have HCd := Aside0.mk (Kd.C_below HC.out hzB)
      obtain ⟨g0, g1, g2, g3, g4, g5, g6, gx⟩ := hkeep.out wd (Below.refl _ _)
      have hRd := Aside0.mk hRz
      have hBd := Aside0.mk hzB
      have hlw : w.heap.size < wd.heap.size := blk_lt hbzd
      have hlx : x < wd.heap.size := blk_lt hxz
      have y0 : wz.cell? ⟨w.heap.size, 0, none⟩ = some (.int .i64 t.f0) := by rw [← hwd] at g0; exact g0
      have y1 : wz.cell? ⟨w.heap.size, 1, none⟩ = some (.int .i64 t.f1) := by rw [← hwd] at g1; exact g1
      have y2 : wz.cell? ⟨w.heap.size, 2, none⟩ = some (.int .i64 t.f2) := by rw [← hwd] at g2; exact g2
      have y3 : wz.cell? ⟨w.heap.size, 3, none⟩ = some (.int .i64 t.f3) := by rw [← hwd] at g3; exact g3
      have y4 : wz.cell? ⟨w.heap.size, 4, none⟩ = some (.int .i64 t.f4) := by rw [← hwd] at g4; exact g4
      have y5 : wz.cell? ⟨w.heap.size, 5, none⟩ = some (.int .i64 t.f5) := by rw [← hwd] at g5; exact g5
      have y7 : wz.cell? ⟨w.heap.size, 6, none⟩ = some (.slice A7 t.f6.length c7) := by rw [← hwd] at g6; exact g6
      have y8 : wz.cell? ⟨x, 0, none⟩ = some (.slice A R.L.length c) := by rw [← hwd] at gx; exact gx
      clear hzB hRz hbzd hxz
      have hBa := Aside0.mk ((Below.refl wd.heap.size wd).alloc (Nat.le_refl _) (.cells #[] 38))
      have hBb := Aside0.mk (((Below.refl wd.heap.size wd).alloc (Nat.le_refl _) (.cells #[.int .i64 i, .int .i64 t.f0, .int .i64 t.f1, .int .i64 t.f2, .int .i64 t.f3, .int .i64 t.f4, .int .i64 t.f5, .slice A7 t.f6.length c7] 38)).alloc (by simp) (.cells #[] 38))
      have hBc := Aside0.mk (((Below.refl wd.heap.size wd).alloc (Nat.le_refl _) (.cells #[] 38)).alloc (by simp) (.cells #[.int .i64 i, .int .i64 t.f0, .int .i64 t.f1, .int .i64 t.f2, .int .i64 t.f3, .int .i64 t.f4, .int .i64 t.f5, .slice A7 t.f6.length c7] 38))
      have hEa : Aside0 (Kd.R kRP 38 (wd.alloc (.cells #[] 38)) wd.heap.size (fun _ => True) (.slice (some ⟨wd.heap.size, 0, none⟩) 0 0) []) := ⟨R_empty kRP 38 wd wd.heap.size (Nat.le_refl _) (fun _ => True) trivial⟩
      have hEb : Aside0 (Kd.R kRP 38 ((wd.alloc (.cells #[.int .i64 i, .int .i64 t.f0, .int .i64 t.f1, .int .i64 t.f2, .int .i64 t.f3, .int .i64 t.f4, .int .i64 t.f5, .slice A7 t.f6.length c7] 38)).alloc (.cells #[] 38)) wd.heap.size (fun _ => True) (.slice (some ⟨wd.heap.size + 1, 0, none⟩) 0 0) []) := ⟨by
        have h := R_empty kRP 38 (wd.alloc (.cells #[.int .i64 i, .int .i64 t.f0, .int .i64 t.f1, .int .i64 t.f2, .int .i64 t.f3, .int .i64 t.f4, .int .i64 t.f5, .slice A7 t.f6.length c7] 38)) wd.heap.size (by simp) (fun _ => True) trivial
        rwa [World.size_alloc] at h⟩
      have hEc : Aside0 (Kd.R kRP 38 ((wd.alloc (.cells #[] 38)).alloc (.cells #[.int .i64 i, .int .i64 t.f0, .int .i64 t.f1, .int .i64 t.f2, .int .i64 t.f3, .int .i64 t.f4, .int .i64 t.f5, .slice A7 t.f6.length c7] 38)) wd.heap.size (fun _ => True) (.slice (some ⟨wd.heap.size, 0, none⟩) 0 0) []) := ⟨Kd.R_below hEa.out ((Below.refl _ (wd.alloc (.cells #[] 38))).alloc (Nat.le_refl _) (.cells #[.int .i64 i, .int .i64 t.f0, .int .i64 t.f1, .int .i64 t.f2, .int .i64 t.f3, .int .i64 t.f4, .int .i64 t.f5, .slice A7 t.f6.length c7] 38))⟩
      have hXb : Aside0 (((wd.alloc (.cells #[.int .i64 i, .int .i64 t.f0, .int .i64 t.f1, .int .i64 t.f2, .int .i64 t.f3, .int .i64 t.f4, .int .i64 t.f5, .slice A7 t.f6.length c7] 38)).alloc (.cells #[] 38)).heap[wd.heap.size]? = some (.cells #[.int .i64 i, .int .i64 t.f0, .int .i64 t.f1, .int .i64 t.f2, .int .i64 t.f3, .int .i64 t.f4, .int .i64 t.f5, .slice A7 t.f6.length c7] 38 (0, 0))) := ⟨by
        have h := heap_alloc_new wd (.cells #[.int .i64 i, .int .i64 t.f0, .int .i64 t.f1, .int .i64 t.f2, .int .i64 t.f3, .int .i64 t.f4, .int .i64 t.f5, .slice A7 t.f6.length c7] 38)
        exact (((Below.refl _ (wd.alloc (.cells #[.int .i64 i, .int .i64 t.f0, .int .i64 t.f1, .int .i64 t.f2, .int .i64 t.f3, .int .i64 t.f4, .int .i64 t.f5, .slice A7 t.f6.length c7] 38))).alloc (Nat.le_refl _) (.cells #[] 38)).block _ (blk_lt h)).trans h⟩
      have hXc : Aside0 (((wd.alloc (.cells #[] 38)).alloc (.cells #[.int .i64 i, .int .i64 t.f0, .int .i64 t.f1, .int .i64 t.f2, .int .i64 t.f3, .int .i64 t.f4, .int .i64 t.f5, .slice A7 t.f6.length c7] 38)).heap[wd.heap.size + 1]? = some (.cells #[.int .i64 i, .int .i64 t.f0, .int .i64 t.f1, .int .i64 t.f2, .int .i64 t.f3, .int .i64 t.f4, .int .i64 t.f5, .slice A7 t.f6.length c7] 38 (0, 0))) := ⟨by
        have h := heap_alloc_new (wd.alloc (.cells #[] 38)) (.cells #[.int .i64 i, .int .i64 t.f0, .int .i64 t.f1, .int .i64 t.f2, .int .i64 t.f3, .int .i64 t.f4, .int .i64 t.f5, .slice A7 t.f6.length c7] 38)
        rwa [World.size_alloc] at h⟩
      refine wp_region_held_drew (S := (fun W => W.cell? ⟨w.heap.size, 0, none⟩ = some (.int .i64 t.f0) ∧ W.cell? ⟨w.heap.size, 1, none⟩ = some (.int .i64 t.f1) ∧ W.cell? ⟨w.heap.size, 2, none⟩ = some (.int .i64 t.f2) ∧ W.cell? ⟨w.heap.size, 3, none⟩ = some (.int .i64 t.f3) ∧ W.cell? ⟨w.heap.size, 4, none⟩ = some (.int .i64 t.f4) ∧ W.cell? ⟨w.heap.size, 5, none⟩ = some (.int .i64 t.f5) ∧ W.cell? ⟨w.heap.size, 6, none⟩ = some (.slice A7 t.f6.length c7))) (by kernel_rfl) ?_ (fun hHeld => ?_)
      · go_keep
      rw [hwd] at hHeld ⊢
      clear y0 y1 y2 y3 y4 y5 y7 y8 hwd
      refine wpAnyH_take (i := 0) (v := ?_) rfl (by kernel_rfl) (by kernel_rfl) (by kernel_rfl) (fun _ _ _ h => h) (Or.inl ⟨by rfl, ?_⟩) (by assumption) ?_
      rotate_left
      · intro w hSw
        try dsimp only at hSw
        go_simp
        try with_reducible rfl
      try simp only [Act.put, List.getElem_toArray, List.getElem_cons_zero, List.getElem_cons_succ, List.setIfInBounds_toArray, List.set_cons_zero, List.set_cons_succ]
      refine wpAnyH_take (i := 2) (v := ?_) rfl (by kernel_rfl) (by kernel_rfl) (by kernel_rfl) (fun _ _ _ h => h) (Or.inl ⟨by rfl, ?_⟩) (by assumption) ?_
      rotate_left
      · intro w hSw
        try dsimp only at hSw
        go_simp
        try with_reducible rfl
      try simp only [Act.put, List.getElem_toArray, List.getElem_cons_zero, List.getElem_cons_succ, List.setIfInBounds_toArray, List.set_cons_zero, List.set_cons_succ]
      refine wpAnyH_take (i := 7) (v := ?_) rfl (by kernel_rfl) (by kernel_rfl) (by kernel_rfl) (fun _ _ _ h => h) (Or.inl ⟨by rfl, ?_⟩) (by assumption) ?_
      rotate_left
      · intro w hSw
        try dsimp only at hSw
        go_simp
        try with_reducible rfl
      try simp only [Act.put, List.getElem_toArray, List.getElem_cons_zero, List.getElem_cons_succ, List.setIfInBounds_toArray, List.set_cons_zero, List.set_cons_succ]
      refine wpAnyH_take (i := 8) (v := ?_) rfl (by kernel_rfl) (by kernel_rfl) (by kernel_rfl) (fun _ _ _ h => h) (Or.inl ⟨by rfl, ?_⟩) (by assumption) ?_
      rotate_left
      · intro w hSw
        try dsimp only at hSw
        go_simp
        try with_reducible rfl
      try simp only [Act.put, List.getElem_toArray, List.getElem_cons_zero, List.getElem_cons_succ, List.setIfInBounds_toArray, List.set_cons_zero, List.set_cons_succ]
      refine wpAnyH_take (i := 3) (v := ?_) rfl (by kernel_rfl) (by kernel_rfl) (by kernel_rfl) (fun _ _ _ h => h) (Or.inl ⟨by rfl, ?_⟩) (by assumption) ?_
      rotate_left
      · intro w hSw
        try dsimp only at hSw
        go_simp
        try with_reducible rfl
      try simp only [Act.put, List.getElem_toArray, List.getElem_cons_zero, List.getElem_cons_succ, List.setIfInBounds_toArray, List.set_cons_zero, List.set_cons_succ]
      refine wpAnyH_take (i := 9) (v := ?_) rfl (by kernel_rfl) (by kernel_rfl) (by kernel_rfl) (fun _ _ _ h => h) (Or.inl ⟨by rfl, ?_⟩) (by assumption) ?_
      rotate_left
      · intro w hSw
        try dsimp only at hSw
        go_simp
        try with_reducible rfl
      try simp only [Act.put, List.getElem_toArray, List.getElem_cons_zero, List.getElem_cons_succ, List.setIfInBounds_toArray, List.set_cons_zero, List.set_cons_succ]
      refine wpAnyH_take (i := 4) (v := ?_) rfl (by kernel_rfl) (by kernel_rfl) (by kernel_rfl) (fun _ _ _ h => h) (Or.inl ⟨by rfl, ?_⟩) (by assumption) ?_
      rotate_left
      · intro w hSw
        try dsimp only at hSw
        go_simp
        try with_reducible rfl
      try simp only [Act.put, List.getElem_toArray, List.getElem_cons_zero, List.getElem_cons_succ, List.setIfInBounds_toArray, List.set_cons_zero, List.set_cons_succ]
      refine wpAnyH_ready (rs := [1, 5, 10]) (by kernel_rfl) (by simp) ?_
      refine AllReadyH.cons rfl (fun K hK => ?_) (AllReadyH.cons rfl (fun K hK => ?_) (AllReadyH.cons rfl (fun K hK => ?_) AllReadyH.nil))
      · go_simp
        refine hK.out _ _ ?_ (fun hHeld => ?_)
        · go_keep
        clear hK K
        try simp only [Act.put, List.getElem_toArray, List.getElem_cons_zero, List.getElem_cons_succ, List.setIfInBounds_toArray, List.set_cons_zero, List.set_cons_succ]
        refine wpAnyH_ready (rs := [5, 10]) (by kernel_rfl) (by simp) ?_
        refine AllReadyH.cons rfl (fun K hK => ?_) (AllReadyH.cons rfl (fun K hK => ?_) AllReadyH.nil)
        · go_simp
          refine hK.out _ _ ?_ (fun hHeld => ?_)
          · go_keep
          clear hK K
          try simp only [Act.put, List.getElem_toArray, List.getElem_cons_zero, List.getElem_cons_succ, List.setIfInBounds_toArray, List.set_cons_zero, List.set_cons_succ]
          refine wpAnyH_ready (rs := [6, 10]) (by kernel_rfl) (by simp) ?_
          refine AllReadyH.cons rfl (fun K hK => ?_) (AllReadyH.cons rfl (fun K hK => ?_) AllReadyH.nil)
          · refine Kd.R_append_rows_step kRP (w0 := wd) wd.heap.size (by rfl) (.tmp 37) (.tmp 41) 36 38 (.agg #[.int .i64 0, .int .i64 0, .int .i64 0, .int .i64 0, .int .i64 0, .int .i64 0, .int .i64 0, .slice none 0 0]) 80 (by rfl) Try.underlying36 Try.infoPlc rfl (by decide) (by omega) _ [] R.L _ _ _ (fun _ => True) (fun _ => False) (by rfl) (by rfl) hEa.out (Kd.C_below HCd.out hBa.out) (fun _ _ h => kRP_ofK h) (fun _ h => h.elim) (fun _ _ => trivial) hBa.out hBa.out.size (by have := HL.out; simp only [List.length_nil]; omega) ?_
            intro v2 W6 ho6 hb6 hg6 hat6; clear hat6; simp only [List.nil_append] at ho6; obtain ⟨g0, g1, g2, g3, g4, g5, g6, gx⟩ := hkeep.out W6 hb6; obtain ⟨a2, c2, e2⟩ := Kd.R_slice ho6; subst e2
            replace ho6 := Aside0.mk ho6; replace hb6 := Aside0.mk hb6; clear hg6
            refine hK.out _ _ ?_ (fun hHeld => ?_)
            · go_keep
            clear hK K
            try simp only [Act.put, List.getElem_toArray, List.getElem_cons_zero, List.getElem_cons_succ, List.setIfInBounds_toArray, List.set_cons_zero, List.set_cons_succ]
            refine wpAnyH_ready (rs := [10]) (by kernel_rfl) (by simp) ?_
            refine AllReadyH.cons rfl (fun K hK => ?_) AllReadyH.nil
            go_simp
            refine hK.out _ _ ?_ (fun hHeld => ?_)
            · go_keep
            clear hK K
            try simp only [Act.put, List.getElem_toArray, List.getElem_cons_zero, List.getElem_cons_succ, List.setIfInBounds_toArray, List.set_cons_zero, List.set_cons_succ]
            refine wpAnyH_ready (rs := [11]) (by kernel_rfl) (by simp) ?_
            refine AllReadyH.cons rfl (fun K hK => ?_) AllReadyH.nil
            refine Kd.R_append_rows_step kRP (w0 := wd) wd.heap.size (by rfl) (.tmp 42) (.tmp 46) 36 38 (.agg #[.int .i64 0, .int .i64 0, .int .i64 0, .int .i64 0, .int .i64 0, .int .i64 0, .int .i64 0, .slice none 0 0]) 80 (by rfl) Try.underlying36 Try.infoPlc rfl (by decide) (by omega) (.slice a2 R.L.length c2) R.L [(⟨(i : Int), t, A7, c7⟩ : RP)] _ _ _ (fun _ => True) (fun _ => False) (by rfl) (by rfl) (Kd.R_below ho6.out ((Below.refl _ W6).alloc (Nat.le_refl _) (.cells #[.int .i64 i, .int .i64 t.f0, .int .i64 t.f1, .int .i64 t.f2, .int .i64 t.f3, .int .i64 t.f4, .int .i64 t.f5, .slice A7 t.f6.length c7] 38))) (box_C (p := ⟨(i : Int), t, A7, c7⟩) (heap_alloc_new W6 (.cells #[.int .i64 i, .int .i64 t.f0, .int .i64 t.f1, .int .i64 t.f2, .int .i64 t.f3, .int .i64 t.f4, .int .i64 t.f5, .slice A7 t.f6.length c7] 38))) (fun _ _ h => kRP_ofK h) (fun _ h => h.elim) (fun _ _ => trivial) (hb6.out.alloc hb6.out.size (.cells #[.int .i64 i, .int .i64 t.f0, .int .i64 t.f1, .int .i64 t.f2, .int .i64 t.f3, .int .i64 t.f4, .int .i64 t.f5, .slice A7 t.f6.length c7] 38)) (by have := hb6.out.size; simp; omega) (by have := HL.out; omega) ?_
            intro v3 W9 ho9 hb9 hg9 hat9; clear hg9 hat9; obtain ⟨g0, g1, g2, g3, g4, g5, g6, gx⟩ := hkeep.out W9 hb9; have zx := hfrz.out W9 hb9; obtain ⟨a3, c3, e3⟩ := Kd.R_slice ho9; simp only [List.length_append, List.length_cons, List.length_nil, Nat.zero_add] at e3; subst e3; replace ho9 := Aside0.mk ho9; replace hb9 := Aside0.mk hb9
            refine hK.out _ _ ?_ (fun hHeld => ?_)
            · go_keep
            clear hK K
            try simp only [Act.put, List.getElem_toArray, List.getElem_cons_zero, List.getElem_cons_succ, List.setIfInBounds_toArray, List.set_cons_zero, List.set_cons_succ]
            refine wpAnyH_take (i := 12) (v := ?_) rfl (by kernel_rfl) (by kernel_rfl) (by kernel_rfl) (fun _ _ _ h => h) (Or.inl ⟨by rfl, ?_⟩) (by assumption) ?_
            rotate_left
            · intro w hSw
              try dsimp only at hSw
              go_simp
              try with_reducible rfl
            try simp only [Act.put, List.getElem_toArray, List.getElem_cons_zero, List.getElem_cons_succ, List.setIfInBounds_toArray, List.set_cons_zero, List.set_cons_succ]
            refine wpAnyH_take (i := 13) (v := ?_) rfl (by kernel_rfl) (by kernel_rfl) (by kernel_rfl) (fun _ _ _ h => h) (Or.inl ⟨by rfl, ?_⟩) (by assumption) ?_
            rotate_left
            · intro w hSw
              try dsimp only at hSw
              go_simp
              try with_reducible rfl
            try simp only [Act.put, List.getElem_toArray, List.getElem_cons_zero, List.getElem_cons_succ, List.setIfInBounds_toArray, List.set_cons_zero, List.set_cons_succ]
            refine wpAnyH_ready (rs := [14]) (by kernel_rfl) (by simp) ?_
            refine AllReadyH.cons rfl (fun K hK => ?_) AllReadyH.nil
            go_simp
            refine hK.out _ _ ?_ (fun hHeld => ?_)
            · exact ⟨(World.cell?_of_block (Below.heap_setCell W9 _ _ _ (Nat.ne_of_gt HXL.out))).trans g0, (World.cell?_of_block (Below.heap_setCell W9 _ _ _ (Nat.ne_of_gt HXL.out))).trans g1, (World.cell?_of_block (Below.heap_setCell W9 _ _ _ (Nat.ne_of_gt HXL.out))).trans g2, (World.cell?_of_block (Below.heap_setCell W9 _ _ _ (Nat.ne_of_gt HXL.out))).trans g3, (World.cell?_of_block (Below.heap_setCell W9 _ _ _ (Nat.ne_of_gt HXL.out))).trans g4, (World.cell?_of_block (Below.heap_setCell W9 _ _ _ (Nat.ne_of_gt HXL.out))).trans g5, (World.cell?_of_block (Below.heap_setCell W9 _ _ _ (Nat.ne_of_gt HXL.out))).trans g6⟩
            clear hK K
            try simp only [Act.put, List.getElem_toArray, List.getElem_cons_zero, List.getElem_cons_succ, List.setIfInBounds_toArray, List.set_cons_zero, List.set_cons_succ]
            refine wpAnyH_done (by kernel_rfl) ?_ _
            have hB9 : Below w.heap.size w W9 := hBd.out.trans (hb9.out.mono hBd.out.size)
            have hfin := put_fin HH.out hB9 (Kd.R_lower ho9.out hBd.out.size) (Kd.R_below hRd.out hb9.out)
            have u0 := (World.cell?_of_block (a := ⟨w.heap.size, 0, none⟩) (Below.heap_setCell W9 ⟨x, 0, none⟩ (.slice a3 (R.L.length + 1) c3) _ (Nat.ne_of_gt HXL.out))).trans g0
            have u1 := (World.cell?_of_block (a := ⟨w.heap.size, 1, none⟩) (Below.heap_setCell W9 ⟨x, 0, none⟩ (.slice a3 (R.L.length + 1) c3) _ (Nat.ne_of_gt HXL.out))).trans g1
            obtain ⟨W10, h10⟩ : ∃ W10, W9.setCell ⟨x, 0, none⟩ (.slice a3 (R.L.length + 1) c3) = W10 := ⟨_, rfl⟩
            rw [h10] at hfin u0 u1
            try rw [h10]
            clear h10 g0 g1 g2 g3 g4 g5 g6 gx
            have hgv := give_calls x t.f0 t.f1 _ _ W10 hfin.1 HLG.out
            replace hfin := Aside0.mk hfin
            go_wp2_with (go_at_call 86; refine hgv.mono ?_; rintro e w' ⟨⟨v, rfl⟩, hr, hc⟩)
            go_ret2
            exact ⟨by simp, A7, c7, put_end HH.out hfin.out.1 hfin.out.2 hr hc⟩
          · go_simp
            refine hK.out _ _ ?_ (fun hHeld => ?_)
            · go_keep
            clear hK K
            try simp only [Act.put, List.getElem_toArray, List.getElem_cons_zero, List.getElem_cons_succ, List.setIfInBounds_toArray, List.set_cons_zero, List.set_cons_succ]
            refine wpAnyH_ready (rs := [6]) (by kernel_rfl) (by simp) ?_
            refine AllReadyH.cons rfl (fun K hK => ?_) AllReadyH.nil
            refine Kd.R_append_rows_step kRP (w0 := wd) wd.heap.size (by rfl) (.tmp 37) (.tmp 41) 36 38 (.agg #[.int .i64 0, .int .i64 0, .int .i64 0, .int .i64 0, .int .i64 0, .int .i64 0, .int .i64 0, .slice none 0 0]) 80 (by rfl) Try.underlying36 Try.infoPlc rfl (by decide) (by omega) _ [] R.L _ _ _ (fun _ => True) (fun _ => False) (by rfl) (by rfl) hEc.out (Kd.C_below HCd.out hBc.out) (fun _ _ h => kRP_ofK h) (fun _ h => h.elim) (fun _ _ => trivial) hBc.out hBc.out.size (by have := HL.out; simp only [List.length_nil]; omega) ?_
            intro v2 W6 ho6 hb6 hg6 hat6; clear hat6; simp only [List.nil_append] at ho6; obtain ⟨g0, g1, g2, g3, g4, g5, g6, gx⟩ := hkeep.out W6 hb6; obtain ⟨a2, c2, e2⟩ := Kd.R_slice ho6; subst e2
            have hbx := Aside0.mk ((hg6.block _ (blk_lt hXc.out) (by simp [Value.ownBlock])).trans hXc.out)
            replace ho6 := Aside0.mk ho6; replace hb6 := Aside0.mk hb6; clear hg6
            refine hK.out _ _ ?_ (fun hHeld => ?_)
            · go_keep
            clear hK K
            try simp only [Act.put, List.getElem_toArray, List.getElem_cons_zero, List.getElem_cons_succ, List.setIfInBounds_toArray, List.set_cons_zero, List.set_cons_succ]
            refine wpAnyH_ready (rs := [11]) (by kernel_rfl) (by simp) ?_
            refine AllReadyH.cons rfl (fun K hK => ?_) AllReadyH.nil
            refine Kd.R_append_rows_step kRP (w0 := wd) wd.heap.size (by rfl) (.tmp 42) (.tmp 46) 36 38 (.agg #[.int .i64 0, .int .i64 0, .int .i64 0, .int .i64 0, .int .i64 0, .int .i64 0, .int .i64 0, .slice none 0 0]) 80 (by rfl) Try.underlying36 Try.infoPlc rfl (by decide) (by omega) (.slice a2 R.L.length c2) R.L [(⟨(i : Int), t, A7, c7⟩ : RP)] _ _ _ (fun _ => True) (fun _ => False) (by rfl) (by rfl) ho6.out (box_C (p := ⟨(i : Int), t, A7, c7⟩) hbx.out) (fun _ _ h => kRP_ofK h) (fun _ h => h.elim) (fun _ _ => trivial) hb6.out hb6.out.size (by have := HL.out; omega) ?_
            intro v3 W9 ho9 hb9 hg9 hat9; clear hg9 hat9; obtain ⟨g0, g1, g2, g3, g4, g5, g6, gx⟩ := hkeep.out W9 hb9; have zx := hfrz.out W9 hb9; obtain ⟨a3, c3, e3⟩ := Kd.R_slice ho9; simp only [List.length_append, List.length_cons, List.length_nil, Nat.zero_add] at e3; subst e3; replace ho9 := Aside0.mk ho9; replace hb9 := Aside0.mk hb9
            refine hK.out _ _ ?_ (fun hHeld => ?_)
            · go_keep
            clear hK K
            try simp only [Act.put, List.getElem_toArray, List.getElem_cons_zero, List.getElem_cons_succ, List.setIfInBounds_toArray, List.set_cons_zero, List.set_cons_succ]
            refine wpAnyH_take (i := 12) (v := ?_) rfl (by kernel_rfl) (by kernel_rfl) (by kernel_rfl) (fun _ _ _ h => h) (Or.inl ⟨by rfl, ?_⟩) (by assumption) ?_
            rotate_left
            · intro w hSw
              try dsimp only at hSw
              go_simp
              try with_reducible rfl
            try simp only [Act.put, List.getElem_toArray, List.getElem_cons_zero, List.getElem_cons_succ, List.setIfInBounds_toArray, List.set_cons_zero, List.set_cons_succ]
            refine wpAnyH_take (i := 13) (v := ?_) rfl (by kernel_rfl) (by kernel_rfl) (by kernel_rfl) (fun _ _ _ h => h) (Or.inl ⟨by rfl, ?_⟩) (by assumption) ?_
            rotate_left
            · intro w hSw
              try dsimp only at hSw
              go_simp
              try with_reducible rfl
            try simp only [Act.put, List.getElem_toArray, List.getElem_cons_zero, List.getElem_cons_succ, List.setIfInBounds_toArray, List.set_cons_zero, List.set_cons_succ]
            refine wpAnyH_ready (rs := [14]) (by kernel_rfl) (by simp) ?_
            refine AllReadyH.cons rfl (fun K hK => ?_) AllReadyH.nil
            go_simp
            refine hK.out _ _ ?_ (fun hHeld => ?_)
            · exact ⟨(World.cell?_of_block (Below.heap_setCell W9 _ _ _ (Nat.ne_of_gt HXL.out))).trans g0, (World.cell?_of_block (Below.heap_setCell W9 _ _ _ (Nat.ne_of_gt HXL.out))).trans g1, (World.cell?_of_block (Below.heap_setCell W9 _ _ _ (Nat.ne_of_gt HXL.out))).trans g2, (World.cell?_of_block (Below.heap_setCell W9 _ _ _ (Nat.ne_of_gt HXL.out))).trans g3, (World.cell?_of_block (Below.heap_setCell W9 _ _ _ (Nat.ne_of_gt HXL.out))).trans g4, (World.cell?_of_block (Below.heap_setCell W9 _ _ _ (Nat.ne_of_gt HXL.out))).trans g5, (World.cell?_of_block (Below.heap_setCell W9 _ _ _ (Nat.ne_of_gt HXL.out))).trans g6⟩
            clear hK K
            try simp only [Act.put, List.getElem_toArray, List.getElem_cons_zero, List.getElem_cons_succ, List.setIfInBounds_toArray, List.set_cons_zero, List.set_cons_succ]
            refine wpAnyH_done (by kernel_rfl) ?_ _
            have hB9 : Below w.heap.size w W9 := hBd.out.trans (hb9.out.mono hBd.out.size)
            have hfin := put_fin HH.out hB9 (Kd.R_lower ho9.out hBd.out.size) (Kd.R_below hRd.out hb9.out)
            have u0 := (World.cell?_of_block (a := ⟨w.heap.size, 0, none⟩) (Below.heap_setCell W9 ⟨x, 0, none⟩ (.slice a3 (R.L.length + 1) c3) _ (Nat.ne_of_gt HXL.out))).trans g0
            have u1 := (World.cell?_of_block (a := ⟨w.heap.size, 1, none⟩) (Below.heap_setCell W9 ⟨x, 0, none⟩ (.slice a3 (R.L.length + 1) c3) _ (Nat.ne_of_gt HXL.out))).trans g1
            obtain ⟨W10, h10⟩ : ∃ W10, W9.setCell ⟨x, 0, none⟩ (.slice a3 (R.L.length + 1) c3) = W10 := ⟨_, rfl⟩
            rw [h10] at hfin u0 u1
            try rw [h10]
            clear h10 g0 g1 g2 g3 g4 g5 g6 gx
            have hgv := give_calls x t.f0 t.f1 _ _ W10 hfin.1 HLG.out
            replace hfin := Aside0.mk hfin
            go_wp2_with (go_at_call 86; refine hgv.mono ?_; rintro e w' ⟨⟨v, rfl⟩, hr, hc⟩)
            go_ret2
            exact ⟨by simp, A7, c7, put_end HH.out hfin.out.1 hfin.out.2 hr hc⟩
        · go_simp
          refine hK.out _ _ ?_ (fun hHeld => ?_)
          · go_keep
          clear hK K
          try simp only [Act.put, List.getElem_toArray, List.getElem_cons_zero, List.getElem_cons_succ, List.setIfInBounds_toArray, List.set_cons_zero, List.set_cons_succ]
          refine wpAnyH_ready (rs := [5]) (by kernel_rfl) (by simp) ?_
          refine AllReadyH.cons rfl (fun K hK => ?_) AllReadyH.nil
          go_simp
          refine hK.out _ _ ?_ (fun hHeld => ?_)
          · go_keep
          clear hK K
          try simp only [Act.put, List.getElem_toArray, List.getElem_cons_zero, List.getElem_cons_succ, List.setIfInBounds_toArray, List.set_cons_zero, List.set_cons_succ]
          refine wpAnyH_ready (rs := [6]) (by kernel_rfl) (by simp) ?_
          refine AllReadyH.cons rfl (fun K hK => ?_) AllReadyH.nil
          refine Kd.R_append_rows_step kRP (w0 := wd) wd.heap.size (by rfl) (.tmp 37) (.tmp 41) 36 38 (.agg #[.int .i64 0, .int .i64 0, .int .i64 0, .int .i64 0, .int .i64 0, .int .i64 0, .int .i64 0, .slice none 0 0]) 80 (by rfl) Try.underlying36 Try.infoPlc rfl (by decide) (by omega) _ [] R.L _ _ _ (fun _ => True) (fun _ => False) (by rfl) (by rfl) hEc.out (Kd.C_below HCd.out hBc.out) (fun _ _ h => kRP_ofK h) (fun _ h => h.elim) (fun _ _ => trivial) hBc.out hBc.out.size (by have := HL.out; simp only [List.length_nil]; omega) ?_
          intro v2 W6 ho6 hb6 hg6 hat6; clear hat6; simp only [List.nil_append] at ho6; obtain ⟨g0, g1, g2, g3, g4, g5, g6, gx⟩ := hkeep.out W6 hb6; obtain ⟨a2, c2, e2⟩ := Kd.R_slice ho6; subst e2
          have hbx := Aside0.mk ((hg6.block _ (blk_lt hXc.out) (by simp [Value.ownBlock])).trans hXc.out)
          replace ho6 := Aside0.mk ho6; replace hb6 := Aside0.mk hb6; clear hg6
          refine hK.out _ _ ?_ (fun hHeld => ?_)
          · go_keep
          clear hK K
          try simp only [Act.put, List.getElem_toArray, List.getElem_cons_zero, List.getElem_cons_succ, List.setIfInBounds_toArray, List.set_cons_zero, List.set_cons_succ]
          refine wpAnyH_ready (rs := [11]) (by kernel_rfl) (by simp) ?_
          refine AllReadyH.cons rfl (fun K hK => ?_) AllReadyH.nil
          refine Kd.R_append_rows_step kRP (w0 := wd) wd.heap.size (by rfl) (.tmp 42) (.tmp 46) 36 38 (.agg #[.int .i64 0, .int .i64 0, .int .i64 0, .int .i64 0, .int .i64 0, .int .i64 0, .int .i64 0, .slice none 0 0]) 80 (by rfl) Try.underlying36 Try.infoPlc rfl (by decide) (by omega) (.slice a2 R.L.length c2) R.L [(⟨(i : Int), t, A7, c7⟩ : RP)] _ _ _ (fun _ => True) (fun _ => False) (by rfl) (by rfl) ho6.out (box_C (p := ⟨(i : Int), t, A7, c7⟩) hbx.out) (fun _ _ h => kRP_ofK h) (fun _ h => h.elim) (fun _ _ => trivial) hb6.out hb6.out.size (by have := HL.out; omega) ?_
          intro v3 W9 ho9 hb9 hg9 hat9; clear hg9 hat9; obtain ⟨g0, g1, g2, g3, g4, g5, g6, gx⟩ := hkeep.out W9 hb9; have zx := hfrz.out W9 hb9; obtain ⟨a3, c3, e3⟩ := Kd.R_slice ho9; simp only [List.length_append, List.length_cons, List.length_nil, Nat.zero_add] at e3; subst e3; replace ho9 := Aside0.mk ho9; replace hb9 := Aside0.mk hb9
          refine hK.out _ _ ?_ (fun hHeld => ?_)
          · go_keep
          clear hK K
          try simp only [Act.put, List.getElem_toArray, List.getElem_cons_zero, List.getElem_cons_succ, List.setIfInBounds_toArray, List.set_cons_zero, List.set_cons_succ]
          refine wpAnyH_take (i := 12) (v := ?_) rfl (by kernel_rfl) (by kernel_rfl) (by kernel_rfl) (fun _ _ _ h => h) (Or.inl ⟨by rfl, ?_⟩) (by assumption) ?_
          rotate_left
          · intro w hSw
            try dsimp only at hSw
            go_simp
            try with_reducible rfl
          try simp only [Act.put, List.getElem_toArray, List.getElem_cons_zero, List.getElem_cons_succ, List.setIfInBounds_toArray, List.set_cons_zero, List.set_cons_succ]
          refine wpAnyH_take (i := 13) (v := ?_) rfl (by kernel_rfl) (by kernel_rfl) (by kernel_rfl) (fun _ _ _ h => h) (Or.inl ⟨by rfl, ?_⟩) (by assumption) ?_
          rotate_left
          · intro w hSw
            try dsimp only at hSw
            go_simp
            try with_reducible rfl
          try simp only [Act.put, List.getElem_toArray, List.getElem_cons_zero, List.getElem_cons_succ, List.setIfInBounds_toArray, List.set_cons_zero, List.set_cons_succ]
          refine wpAnyH_ready (rs := [14]) (by kernel_rfl) (by simp) ?_
          refine AllReadyH.cons rfl (fun K hK => ?_) AllReadyH.nil
          go_simp
          refine hK.out _ _ ?_ (fun hHeld => ?_)
          · exact ⟨(World.cell?_of_block (Below.heap_setCell W9 _ _ _ (Nat.ne_of_gt HXL.out))).trans g0, (World.cell?_of_block (Below.heap_setCell W9 _ _ _ (Nat.ne_of_gt HXL.out))).trans g1, (World.cell?_of_block (Below.heap_setCell W9 _ _ _ (Nat.ne_of_gt HXL.out))).trans g2, (World.cell?_of_block (Below.heap_setCell W9 _ _ _ (Nat.ne_of_gt HXL.out))).trans g3, (World.cell?_of_block (Below.heap_setCell W9 _ _ _ (Nat.ne_of_gt HXL.out))).trans g4, (World.cell?_of_block (Below.heap_setCell W9 _ _ _ (Nat.ne_of_gt HXL.out))).trans g5, (World.cell?_of_block (Below.heap_setCell W9 _ _ _ (Nat.ne_of_gt HXL.out))).trans g6⟩
          clear hK K
          try simp only [Act.put, List.getElem_toArray, List.getElem_cons_zero, List.getElem_cons_succ, List.setIfInBounds_toArray, List.set_cons_zero, List.set_cons_succ]
          refine wpAnyH_done (by kernel_rfl) ?_ _
          have hB9 : Below w.heap.size w W9 := hBd.out.trans (hb9.out.mono hBd.out.size)
          have hfin := put_fin HH.out hB9 (Kd.R_lower ho9.out hBd.out.size) (Kd.R_below hRd.out hb9.out)
          have u0 := (World.cell?_of_block (a := ⟨w.heap.size, 0, none⟩) (Below.heap_setCell W9 ⟨x, 0, none⟩ (.slice a3 (R.L.length + 1) c3) _ (Nat.ne_of_gt HXL.out))).trans g0
          have u1 := (World.cell?_of_block (a := ⟨w.heap.size, 1, none⟩) (Below.heap_setCell W9 ⟨x, 0, none⟩ (.slice a3 (R.L.length + 1) c3) _ (Nat.ne_of_gt HXL.out))).trans g1
          obtain ⟨W10, h10⟩ : ∃ W10, W9.setCell ⟨x, 0, none⟩ (.slice a3 (R.L.length + 1) c3) = W10 := ⟨_, rfl⟩
          rw [h10] at hfin u0 u1
          try rw [h10]
          clear h10 g0 g1 g2 g3 g4 g5 g6 gx
          have hgv := give_calls x t.f0 t.f1 _ _ W10 hfin.1 HLG.out
          replace hfin := Aside0.mk hfin
          go_wp2_with (go_at_call 86; refine hgv.mono ?_; rintro e w' ⟨⟨v, rfl⟩, hr, hc⟩)
          go_ret2
          exact ⟨by simp, A7, c7, put_end HH.out hfin.out.1 hfin.out.2 hr hc⟩
      · go_simp
        refine hK.out _ _ ?_ (fun hHeld => ?_)
        · go_keep
        clear hK K
        try simp only [Act.put, List.getElem_toArray, List.getElem_cons_zero, List.getElem_cons_succ, List.setIfInBounds_toArray, List.set_cons_zero, List.set_cons_succ]
        refine wpAnyH_ready (rs := [1, 10]) (by kernel_rfl) (by simp) ?_
        refine AllReadyH.cons rfl (fun K hK => ?_) (AllReadyH.cons rfl (fun K hK => ?_) AllReadyH.nil)
        · go_simp
          refine hK.out _ _ ?_ (fun hHeld => ?_)
          · go_keep
          clear hK K
          try simp only [Act.put, List.getElem_toArray, List.getElem_cons_zero, List.getElem_cons_succ, List.setIfInBounds_toArray, List.set_cons_zero, List.set_cons_succ]
          refine wpAnyH_ready (rs := [6, 10]) (by kernel_rfl) (by simp) ?_
          refine AllReadyH.cons rfl (fun K hK => ?_) (AllReadyH.cons rfl (fun K hK => ?_) AllReadyH.nil)
          · refine Kd.R_append_rows_step kRP (w0 := wd) wd.heap.size (by rfl) (.tmp 37) (.tmp 41) 36 38 (.agg #[.int .i64 0, .int .i64 0, .int .i64 0, .int .i64 0, .int .i64 0, .int .i64 0, .int .i64 0, .slice none 0 0]) 80 (by rfl) Try.underlying36 Try.infoPlc rfl (by decide) (by omega) _ [] R.L _ _ _ (fun _ => True) (fun _ => False) (by rfl) (by rfl) hEa.out (Kd.C_below HCd.out hBa.out) (fun _ _ h => kRP_ofK h) (fun _ h => h.elim) (fun _ _ => trivial) hBa.out hBa.out.size (by have := HL.out; simp only [List.length_nil]; omega) ?_
            intro v2 W6 ho6 hb6 hg6 hat6; clear hat6; simp only [List.nil_append] at ho6; obtain ⟨g0, g1, g2, g3, g4, g5, g6, gx⟩ := hkeep.out W6 hb6; obtain ⟨a2, c2, e2⟩ := Kd.R_slice ho6; subst e2
            replace ho6 := Aside0.mk ho6; replace hb6 := Aside0.mk hb6; clear hg6
            refine hK.out _ _ ?_ (fun hHeld => ?_)
            · go_keep
            clear hK K
            try simp only [Act.put, List.getElem_toArray, List.getElem_cons_zero, List.getElem_cons_succ, List.setIfInBounds_toArray, List.set_cons_zero, List.set_cons_succ]
            refine wpAnyH_ready (rs := [10]) (by kernel_rfl) (by simp) ?_
            refine AllReadyH.cons rfl (fun K hK => ?_) AllReadyH.nil
            go_simp
            refine hK.out _ _ ?_ (fun hHeld => ?_)
            · go_keep
            clear hK K
            try simp only [Act.put, List.getElem_toArray, List.getElem_cons_zero, List.getElem_cons_succ, List.setIfInBounds_toArray, List.set_cons_zero, List.set_cons_succ]
            refine wpAnyH_ready (rs := [11]) (by kernel_rfl) (by simp) ?_
            refine AllReadyH.cons rfl (fun K hK => ?_) AllReadyH.nil
            refine Kd.R_append_rows_step kRP (w0 := wd) wd.heap.size (by rfl) (.tmp 42) (.tmp 46) 36 38 (.agg #[.int .i64 0, .int .i64 0, .int .i64 0, .int .i64 0, .int .i64 0, .int .i64 0, .int .i64 0, .slice none 0 0]) 80 (by rfl) Try.underlying36 Try.infoPlc rfl (by decide) (by omega) (.slice a2 R.L.length c2) R.L [(⟨(i : Int), t, A7, c7⟩ : RP)] _ _ _ (fun _ => True) (fun _ => False) (by rfl) (by rfl) (Kd.R_below ho6.out ((Below.refl _ W6).alloc (Nat.le_refl _) (.cells #[.int .i64 i, .int .i64 t.f0, .int .i64 t.f1, .int .i64 t.f2, .int .i64 t.f3, .int .i64 t.f4, .int .i64 t.f5, .slice A7 t.f6.length c7] 38))) (box_C (p := ⟨(i : Int), t, A7, c7⟩) (heap_alloc_new W6 (.cells #[.int .i64 i, .int .i64 t.f0, .int .i64 t.f1, .int .i64 t.f2, .int .i64 t.f3, .int .i64 t.f4, .int .i64 t.f5, .slice A7 t.f6.length c7] 38))) (fun _ _ h => kRP_ofK h) (fun _ h => h.elim) (fun _ _ => trivial) (hb6.out.alloc hb6.out.size (.cells #[.int .i64 i, .int .i64 t.f0, .int .i64 t.f1, .int .i64 t.f2, .int .i64 t.f3, .int .i64 t.f4, .int .i64 t.f5, .slice A7 t.f6.length c7] 38)) (by have := hb6.out.size; simp; omega) (by have := HL.out; omega) ?_
            intro v3 W9 ho9 hb9 hg9 hat9; clear hg9 hat9; obtain ⟨g0, g1, g2, g3, g4, g5, g6, gx⟩ := hkeep.out W9 hb9; have zx := hfrz.out W9 hb9; obtain ⟨a3, c3, e3⟩ := Kd.R_slice ho9; simp only [List.length_append, List.length_cons, List.length_nil, Nat.zero_add] at e3; subst e3; replace ho9 := Aside0.mk ho9; replace hb9 := Aside0.mk hb9
            refine hK.out _ _ ?_ (fun hHeld => ?_)
            · go_keep
            clear hK K
            try simp only [Act.put, List.getElem_toArray, List.getElem_cons_zero, List.getElem_cons_succ, List.setIfInBounds_toArray, List.set_cons_zero, List.set_cons_succ]
            refine wpAnyH_take (i := 12) (v := ?_) rfl (by kernel_rfl) (by kernel_rfl) (by kernel_rfl) (fun _ _ _ h => h) (Or.inl ⟨by rfl, ?_⟩) (by assumption) ?_
            rotate_left
            · intro w hSw
              try dsimp only at hSw
              go_simp
              try with_reducible rfl
            try simp only [Act.put, List.getElem_toArray, List.getElem_cons_zero, List.getElem_cons_succ, List.setIfInBounds_toArray, List.set_cons_zero, List.set_cons_succ]
            refine wpAnyH_take (i := 13) (v := ?_) rfl (by kernel_rfl) (by kernel_rfl) (by kernel_rfl) (fun _ _ _ h => h) (Or.inl ⟨by rfl, ?_⟩) (by assumption) ?_
            rotate_left
            · intro w hSw
              try dsimp only at hSw
              go_simp
              try with_reducible rfl
            try simp only [Act.put, List.getElem_toArray, List.getElem_cons_zero, List.getElem_cons_succ, List.setIfInBounds_toArray, List.set_cons_zero, List.set_cons_succ]
            refine wpAnyH_ready (rs := [14]) (by kernel_rfl) (by simp) ?_
            refine AllReadyH.cons rfl (fun K hK => ?_) AllReadyH.nil
            go_simp
            refine hK.out _ _ ?_ (fun hHeld => ?_)
            · exact ⟨(World.cell?_of_block (Below.heap_setCell W9 _ _ _ (Nat.ne_of_gt HXL.out))).trans g0, (World.cell?_of_block (Below.heap_setCell W9 _ _ _ (Nat.ne_of_gt HXL.out))).trans g1, (World.cell?_of_block (Below.heap_setCell W9 _ _ _ (Nat.ne_of_gt HXL.out))).trans g2, (World.cell?_of_block (Below.heap_setCell W9 _ _ _ (Nat.ne_of_gt HXL.out))).trans g3, (World.cell?_of_block (Below.heap_setCell W9 _ _ _ (Nat.ne_of_gt HXL.out))).trans g4, (World.cell?_of_block (Below.heap_setCell W9 _ _ _ (Nat.ne_of_gt HXL.out))).trans g5, (World.cell?_of_block (Below.heap_setCell W9 _ _ _ (Nat.ne_of_gt HXL.out))).trans g6⟩
            clear hK K
            try simp only [Act.put, List.getElem_toArray, List.getElem_cons_zero, List.getElem_cons_succ, List.setIfInBounds_toArray, List.set_cons_zero, List.set_cons_succ]
            refine wpAnyH_done (by kernel_rfl) ?_ _
            have hB9 : Below w.heap.size w W9 := hBd.out.trans (hb9.out.mono hBd.out.size)
            have hfin := put_fin HH.out hB9 (Kd.R_lower ho9.out hBd.out.size) (Kd.R_below hRd.out hb9.out)
            have u0 := (World.cell?_of_block (a := ⟨w.heap.size, 0, none⟩) (Below.heap_setCell W9 ⟨x, 0, none⟩ (.slice a3 (R.L.length + 1) c3) _ (Nat.ne_of_gt HXL.out))).trans g0
            have u1 := (World.cell?_of_block (a := ⟨w.heap.size, 1, none⟩) (Below.heap_setCell W9 ⟨x, 0, none⟩ (.slice a3 (R.L.length + 1) c3) _ (Nat.ne_of_gt HXL.out))).trans g1
            obtain ⟨W10, h10⟩ : ∃ W10, W9.setCell ⟨x, 0, none⟩ (.slice a3 (R.L.length + 1) c3) = W10 := ⟨_, rfl⟩
            rw [h10] at hfin u0 u1
            try rw [h10]
            clear h10 g0 g1 g2 g3 g4 g5 g6 gx
            have hgv := give_calls x t.f0 t.f1 _ _ W10 hfin.1 HLG.out
            replace hfin := Aside0.mk hfin
            go_wp2_with (go_at_call 86; refine hgv.mono ?_; rintro e w' ⟨⟨v, rfl⟩, hr, hc⟩)
            go_ret2
            exact ⟨by simp, A7, c7, put_end HH.out hfin.out.1 hfin.out.2 hr hc⟩
          · go_simp
            refine hK.out _ _ ?_ (fun hHeld => ?_)
            · go_keep
            clear hK K
            try simp only [Act.put, List.getElem_toArray, List.getElem_cons_zero, List.getElem_cons_succ, List.setIfInBounds_toArray, List.set_cons_zero, List.set_cons_succ]
            refine wpAnyH_ready (rs := [6]) (by kernel_rfl) (by simp) ?_
            refine AllReadyH.cons rfl (fun K hK => ?_) AllReadyH.nil
            refine Kd.R_append_rows_step kRP (w0 := wd) wd.heap.size (by rfl) (.tmp 37) (.tmp 41) 36 38 (.agg #[.int .i64 0, .int .i64 0, .int .i64 0, .int .i64 0, .int .i64 0, .int .i64 0, .int .i64 0, .slice none 0 0]) 80 (by rfl) Try.underlying36 Try.infoPlc rfl (by decide) (by omega) _ [] R.L _ _ _ (fun _ => True) (fun _ => False) (by rfl) (by rfl) hEc.out (Kd.C_below HCd.out hBc.out) (fun _ _ h => kRP_ofK h) (fun _ h => h.elim) (fun _ _ => trivial) hBc.out hBc.out.size (by have := HL.out; simp only [List.length_nil]; omega) ?_
            intro v2 W6 ho6 hb6 hg6 hat6; clear hat6; simp only [List.nil_append] at ho6; obtain ⟨g0, g1, g2, g3, g4, g5, g6, gx⟩ := hkeep.out W6 hb6; obtain ⟨a2, c2, e2⟩ := Kd.R_slice ho6; subst e2
            have hbx := Aside0.mk ((hg6.block _ (blk_lt hXc.out) (by simp [Value.ownBlock])).trans hXc.out)
            replace ho6 := Aside0.mk ho6; replace hb6 := Aside0.mk hb6; clear hg6
            refine hK.out _ _ ?_ (fun hHeld => ?_)
            · go_keep
            clear hK K
            try simp only [Act.put, List.getElem_toArray, List.getElem_cons_zero, List.getElem_cons_succ, List.setIfInBounds_toArray, List.set_cons_zero, List.set_cons_succ]
            refine wpAnyH_ready (rs := [11]) (by kernel_rfl) (by simp) ?_
            refine AllReadyH.cons rfl (fun K hK => ?_) AllReadyH.nil
            refine Kd.R_append_rows_step kRP (w0 := wd) wd.heap.size (by rfl) (.tmp 42) (.tmp 46) 36 38 (.agg #[.int .i64 0, .int .i64 0, .int .i64 0, .int .i64 0, .int .i64 0, .int .i64 0, .int .i64 0, .slice none 0 0]) 80 (by rfl) Try.underlying36 Try.infoPlc rfl (by decide) (by omega) (.slice a2 R.L.length c2) R.L [(⟨(i : Int), t, A7, c7⟩ : RP)] _ _ _ (fun _ => True) (fun _ => False) (by rfl) (by rfl) ho6.out (box_C (p := ⟨(i : Int), t, A7, c7⟩) hbx.out) (fun _ _ h => kRP_ofK h) (fun _ h => h.elim) (fun _ _ => trivial) hb6.out hb6.out.size (by have := HL.out; omega) ?_
            intro v3 W9 ho9 hb9 hg9 hat9; clear hg9 hat9; obtain ⟨g0, g1, g2, g3, g4, g5, g6, gx⟩ := hkeep.out W9 hb9; have zx := hfrz.out W9 hb9; obtain ⟨a3, c3, e3⟩ := Kd.R_slice ho9; simp only [List.length_append, List.length_cons, List.length_nil, Nat.zero_add] at e3; subst e3; replace ho9 := Aside0.mk ho9; replace hb9 := Aside0.mk hb9
            refine hK.out _ _ ?_ (fun hHeld => ?_)
            · go_keep
            clear hK K
            try simp only [Act.put, List.getElem_toArray, List.getElem_cons_zero, List.getElem_cons_succ, List.setIfInBounds_toArray, List.set_cons_zero, List.set_cons_succ]
            refine wpAnyH_take (i := 12) (v := ?_) rfl (by kernel_rfl) (by kernel_rfl) (by kernel_rfl) (fun _ _ _ h => h) (Or.inl ⟨by rfl, ?_⟩) (by assumption) ?_
            rotate_left
            · intro w hSw
              try dsimp only at hSw
              go_simp
              try with_reducible rfl
            try simp only [Act.put, List.getElem_toArray, List.getElem_cons_zero, List.getElem_cons_succ, List.setIfInBounds_toArray, List.set_cons_zero, List.set_cons_succ]
            refine wpAnyH_take (i := 13) (v := ?_) rfl (by kernel_rfl) (by kernel_rfl) (by kernel_rfl) (fun _ _ _ h => h) (Or.inl ⟨by rfl, ?_⟩) (by assumption) ?_
            rotate_left
            · intro w hSw
              try dsimp only at hSw
              go_simp
              try with_reducible rfl
            try simp only [Act.put, List.getElem_toArray, List.getElem_cons_zero, List.getElem_cons_succ, List.setIfInBounds_toArray, List.set_cons_zero, List.set_cons_succ]
            refine wpAnyH_ready (rs := [14]) (by kernel_rfl) (by simp) ?_
            refine AllReadyH.cons rfl (fun K hK => ?_) AllReadyH.nil
            go_simp
            refine hK.out _ _ ?_ (fun hHeld => ?_)
            · exact ⟨(World.cell?_of_block (Below.heap_setCell W9 _ _ _ (Nat.ne_of_gt HXL.out))).trans g0, (World.cell?_of_block (Below.heap_setCell W9 _ _ _ (Nat.ne_of_gt HXL.out))).trans g1, (World.cell?_of_block (Below.heap_setCell W9 _ _ _ (Nat.ne_of_gt HXL.out))).trans g2, (World.cell?_of_block (Below.heap_setCell W9 _ _ _ (Nat.ne_of_gt HXL.out))).trans g3, (World.cell?_of_block (Below.heap_setCell W9 _ _ _ (Nat.ne_of_gt HXL.out))).trans g4, (World.cell?_of_block (Below.heap_setCell W9 _ _ _ (Nat.ne_of_gt HXL.out))).trans g5, (World.cell?_of_block (Below.heap_setCell W9 _ _ _ (Nat.ne_of_gt HXL.out))).trans g6⟩
            clear hK K
            try simp only [Act.put, List.getElem_toArray, List.getElem_cons_zero, List.getElem_cons_succ, List.setIfInBounds_toArray, List.set_cons_zero, List.set_cons_succ]
            refine wpAnyH_done (by kernel_rfl) ?_ _
            have hB9 : Below w.heap.size w W9 := hBd.out.trans (hb9.out.mono hBd.out.size)
            have hfin := put_fin HH.out hB9 (Kd.R_lower ho9.out hBd.out.size) (Kd.R_below hRd.out hb9.out)
            have u0 := (World.cell?_of_block (a := ⟨w.heap.size, 0, none⟩) (Below.heap_setCell W9 ⟨x, 0, none⟩ (.slice a3 (R.L.length + 1) c3) _ (Nat.ne_of_gt HXL.out))).trans g0
            have u1 := (World.cell?_of_block (a := ⟨w.heap.size, 1, none⟩) (Below.heap_setCell W9 ⟨x, 0, none⟩ (.slice a3 (R.L.length + 1) c3) _ (Nat.ne_of_gt HXL.out))).trans g1
            obtain ⟨W10, h10⟩ : ∃ W10, W9.setCell ⟨x, 0, none⟩ (.slice a3 (R.L.length + 1) c3) = W10 := ⟨_, rfl⟩
            rw [h10] at hfin u0 u1
            try rw [h10]
            clear h10 g0 g1 g2 g3 g4 g5 g6 gx
            have hgv := give_calls x t.f0 t.f1 _ _ W10 hfin.1 HLG.out
            replace hfin := Aside0.mk hfin
            go_wp2_with (go_at_call 86; refine hgv.mono ?_; rintro e w' ⟨⟨v, rfl⟩, hr, hc⟩)
            go_ret2
            exact ⟨by simp, A7, c7, put_end HH.out hfin.out.1 hfin.out.2 hr hc⟩
        · go_simp
          refine hK.out _ _ ?_ (fun hHeld => ?_)
          · go_keep
          clear hK K
          try simp only [Act.put, List.getElem_toArray, List.getElem_cons_zero, List.getElem_cons_succ, List.setIfInBounds_toArray, List.set_cons_zero, List.set_cons_succ]
          refine wpAnyH_ready (rs := [1]) (by kernel_rfl) (by simp) ?_
          refine AllReadyH.cons rfl (fun K hK => ?_) AllReadyH.nil
          go_simp
          refine hK.out _ _ ?_ (fun hHeld => ?_)
          · go_keep
          clear hK K
          try simp only [Act.put, List.getElem_toArray, List.getElem_cons_zero, List.getElem_cons_succ, List.setIfInBounds_toArray, List.set_cons_zero, List.set_cons_succ]
          refine wpAnyH_ready (rs := [6]) (by kernel_rfl) (by simp) ?_
          refine AllReadyH.cons rfl (fun K hK => ?_) AllReadyH.nil
          refine Kd.R_append_rows_step kRP (w0 := wd) wd.heap.size (by rfl) (.tmp 37) (.tmp 41) 36 38 (.agg #[.int .i64 0, .int .i64 0, .int .i64 0, .int .i64 0, .int .i64 0, .int .i64 0, .int .i64 0, .slice none 0 0]) 80 (by rfl) Try.underlying36 Try.infoPlc rfl (by decide) (by omega) _ [] R.L _ _ _ (fun _ => True) (fun _ => False) (by rfl) (by rfl) hEb.out (Kd.C_below HCd.out hBb.out) (fun _ _ h => kRP_ofK h) (fun _ h => h.elim) (fun _ _ => trivial) hBb.out hBb.out.size (by have := HL.out; simp only [List.length_nil]; omega) ?_
          intro v2 W6 ho6 hb6 hg6 hat6; clear hat6; simp only [List.nil_append] at ho6; obtain ⟨g0, g1, g2, g3, g4, g5, g6, gx⟩ := hkeep.out W6 hb6; obtain ⟨a2, c2, e2⟩ := Kd.R_slice ho6; subst e2
          have hbx := Aside0.mk ((hg6.block _ (blk_lt hXb.out) (by simp [Value.ownBlock])).trans hXb.out)
          replace ho6 := Aside0.mk ho6; replace hb6 := Aside0.mk hb6; clear hg6
          refine hK.out _ _ ?_ (fun hHeld => ?_)
          · go_keep
          clear hK K
          try simp only [Act.put, List.getElem_toArray, List.getElem_cons_zero, List.getElem_cons_succ, List.setIfInBounds_toArray, List.set_cons_zero, List.set_cons_succ]
          refine wpAnyH_ready (rs := [11]) (by kernel_rfl) (by simp) ?_
          refine AllReadyH.cons rfl (fun K hK => ?_) AllReadyH.nil
          refine Kd.R_append_rows_step kRP (w0 := wd) wd.heap.size (by rfl) (.tmp 42) (.tmp 46) 36 38 (.agg #[.int .i64 0, .int .i64 0, .int .i64 0, .int .i64 0, .int .i64 0, .int .i64 0, .int .i64 0, .slice none 0 0]) 80 (by rfl) Try.underlying36 Try.infoPlc rfl (by decide) (by omega) (.slice a2 R.L.length c2) R.L [(⟨(i : Int), t, A7, c7⟩ : RP)] _ _ _ (fun _ => True) (fun _ => False) (by rfl) (by rfl) ho6.out (box_C (p := ⟨(i : Int), t, A7, c7⟩) hbx.out) (fun _ _ h => kRP_ofK h) (fun _ h => h.elim) (fun _ _ => trivial) hb6.out hb6.out.size (by have := HL.out; omega) ?_
          intro v3 W9 ho9 hb9 hg9 hat9; clear hg9 hat9; obtain ⟨g0, g1, g2, g3, g4, g5, g6, gx⟩ := hkeep.out W9 hb9; have zx := hfrz.out W9 hb9; obtain ⟨a3, c3, e3⟩ := Kd.R_slice ho9; simp only [List.length_append, List.length_cons, List.length_nil, Nat.zero_add] at e3; subst e3; replace ho9 := Aside0.mk ho9; replace hb9 := Aside0.mk hb9
          refine hK.out _ _ ?_ (fun hHeld => ?_)
          · go_keep
          clear hK K
          try simp only [Act.put, List.getElem_toArray, List.getElem_cons_zero, List.getElem_cons_succ, List.setIfInBounds_toArray, List.set_cons_zero, List.set_cons_succ]
          refine wpAnyH_take (i := 12) (v := ?_) rfl (by kernel_rfl) (by kernel_rfl) (by kernel_rfl) (fun _ _ _ h => h) (Or.inl ⟨by rfl, ?_⟩) (by assumption) ?_
          rotate_left
          · intro w hSw
            try dsimp only at hSw
            go_simp
            try with_reducible rfl
          try simp only [Act.put, List.getElem_toArray, List.getElem_cons_zero, List.getElem_cons_succ, List.setIfInBounds_toArray, List.set_cons_zero, List.set_cons_succ]
          refine wpAnyH_take (i := 13) (v := ?_) rfl (by kernel_rfl) (by kernel_rfl) (by kernel_rfl) (fun _ _ _ h => h) (Or.inl ⟨by rfl, ?_⟩) (by assumption) ?_
          rotate_left
          · intro w hSw
            try dsimp only at hSw
            go_simp
            try with_reducible rfl
          try simp only [Act.put, List.getElem_toArray, List.getElem_cons_zero, List.getElem_cons_succ, List.setIfInBounds_toArray, List.set_cons_zero, List.set_cons_succ]
          refine wpAnyH_ready (rs := [14]) (by kernel_rfl) (by simp) ?_
          refine AllReadyH.cons rfl (fun K hK => ?_) AllReadyH.nil
          go_simp
          refine hK.out _ _ ?_ (fun hHeld => ?_)
          · exact ⟨(World.cell?_of_block (Below.heap_setCell W9 _ _ _ (Nat.ne_of_gt HXL.out))).trans g0, (World.cell?_of_block (Below.heap_setCell W9 _ _ _ (Nat.ne_of_gt HXL.out))).trans g1, (World.cell?_of_block (Below.heap_setCell W9 _ _ _ (Nat.ne_of_gt HXL.out))).trans g2, (World.cell?_of_block (Below.heap_setCell W9 _ _ _ (Nat.ne_of_gt HXL.out))).trans g3, (World.cell?_of_block (Below.heap_setCell W9 _ _ _ (Nat.ne_of_gt HXL.out))).trans g4, (World.cell?_of_block (Below.heap_setCell W9 _ _ _ (Nat.ne_of_gt HXL.out))).trans g5, (World.cell?_of_block (Below.heap_setCell W9 _ _ _ (Nat.ne_of_gt HXL.out))).trans g6⟩
          clear hK K
          try simp only [Act.put, List.getElem_toArray, List.getElem_cons_zero, List.getElem_cons_succ, List.setIfInBounds_toArray, List.set_cons_zero, List.set_cons_succ]
          refine wpAnyH_done (by kernel_rfl) ?_ _
          have hB9 : Below w.heap.size w W9 := hBd.out.trans (hb9.out.mono hBd.out.size)
          have hfin := put_fin HH.out hB9 (Kd.R_lower ho9.out hBd.out.size) (Kd.R_below hRd.out hb9.out)
          have u0 := (World.cell?_of_block (a := ⟨w.heap.size, 0, none⟩) (Below.heap_setCell W9 ⟨x, 0, none⟩ (.slice a3 (R.L.length + 1) c3) _ (Nat.ne_of_gt HXL.out))).trans g0
          have u1 := (World.cell?_of_block (a := ⟨w.heap.size, 1, none⟩) (Below.heap_setCell W9 ⟨x, 0, none⟩ (.slice a3 (R.L.length + 1) c3) _ (Nat.ne_of_gt HXL.out))).trans g1
          obtain ⟨W10, h10⟩ : ∃ W10, W9.setCell ⟨x, 0, none⟩ (.slice a3 (R.L.length + 1) c3) = W10 := ⟨_, rfl⟩
          rw [h10] at hfin u0 u1
          try rw [h10]
          clear h10 g0 g1 g2 g3 g4 g5 g6 gx
          have hgv := give_calls x t.f0 t.f1 _ _ W10 hfin.1 HLG.out
          replace hfin := Aside0.mk hfin
          go_wp2_with (go_at_call 86; refine hgv.mono ?_; rintro e w' ⟨⟨v, rfl⟩, hr, hc⟩)
          go_ret2
          exact ⟨by simp, A7, c7, put_end HH.out hfin.out.1 hfin.out.2 hr hc⟩
      · go_simp
        refine hK.out _ _ ?_ (fun hHeld => ?_)
        · go_keep
        clear hK K
        try simp only [Act.put, List.getElem_toArray, List.getElem_cons_zero, List.getElem_cons_succ, List.setIfInBounds_toArray, List.set_cons_zero, List.set_cons_succ]
        refine wpAnyH_ready (rs := [1, 5]) (by kernel_rfl) (by simp) ?_
        refine AllReadyH.cons rfl (fun K hK => ?_) (AllReadyH.cons rfl (fun K hK => ?_) AllReadyH.nil)
        · go_simp
          refine hK.out _ _ ?_ (fun hHeld => ?_)
          · go_keep
          clear hK K
          try simp only [Act.put, List.getElem_toArray, List.getElem_cons_zero, List.getElem_cons_succ, List.setIfInBounds_toArray, List.set_cons_zero, List.set_cons_succ]
          refine wpAnyH_ready (rs := [5]) (by kernel_rfl) (by simp) ?_
          refine AllReadyH.cons rfl (fun K hK => ?_) AllReadyH.nil
          go_simp
          refine hK.out _ _ ?_ (fun hHeld => ?_)
          · go_keep
          clear hK K
          try simp only [Act.put, List.getElem_toArray, List.getElem_cons_zero, List.getElem_cons_succ, List.setIfInBounds_toArray, List.set_cons_zero, List.set_cons_succ]
          refine wpAnyH_ready (rs := [6]) (by kernel_rfl) (by simp) ?_
          refine AllReadyH.cons rfl (fun K hK => ?_) AllReadyH.nil
          refine Kd.R_append_rows_step kRP (w0 := wd) wd.heap.size (by rfl) (.tmp 37) (.tmp 41) 36 38 (.agg #[.int .i64 0, .int .i64 0, .int .i64 0, .int .i64 0, .int .i64 0, .int .i64 0, .int .i64 0, .slice none 0 0]) 80 (by rfl) Try.underlying36 Try.infoPlc rfl (by decide) (by omega) _ [] R.L _ _ _ (fun _ => True) (fun _ => False) (by rfl) (by rfl) hEb.out (Kd.C_below HCd.out hBb.out) (fun _ _ h => kRP_ofK h) (fun _ h => h.elim) (fun _ _ => trivial) hBb.out hBb.out.size (by have := HL.out; simp only [List.length_nil]; omega) ?_
          intro v2 W6 ho6 hb6 hg6 hat6; clear hat6; simp only [List.nil_append] at ho6; obtain ⟨g0, g1, g2, g3, g4, g5, g6, gx⟩ := hkeep.out W6 hb6; obtain ⟨a2, c2, e2⟩ := Kd.R_slice ho6; subst e2
          have hbx := Aside0.mk ((hg6.block _ (blk_lt hXb.out) (by simp [Value.ownBlock])).trans hXb.out)
          replace ho6 := Aside0.mk ho6; replace hb6 := Aside0.mk hb6; clear hg6
          refine hK.out _ _ ?_ (fun hHeld => ?_)
          · go_keep
          clear hK K
          try simp only [Act.put, List.getElem_toArray, List.getElem_cons_zero, List.getElem_cons_succ, List.setIfInBounds_toArray, List.set_cons_zero, List.set_cons_succ]
          refine wpAnyH_ready (rs := [11]) (by kernel_rfl) (by simp) ?_
          refine AllReadyH.cons rfl (fun K hK => ?_) AllReadyH.nil
          refine Kd.R_append_rows_step kRP (w0 := wd) wd.heap.size (by rfl) (.tmp 42) (.tmp 46) 36 38 (.agg #[.int .i64 0, .int .i64 0, .int .i64 0, .int .i64 0, .int .i64 0, .int .i64 0, .int .i64 0, .slice none 0 0]) 80 (by rfl) Try.underlying36 Try.infoPlc rfl (by decide) (by omega) (.slice a2 R.L.length c2) R.L [(⟨(i : Int), t, A7, c7⟩ : RP)] _ _ _ (fun _ => True) (fun _ => False) (by rfl) (by rfl) ho6.out (box_C (p := ⟨(i : Int), t, A7, c7⟩) hbx.out) (fun _ _ h => kRP_ofK h) (fun _ h => h.elim) (fun _ _ => trivial) hb6.out hb6.out.size (by have := HL.out; omega) ?_
          intro v3 W9 ho9 hb9 hg9 hat9; clear hg9 hat9; obtain ⟨g0, g1, g2, g3, g4, g5, g6, gx⟩ := hkeep.out W9 hb9; have zx := hfrz.out W9 hb9; obtain ⟨a3, c3, e3⟩ := Kd.R_slice ho9; simp only [List.length_append, List.length_cons, List.length_nil, Nat.zero_add] at e3; subst e3; replace ho9 := Aside0.mk ho9; replace hb9 := Aside0.mk hb9
          refine hK.out _ _ ?_ (fun hHeld => ?_)
          · go_keep
          clear hK K
          try simp only [Act.put, List.getElem_toArray, List.getElem_cons_zero, List.getElem_cons_succ, List.setIfInBounds_toArray, List.set_cons_zero, List.set_cons_succ]
          refine wpAnyH_take (i := 12) (v := ?_) rfl (by kernel_rfl) (by kernel_rfl) (by kernel_rfl) (fun _ _ _ h => h) (Or.inl ⟨by rfl, ?_⟩) (by assumption) ?_
          rotate_left
          · intro w hSw
            try dsimp only at hSw
            go_simp
            try with_reducible rfl
          try simp only [Act.put, List.getElem_toArray, List.getElem_cons_zero, List.getElem_cons_succ, List.setIfInBounds_toArray, List.set_cons_zero, List.set_cons_succ]
          refine wpAnyH_take (i := 13) (v := ?_) rfl (by kernel_rfl) (by kernel_rfl) (by kernel_rfl) (fun _ _ _ h => h) (Or.inl ⟨by rfl, ?_⟩) (by assumption) ?_
          rotate_left
          · intro w hSw
            try dsimp only at hSw
            go_simp
            try with_reducible rfl
          try simp only [Act.put, List.getElem_toArray, List.getElem_cons_zero, List.getElem_cons_succ, List.setIfInBounds_toArray, List.set_cons_zero, List.set_cons_succ]
          refine wpAnyH_ready (rs := [14]) (by kernel_rfl) (by simp) ?_
          refine AllReadyH.cons rfl (fun K hK => ?_) AllReadyH.nil
          go_simp
          refine hK.out _ _ ?_ (fun hHeld => ?_)
          · exact ⟨(World.cell?_of_block (Below.heap_setCell W9 _ _ _ (Nat.ne_of_gt HXL.out))).trans g0, (World.cell?_of_block (Below.heap_setCell W9 _ _ _ (Nat.ne_of_gt HXL.out))).trans g1, (World.cell?_of_block (Below.heap_setCell W9 _ _ _ (Nat.ne_of_gt HXL.out))).trans g2, (World.cell?_of_block (Below.heap_setCell W9 _ _ _ (Nat.ne_of_gt HXL.out))).trans g3, (World.cell?_of_block (Below.heap_setCell W9 _ _ _ (Nat.ne_of_gt HXL.out))).trans g4, (World.cell?_of_block (Below.heap_setCell W9 _ _ _ (Nat.ne_of_gt HXL.out))).trans g5, (World.cell?_of_block (Below.heap_setCell W9 _ _ _ (Nat.ne_of_gt HXL.out))).trans g6⟩
          clear hK K
          try simp only [Act.put, List.getElem_toArray, List.getElem_cons_zero, List.getElem_cons_succ, List.setIfInBounds_toArray, List.set_cons_zero, List.set_cons_succ]
          refine wpAnyH_done (by kernel_rfl) ?_ _
          have hB9 : Below w.heap.size w W9 := hBd.out.trans (hb9.out.mono hBd.out.size)
          have hfin := put_fin HH.out hB9 (Kd.R_lower ho9.out hBd.out.size) (Kd.R_below hRd.out hb9.out)
          have u0 := (World.cell?_of_block (a := ⟨w.heap.size, 0, none⟩) (Below.heap_setCell W9 ⟨x, 0, none⟩ (.slice a3 (R.L.length + 1) c3) _ (Nat.ne_of_gt HXL.out))).trans g0
          have u1 := (World.cell?_of_block (a := ⟨w.heap.size, 1, none⟩) (Below.heap_setCell W9 ⟨x, 0, none⟩ (.slice a3 (R.L.length + 1) c3) _ (Nat.ne_of_gt HXL.out))).trans g1
          obtain ⟨W10, h10⟩ : ∃ W10, W9.setCell ⟨x, 0, none⟩ (.slice a3 (R.L.length + 1) c3) = W10 := ⟨_, rfl⟩
          rw [h10] at hfin u0 u1
          try rw [h10]
          clear h10 g0 g1 g2 g3 g4 g5 g6 gx
          have hgv := give_calls x t.f0 t.f1 _ _ W10 hfin.1 HLG.out
          replace hfin := Aside0.mk hfin
          go_wp2_with (go_at_call 86; refine hgv.mono ?_; rintro e w' ⟨⟨v, rfl⟩, hr, hc⟩)
          go_ret2
          exact ⟨by simp, A7, c7, put_end HH.out hfin.out.1 hfin.out.2 hr hc⟩
        · go_simp
          refine hK.out _ _ ?_ (fun hHeld => ?_)
          · go_keep
          clear hK K
          try simp only [Act.put, List.getElem_toArray, List.getElem_cons_zero, List.getElem_cons_succ, List.setIfInBounds_toArray, List.set_cons_zero, List.set_cons_succ]
          refine wpAnyH_ready (rs := [1]) (by kernel_rfl) (by simp) ?_
          refine AllReadyH.cons rfl (fun K hK => ?_) AllReadyH.nil
          go_simp
          refine hK.out _ _ ?_ (fun hHeld => ?_)
          · go_keep
          clear hK K
          try simp only [Act.put, List.getElem_toArray, List.getElem_cons_zero, List.getElem_cons_succ, List.setIfInBounds_toArray, List.set_cons_zero, List.set_cons_succ]
          refine wpAnyH_ready (rs := [6]) (by kernel_rfl) (by simp) ?_
          refine AllReadyH.cons rfl (fun K hK => ?_) AllReadyH.nil
          refine Kd.R_append_rows_step kRP (w0 := wd) wd.heap.size (by rfl) (.tmp 37) (.tmp 41) 36 38 (.agg #[.int .i64 0, .int .i64 0, .int .i64 0, .int .i64 0, .int .i64 0, .int .i64 0, .int .i64 0, .slice none 0 0]) 80 (by rfl) Try.underlying36 Try.infoPlc rfl (by decide) (by omega) _ [] R.L _ _ _ (fun _ => True) (fun _ => False) (by rfl) (by rfl) hEb.out (Kd.C_below HCd.out hBb.out) (fun _ _ h => kRP_ofK h) (fun _ h => h.elim) (fun _ _ => trivial) hBb.out hBb.out.size (by have := HL.out; simp only [List.length_nil]; omega) ?_
          intro v2 W6 ho6 hb6 hg6 hat6; clear hat6; simp only [List.nil_append] at ho6; obtain ⟨g0, g1, g2, g3, g4, g5, g6, gx⟩ := hkeep.out W6 hb6; obtain ⟨a2, c2, e2⟩ := Kd.R_slice ho6; subst e2
          have hbx := Aside0.mk ((hg6.block _ (blk_lt hXb.out) (by simp [Value.ownBlock])).trans hXb.out)
          replace ho6 := Aside0.mk ho6; replace hb6 := Aside0.mk hb6; clear hg6
          refine hK.out _ _ ?_ (fun hHeld => ?_)
          · go_keep
          clear hK K
          try simp only [Act.put, List.getElem_toArray, List.getElem_cons_zero, List.getElem_cons_succ, List.setIfInBounds_toArray, List.set_cons_zero, List.set_cons_succ]
          refine wpAnyH_ready (rs := [11]) (by kernel_rfl) (by simp) ?_
          refine AllReadyH.cons rfl (fun K hK => ?_) AllReadyH.nil
          refine Kd.R_append_rows_step kRP (w0 := wd) wd.heap.size (by rfl) (.tmp 42) (.tmp 46) 36 38 (.agg #[.int .i64 0, .int .i64 0, .int .i64 0, .int .i64 0, .int .i64 0, .int .i64 0, .int .i64 0, .slice none 0 0]) 80 (by rfl) Try.underlying36 Try.infoPlc rfl (by decide) (by omega) (.slice a2 R.L.length c2) R.L [(⟨(i : Int), t, A7, c7⟩ : RP)] _ _ _ (fun _ => True) (fun _ => False) (by rfl) (by rfl) ho6.out (box_C (p := ⟨(i : Int), t, A7, c7⟩) hbx.out) (fun _ _ h => kRP_ofK h) (fun _ h => h.elim) (fun _ _ => trivial) hb6.out hb6.out.size (by have := HL.out; omega) ?_
          intro v3 W9 ho9 hb9 hg9 hat9; clear hg9 hat9; obtain ⟨g0, g1, g2, g3, g4, g5, g6, gx⟩ := hkeep.out W9 hb9; have zx := hfrz.out W9 hb9; obtain ⟨a3, c3, e3⟩ := Kd.R_slice ho9; simp only [List.length_append, List.length_cons, List.length_nil, Nat.zero_add] at e3; subst e3; replace ho9 := Aside0.mk ho9; replace hb9 := Aside0.mk hb9
          refine hK.out _ _ ?_ (fun hHeld => ?_)
          · go_keep
          clear hK K
          try simp only [Act.put, List.getElem_toArray, List.getElem_cons_zero, List.getElem_cons_succ, List.setIfInBounds_toArray, List.set_cons_zero, List.set_cons_succ]
          refine wpAnyH_take (i := 12) (v := ?_) rfl (by kernel_rfl) (by kernel_rfl) (by kernel_rfl) (fun _ _ _ h => h) (Or.inl ⟨by rfl, ?_⟩) (by assumption) ?_
          rotate_left
          · intro w hSw
            try dsimp only at hSw
            go_simp
            try with_reducible rfl
          try simp only [Act.put, List.getElem_toArray, List.getElem_cons_zero, List.getElem_cons_succ, List.setIfInBounds_toArray, List.set_cons_zero, List.set_cons_succ]
          refine wpAnyH_take (i := 13) (v := ?_) rfl (by kernel_rfl) (by kernel_rfl) (by kernel_rfl) (fun _ _ _ h => h) (Or.inl ⟨by rfl, ?_⟩) (by assumption) ?_
          rotate_left
          · intro w hSw
            try dsimp only at hSw
            go_simp
            try with_reducible rfl
          try simp only [Act.put, List.getElem_toArray, List.getElem_cons_zero, List.getElem_cons_succ, List.setIfInBounds_toArray, List.set_cons_zero, List.set_cons_succ]
          refine wpAnyH_ready (rs := [14]) (by kernel_rfl) (by simp) ?_
          refine AllReadyH.cons rfl (fun K hK => ?_) AllReadyH.nil
          go_simp
          refine hK.out _ _ ?_ (fun hHeld => ?_)
          · exact ⟨(World.cell?_of_block (Below.heap_setCell W9 _ _ _ (Nat.ne_of_gt HXL.out))).trans g0, (World.cell?_of_block (Below.heap_setCell W9 _ _ _ (Nat.ne_of_gt HXL.out))).trans g1, (World.cell?_of_block (Below.heap_setCell W9 _ _ _ (Nat.ne_of_gt HXL.out))).trans g2, (World.cell?_of_block (Below.heap_setCell W9 _ _ _ (Nat.ne_of_gt HXL.out))).trans g3, (World.cell?_of_block (Below.heap_setCell W9 _ _ _ (Nat.ne_of_gt HXL.out))).trans g4, (World.cell?_of_block (Below.heap_setCell W9 _ _ _ (Nat.ne_of_gt HXL.out))).trans g5, (World.cell?_of_block (Below.heap_setCell W9 _ _ _ (Nat.ne_of_gt HXL.out))).trans g6⟩
          clear hK K
          try simp only [Act.put, List.getElem_toArray, List.getElem_cons_zero, List.getElem_cons_succ, List.setIfInBounds_toArray, List.set_cons_zero, List.set_cons_succ]
          refine wpAnyH_done (by kernel_rfl) ?_ _
          have hB9 : Below w.heap.size w W9 := hBd.out.trans (hb9.out.mono hBd.out.size)
          have hfin := put_fin HH.out hB9 (Kd.R_lower ho9.out hBd.out.size) (Kd.R_below hRd.out hb9.out)
          have u0 := (World.cell?_of_block (a := ⟨w.heap.size, 0, none⟩) (Below.heap_setCell W9 ⟨x, 0, none⟩ (.slice a3 (R.L.length + 1) c3) _ (Nat.ne_of_gt HXL.out))).trans g0
          have u1 := (World.cell?_of_block (a := ⟨w.heap.size, 1, none⟩) (Below.heap_setCell W9 ⟨x, 0, none⟩ (.slice a3 (R.L.length + 1) c3) _ (Nat.ne_of_gt HXL.out))).trans g1
          obtain ⟨W10, h10⟩ : ∃ W10, W9.setCell ⟨x, 0, none⟩ (.slice a3 (R.L.length + 1) c3) = W10 := ⟨_, rfl⟩
          rw [h10] at hfin u0 u1
          try rw [h10]
          clear h10 g0 g1 g2 g3 g4 g5 g6 gx
          have hgv := give_calls x t.f0 t.f1 _ _ W10 hfin.1 HLG.out
          replace hfin := Aside0.mk hfin
          go_wp2_with (go_at_call 86; refine hgv.mono ?_; rintro e w' ⟨⟨v, rfl⟩, hr, hc⟩)
          go_ret2
          exact ⟨by simp, A7, c7, put_end HH.out hfin.out.1 hfin.out.2 hr hc⟩
      -- region 7 ends
end Go.Proofs.Ytljahhgankcalaa

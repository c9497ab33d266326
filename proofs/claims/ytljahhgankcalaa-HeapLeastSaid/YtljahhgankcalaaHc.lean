import Derived.Test.YtljahhgankcalaaHl
import Derived.WalkSpells
/-! slices.Clone of values, Tuple.clone, New. -/
namespace Go.Proofs.Ytljahhgankcalaa
open Go.RowKit Go.Maps Go.MapKept Go.WideMaps
open Go.Proofs.YtljahhgankcalaaW.PrintWords Go.Proofs.YtljahhgankcalaaW.PrintLast Go.Proofs.YtljahhgankcalaaW.PrintMore
open PHeapThere
set_option linter.unusedVariables false
set_option linter.unusedSimpArgs false

theorem R_empty {α : Type} (d : Kd α) (e : Nat) (W : World) (base : Nat) (hb : base ≤ W.heap.size) (ok : Nat → Prop) (ho : ok W.heap.size) : d.R e (W.alloc (.cells #[] e)) base ok (.slice (some ⟨W.heap.size, 0, none⟩) 0 0) [] :=
  ⟨fun k hk => by
    have : W.heap.size = k := by simpa [Value.ownBlock] using hk
    rw [← this]; exact ho, [], by simpa using World.ownsRow_lit (base := base) (e := e) (size := d.sz) W #[] 0 hb (by simp [maxLen]) (by simp), Reps.none _ _⟩

set_option maxRecDepth 100000 in
theorem cloneVals_nil (c : Nat) (w : World) :
    Calls Try.prog 91 #[.slice none 0 c] w fun e w' => e = .returned (.slice none 0 0) ∧ w' = w := by
  have hq := Lib.run_eql_slice_nil (P := Try.prog) w 30 91 none 0 c 0 0 Try.underlying30
  go_enter Try.func91, Try.ntmps91
  go_wp2
  go_ret
  exact ⟨rfl, rfl⟩

set_option maxRecDepth 100000 in
theorem cloneVals_some (a : Addr) (c : Nat) (xs : List AVal) (w : World) (hr : Kd.C kVal w (some a) xs.length xs) (hc : xs.length ≤ c) (hl : xs.length < 3518437208883) :
    Calls Try.prog 91 #[.slice (some a) xs.length c] w fun e w' => ∃ v, e = .returned v ∧ Kd.R kVal 91 w' w.heap.size (fun _ => True) v xs ∧ Below w.heap.size w w' := by
  have HR := Aside0.mk hr
  have HC := Aside0.mk hc
  have HL := Aside0.mk hl
  clear hr hc hl
  have hq := Lib.run_eql_slice_nil (P := Try.prog) w 30 91 (some a) xs.length c 0 0 Try.underlying30
  go_enter Try.func91, Try.ntmps91
  go_wp2_with (at_builtin; refine Kd.R_append_rows kVal (w0 := w) w.heap.size rfl (.tmp 5) (.tmp 6) 30 91 (.agg #[(.int .u8 0), (.int .i64 0), (.int .i64 0), (.string ⟨#[]⟩)]) 40 rfl Try.underlying30 info91 rfl (by decide) (by omega) (.slice (some ⟨w.heap.size, 0, none⟩) 0 0) [] xs _ _ _ (fun _ => True) (fun _ => False) rfl rfl (R_empty kVal 91 w w.heap.size (Nat.le_refl _) (fun _ => True) trivial) (Kd.C_below HR.out ((Below.refl _ _).alloc (Nat.le_refl _) _)) (fun _ _ h => h) (fun _ h => h.elim) (fun _ _ => trivial) ((Below.refl _ _).alloc (Nat.le_refl _) _) (by simp) (by have := HL.out; simp; omega) ?_; intro v1 w1 ho hb hg hat; replace ho := Aside0.mk ho)
  go_ret
  exact ⟨v1, rfl, by simpa using ho.out, hb⟩

theorem cloneVals (v : Value) (xs : List AVal) (w : World) (ok : Nat → Prop) (hr : Kd.R kVal 91 w 0 ok v xs) (hl : xs.length < 3518437208883) :
    Calls Try.prog 91 #[v] w fun e w' => ∃ v1, e = .returned v1 ∧ Kd.R kVal 91 w' w.heap.size (fun _ => True) v1 xs ∧ Below w.heap.size w w' := by
  obtain ⟨a, c, rfl, hc, h2⟩ := Kd.R_reads hr
  cases a with
  | some a => exact cloneVals_some a c xs w h2 hc hl
  | none =>
    have h0 : xs.length = 0 := by
      rcases Nat.eq_zero_or_pos xs.length with h | h
      · exact h
      · obtain ⟨ad, he, _⟩ := h2.2.2 h
        cases he
    obtain rfl := List.length_eq_zero_iff.1 h0
    refine (cloneVals_nil c w).mono ?_
    rintro e w' ⟨rfl, rfl⟩
    exact ⟨_, rfl, Kd.R_nil _ _ _ _ _, Below.refl _ _⟩

theorem blk_set7 {w : World} {g t : Nat} {x0 x1 x2 x3 x4 x5 x6 y0 y1 y2 y3 y4 y5 y6 : Value} (h : w.heap[g]? = some (.cells #[x0, x1, x2, x3, x4, x5, x6] t (0, 0))) :
    (((((((w.setCell ⟨g, 0, none⟩ y0).setCell ⟨g, 1, none⟩ y1).setCell ⟨g, 2, none⟩ y2).setCell ⟨g, 3, none⟩ y3).setCell ⟨g, 4, none⟩ y4).setCell ⟨g, 5, none⟩ y5).setCell ⟨g, 6, none⟩ y6).heap[g]? = some (.cells #[y0, y1, y2, y3, y4, y5, y6] t (0, 0)) := by
  have h0 := blk_put (cs' := #[y0, x1, x2, x3, x4, x5, x6]) h 0 y0 rfl
  have h1 := blk_put (cs' := #[y0, y1, x2, x3, x4, x5, x6]) h0 1 y1 rfl
  have h2 := blk_put (cs' := #[y0, y1, y2, x3, x4, x5, x6]) h1 2 y2 rfl
  have h3 := blk_put (cs' := #[y0, y1, y2, y3, x4, x5, x6]) h2 3 y3 rfl
  have h4 := blk_put (cs' := #[y0, y1, y2, y3, y4, x5, x6]) h3 4 y4 rfl
  have h5 := blk_put (cs' := #[y0, y1, y2, y3, y4, y5, x6]) h4 5 y5 rfl
  exact blk_put (cs' := #[y0, y1, y2, y3, y4, y5, y6]) h5 6 y6 rfl

set_option maxRecDepth 100000 in
theorem tclone_calls (a0 a1 a2 a3 a4 a5 : Int) (v6 : Value) (xs : List AVal) (w : World) (ok : Nat → Prop) (hr : Kd.R kVal 91 w 0 ok v6 xs) (hl : xs.length < 3518437208883) :
    Calls Try.prog 59 #[.agg #[.int .i64 a0, .int .i64 a1, .int .i64 a2, .int .i64 a3, .int .i64 a4, .int .i64 a5, v6]] w fun e w' => ∃ v, e = .returned (.agg #[.int .i64 a0, .int .i64 a1, .int .i64 a2, .int .i64 a3, .int .i64 a4, .int .i64 a5, v]) ∧
      Kd.R kVal 91 w' w.heap.size (fun _ => True) v xs ∧ Below w.heap.size w w' := by
  obtain ⟨A, c, hv, hc, h2⟩ := Kd.R_reads hr
  have HR := Aside0.mk hr
  have HL := Aside0.mk hl
  subst hv
  clear hr hl h2
  go_enter Try.func59, Try.ntmps59
  go_wp2_with fail
  refine (cloneVals _ xs _ ok (Kd.R_below HR.out (((Below.refl _ w).alloc (Nat.le_refl _) _).alloc (by simp) _)) HL.out).mono ?_
  rintro e w3 ⟨v1, rfl, ho, hb⟩
  have HO := Aside0.mk ho
  have HB := Aside0.mk hb
  obtain ⟨A1, c1, hv1⟩ := Kd.R_slice ho
  subst hv1
  have hb1 : w3.heap[w.heap.size]? = some (.cells #[.int .i64 a0, .int .i64 a1, .int .i64 a2, .int .i64 a3, .int .i64 a4, .int .i64 a5, .slice A xs.length c] 39 (0, 0)) := (hb.block _ (by simp; omega)).trans (blk_alloc (blk_new w _) _)
  have hb2 : w3.heap[w.heap.size + 1]? = some (.cells #[.int .i64 0, .int .i64 0, .int .i64 0, .int .i64 0, .int .i64 0, .int .i64 0, .slice none 0 0] 39 (0, 0)) := (hb.block _ (by simp)).trans (by simpa using blk_new (w.alloc _) _)
  have HB1 := Aside0.mk hb1
  have HB2 := Aside0.mk hb2
  have hlt : w.heap.size < w3.heap.size := blk_lt hb1
  clear ho hb hb1 hb2
  have k0 := (blk_cell HB1.out 0)
  have k1 := (blk_cell HB1.out 1)
  have k2 := (blk_cell HB1.out 2)
  have k3 := (blk_cell HB1.out 3)
  have k4 := (blk_cell HB1.out 4)
  have k5 := (blk_cell HB1.out 5)
  have k6 := (blk_cell HB1.out 6)
  have l0 := (blk_cell HB2.out 0)
  have l1 := (blk_cell HB2.out 1)
  have l2 := (blk_cell HB2.out 2)
  have l3 := (blk_cell HB2.out 3)
  have l4 := (blk_cell HB2.out 4)
  have l5 := (blk_cell HB2.out 5)
  have l6 := (blk_cell HB2.out 6)
  simp at k0 k1 k2 k3 k4 k5 k6 l0 l1 l2 l3 l4 l5 l6
  have z1 := fun i => blk_frozen HB1.out i
  have z2 := fun i => blk_frozen HB2.out i
  go_wp2
  refine bodyPost_ret (results_cell_row rfl _ _ (w.heap.size + 1) 39 #[.int .i64 a0, .int .i64 a1, .int .i64 a2, .int .i64 a3, .int .i64 a4, .int .i64 a5, .slice A1 xs.length c1] (0, 0) _ rfl
    (blk_set7 (x0 := .int .i64 0) (x1 := .int .i64 0) (x2 := .int .i64 0) (x3 := .int .i64 0) (x4 := .int .i64 0) (x5 := .int .i64 0) (x6 := .slice none 0 0) (blk_far HB2.out (by simp) _)) Try.underlying39 rfl (by kernel_rfl)) rfl ?_
  refine ⟨.slice A1 xs.length c1, rfl, ?_, ?_⟩
  · refine Kd.R_lower (Kd.R_mono (ok := fun k => k ≠ w.heap.size + 1) ?_ (fun _ _ => trivial)) (base := w.heap.size + 1 + 1) (by omega)
    have h1 : Kd.R kVal 91 w3 (w.heap.size + 1 + 1) (fun k => k ≠ w.heap.size ∧ k ≠ w.heap.size + 1) (.slice A1 xs.length c1) xs :=
      Kd.R_mono (Kd.R_bound (by simpa using HO.out)) (fun k hk => ⟨by have := hk.2.1; omega, by have := hk.2.1; omega⟩)
    exact Kd.R_mono (Kd.R_far (p := ⟨w.heap.size + 1, 6, none⟩) (Kd.R_far (p := ⟨w.heap.size + 1, 5, none⟩) (Kd.R_far (p := ⟨w.heap.size + 1, 4, none⟩) (Kd.R_far (p := ⟨w.heap.size + 1, 3, none⟩) (Kd.R_far (p := ⟨w.heap.size + 1, 2, none⟩) (Kd.R_far (p := ⟨w.heap.size + 1, 1, none⟩)
      (Kd.R_far (p := ⟨w.heap.size + 1, 0, none⟩) (Kd.R_far (p := ⟨w.heap.size, 6, none⟩) h1 (fun _ hk => hk.1) _) (fun _ hk => hk.2) _) (fun _ hk => hk.2) _) (fun _ hk => hk.2) _) (fun _ hk => hk.2) _) (fun _ hk => hk.2) _) (fun _ hk => hk.2) _) (fun _ hk => hk.2) _) (fun _ hk => hk.2)
  · have hb : Below w.heap.size w w3 := (((Below.refl _ w).alloc (Nat.le_refl _) _).alloc (by simp) _).trans (HB.out.mono (by simp; omega))
    repeat (refine Below.setCell ?_ (by simp) _)
    exact hb
end Go.Proofs.Ytljahhgankcalaa

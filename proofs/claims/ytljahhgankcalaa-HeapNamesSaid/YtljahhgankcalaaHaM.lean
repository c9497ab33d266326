import Derived.Test.YtljahhgankcalaaHfyM
/-! (*Heap).Free, whatever it is given; At; Slots. -/
namespace Go.Proofs.Ytljahhgankcalaa
open Go.RowKit Go.Maps Go.MapKept Go.WideMaps
open Go.Proofs.YtljahhgankcalaaW.PrintWords Go.Proofs.YtljahhgankcalaaW.PrintLast Go.Proofs.YtljahhgankcalaaW.PrintMore
open PHeapThere
set_option linter.unusedVariables false
set_option linter.unusedSimpArgs false

theorem HeapIs.ext_below {w w' : World} {h : Nat} {A : AH} {F : Nat → Prop} (H : HeapIs w h A F) (hB : Below w.heap.size w w') : HeapIs w' h A (ext F w w') := by
  obtain ⟨sv, rb, gb, rg, gg, H⟩ := H
  exact ⟨sv, rb, gb, rg, gg, (H.chg (Chg.of_below hB (fun _ => False)) (fun _ _ h => h)).mono (fun k hk => .inl hk) (fun k hk => by
    rcases hk with hk | hk
    · exact Nat.lt_of_lt_of_le (H.bound k hk) hB.size
    · exact hk.2)⟩
theorem HeapIs.ext {w w' : World} {h : Nat} {A : AH} {F : Nat → Prop} (H : HeapIs w' h A F) (hs : w.heap.size ≤ w'.heap.size) : HeapIs w' h A (ext F w w') := by
  obtain ⟨sv, rb, gb, rg, gg, H⟩ := H
  exact ⟨sv, rb, gb, rg, gg, H.mono (fun k hk => .inl hk) (fun k hk => by
    rcases hk with hk | hk
    · exact H.bound k hk
    · exact hk.2)⟩

theorem AH.Ok.many_le {A : AH} (hA : A.Ok) : A.many ≤ A.slots.length := by
  rw [hA.many]
  have := nonfree_le A.slots
  omega
theorem filter_pos {α : Type} (p : α → Bool) {l : List α} {i : Nat} (hi : i < l.length) (h : p l[i] = true) : 1 ≤ (l.filter p).length :=
  List.length_pos_of_mem (List.mem_filter.2 ⟨List.getElem_mem hi, h⟩)

theorem freed_calls (h : Nat) (s : Int) (A : AH) (F : Nat → Prop) (w : World) (H : HeapIs w h A F) (hA : A.Ok) (hl : A.slots.length < 2147483648) :
    Calls Try.prog 41 #[.pointer (some ⟨h, 0, none⟩), .int .i64 s] w fun e w' => e = .returned (.int .i64 (A.free s).1) ∧ HeapIs w' h (A.free s).2 (ext F w w') ∧ Chg w w' F := by
  cases hb : A.there s with
  | false =>
    refine (freed_no h s A F w H hb).mono ?_
    rintro e w' ⟨rfl, hB⟩
    rw [show A.free s = (1, A) from by unfold AH.free; rw [hb]; rfl]
    exact ⟨rfl, H.ext_below hB, Chg.of_below hB _⟩
  | true =>
    obtain ⟨h0, h1, h2⟩ := (A.there_iff s).1 hb
    obtain ⟨i, rfl⟩ : ∃ i : Nat, s = i := ⟨s.toNat, by omega⟩
    have hi : i < A.slots.length := by omega
    have hm := hA.many_le
    have hm0 : 1 ≤ A.many := by
      rw [hA.many]
      have := filter_pos (fun t : ATup => t.f0 != 0) hi (by rw [A.at_nat hi] at h2; simp; omega)
      omega
    refine (freed_yes h i A F w H hA hi hb hm0 (by omega)).mono ?_
    rintro e w' ⟨rfl, h3, h4⟩
    refine ⟨?_, h3, h4⟩
    rw [show (A.free i).1 = 0 from by unfold AH.free; rw [hb]; rfl]

set_option maxRecDepth 100000 in
theorem at_no (h : Nat) (s : Int) (A : AH) (F : Nat → Prop) (w : World) (H : HeapIs w h A F) (hb : A.there s = false) :
    Calls Try.prog 17 #[.pointer (some ⟨h, 0, none⟩), .int .i64 s] w fun e w' => e = .returned (.tuple #[.agg #[.int .i64 0, .int .i64 0, .int .i64 0, .int .i64 0, .int .i64 0, .int .i64 0, .slice none 0 0], .bool false]) ∧ Below w.heap.size w w' := by
  have hi := is_calls h s A F _ (H.below ((Below.refl _ w).alloc (Nat.le_refl _) (.cells #[.int .i64 0, .int .i64 0, .int .i64 0, .int .i64 0, .int .i64 0, .int .i64 0, .slice none 0 0] 39)))
  rw [hb] at hi
  clear H hb
  go_enter Try.func17, Try.ntmps17
  go_wp2_with (go_at_call 58; refine hi.mono ?_; rintro e w' ⟨rfl, rfl⟩)
  refine bodyPost_ret (results_ct rfl _ _ w.heap.size 39 #[.int .i64 0, .int .i64 0, .int .i64 0, .int .i64 0, .int .i64 0, .int .i64 0, .slice none 0 0] (0, 0) _ rfl (blk_new w _) Try.underlying39 rfl (by kernel_rfl)) rfl ?_
  exact ⟨rfl, (Below.refl _ w).alloc (Nat.le_refl _) _⟩

set_option maxRecDepth 100000 in
set_option maxHeartbeats 400000 in
theorem at_yes (h : Nat) (i : Nat) (A : AH) (F : Nat → Prop) (w : World) (H : HeapIs w h A F) (hi : i < A.slots.length) (hb : A.there i = true) (hl : A.slots[i].f6.length < 3518437208883) :
    Calls Try.prog 17 #[.pointer (some ⟨h, 0, none⟩), .int .i64 i] w fun e w' => ∃ v, e = .returned (.tuple #[.agg #[.int .i64 A.slots[i].f0, .int .i64 A.slots[i].f1, .int .i64 A.slots[i].f2, .int .i64 A.slots[i].f3, .int .i64 A.slots[i].f4, .int .i64 A.slots[i].f5, v], .bool true]) ∧
      Kd.R kVal 91 w' w.heap.size (fun _ => True) v A.slots[i].f6 ∧ Below w.heap.size w w' := by
  have H0 := H.below ((Below.refl _ w).alloc (Nat.le_refl _) (.cells #[.int .i64 0, .int .i64 0, .int .i64 0, .int .i64 0, .int .i64 0, .int .i64 0, .slice none 0 0] 39))
  have hri := is_calls h i A F _ H0
  rw [hb] at hri
  obtain ⟨sv, rb, gb, rg, gg, H⟩ := H
  obtain ⟨g, cap, cur, u6, hsv, hn, hm, hgF, hg, hsz, h6, x0, x1, x2, x3, x4, x5, x6⟩ := slot_cells H.slots hi
  obtain ⟨A6, c6, e6⟩ := Kd.R_slice h6
  subst e6
  have k0 := H.cell 0
  rw [hsv] at k0
  have y0 := (blk_cell hg (i * 7)).trans x0
  have y1 := (blk_cell hg (i * 7 + 1)).trans x1
  have y2 := (blk_cell hg (i * 7 + 2)).trans x2
  have y3 := (blk_cell hg (i * 7 + 3)).trans x3
  have y4 := (blk_cell hg (i * 7 + 4)).trans x4
  have y5 := (blk_cell hg (i * 7 + 5)).trans x5
  have y6 := (blk_cell hg (i * 7 + 6)).trans x6
  simp at k0
  have hlt : h < w.heap.size := blk_lt H.blk
  have hgl : g < w.heap.size := blk_lt hg
  have HR := Aside0.mk h6
  have HLx := Aside0.mk hl
  generalize A.slots[i] = T at *
  have b1 : (0 : Int) ≤ (i : Int) := by omega
  have b2 : (i : Int) < (A.slots.length : Int) := by omega
  clear H H0 hsv hn hm hgF hg hsz h6 x0 x1 x2 x3 x4 x5 x6 hb hl
  go_enter Try.func17, Try.ntmps17
  go_wp2_with (go_at_call 58; refine hri.mono ?_; rintro e w' ⟨rfl, rfl⟩)
  refine (tclone_calls _ _ _ _ _ _ _ T.f6 _ _ (Kd.R_below HR.out ((Below.refl _ w).alloc (Nat.le_refl _) _)) HLx.out).mono ?_
  rintro e w1 ⟨v, rfl, ho, hB⟩
  obtain ⟨A7, c7, e7⟩ := Kd.R_slice ho
  subst e7
  have hb1 : w1.heap[w.heap.size]? = some (.cells #[.int .i64 0, .int .i64 0, .int .i64 0, .int .i64 0, .int .i64 0, .int .i64 0, .slice none 0 0] 39 (0, 0)) := (hB.block _ (by simp)).trans (blk_new w _)
  have HB1 := Aside0.mk hb1
  have HO := Aside0.mk ho
  have HB := Aside0.mk hB
  clear ho hB
  have l0 := (blk_cell hb1 0)
  have l1 := (blk_cell hb1 1)
  have l2 := (blk_cell hb1 2)
  have l3 := (blk_cell hb1 3)
  have l4 := (blk_cell hb1 4)
  have l5 := (blk_cell hb1 5)
  have l6 := (blk_cell hb1 6)
  have z2 : ∀ j, w1.frozen? ⟨w.heap.size, j, none⟩ = false := fun j => blk_frozen hb1 j
  simp at l0 l1 l2 l3 l4 l5 l6
  clear hb1 k0 y0 y1 y2 y3 y4 y5 y6
  go_wp2
  refine bodyPost_ret (results_ct rfl _ _ w.heap.size 39 #[.int .i64 T.f0, .int .i64 T.f1, .int .i64 T.f2, .int .i64 T.f3, .int .i64 T.f4, .int .i64 T.f5, .slice A7 T.f6.length c7] (0, 0) _ rfl
    (blk_set7 (x0 := .int .i64 0) (x1 := .int .i64 0) (x2 := .int .i64 0) (x3 := .int .i64 0) (x4 := .int .i64 0) (x5 := .int .i64 0) (x6 := .slice none 0 0) HB1.out) Try.underlying39 rfl (by kernel_rfl)) rfl ?_
  refine ⟨.slice A7 T.f6.length c7, rfl, ?_, ?_⟩
  · refine Kd.R_lower (Kd.R_mono (ok := fun k => k ≠ w.heap.size) ?_ (fun _ _ => trivial)) (base := w.heap.size + 1) (by omega)
    have h1 : Kd.R kVal 91 w1 (w.heap.size + 1) (fun k => k ≠ w.heap.size) (.slice A7 T.f6.length c7) T.f6 :=
      Kd.R_mono (Kd.R_bound (by simpa using HO.out)) (fun k hk => by have := hk.2.1; omega)
    exact Kd.R_far (p := ⟨w.heap.size, 6, none⟩) (Kd.R_far (p := ⟨w.heap.size, 5, none⟩) (Kd.R_far (p := ⟨w.heap.size, 4, none⟩) (Kd.R_far (p := ⟨w.heap.size, 3, none⟩) (Kd.R_far (p := ⟨w.heap.size, 2, none⟩) (Kd.R_far (p := ⟨w.heap.size, 1, none⟩)
      (Kd.R_far (p := ⟨w.heap.size, 0, none⟩) h1 (fun _ hk => hk) _) (fun _ hk => hk) _) (fun _ hk => hk) _) (fun _ hk => hk) _) (fun _ hk => hk) _) (fun _ hk => hk) _) (fun _ hk => hk) _
  · have hb : Below w.heap.size w w1 := ((Below.refl _ w).alloc (Nat.le_refl _) _).trans (HB.out.mono (by simp))
    repeat (refine Below.setCell ?_ (by simp) _)
    exact hb

/-- What At tells. -/
def AH.atE (A : AH) (s : Int) : ATup := if A.there s then A.at s else zTup

theorem at_calls (h : Nat) (s : Int) (A : AH) (F : Nat → Prop) (w : World) (H : HeapIs w h A F) (hl : (A.at s).f6.length < 3518437208883) :
    Calls Try.prog 17 #[.pointer (some ⟨h, 0, none⟩), .int .i64 s] w fun e w' => ∃ v, e = .returned (.tuple #[.agg #[.int .i64 (A.atE s).f0, .int .i64 (A.atE s).f1, .int .i64 (A.atE s).f2, .int .i64 (A.atE s).f3, .int .i64 (A.atE s).f4, .int .i64 (A.atE s).f5, v], .bool (A.there s)]) ∧
      Kd.R kVal 91 w' w.heap.size (fun _ => True) v (A.atE s).f6 ∧ Below w.heap.size w w' := by
  cases hb : A.there s with
  | false =>
    refine (at_no h s A F w H hb).mono ?_
    rintro e w' ⟨rfl, hB⟩
    rw [show A.atE s = zTup from by unfold AH.atE; rw [hb]; rfl]
    exact ⟨_, rfl, Kd.R_nil _ _ _ _ _, hB⟩
  | true =>
    obtain ⟨h0, h1, h2⟩ := (A.there_iff s).1 hb
    obtain ⟨i, rfl⟩ : ∃ i : Nat, s = i := ⟨s.toNat, by omega⟩
    have hi : i < A.slots.length := by omega
    rw [show A.atE i = A.slots[i] from by unfold AH.atE; rw [hb, if_pos rfl, A.at_nat hi]]
    rw [A.at_nat hi] at hl
    exact at_yes h i A F w H hi hb hl

set_option maxRecDepth 100000 in
theorem cloneInts_nil (c : Nat) (w : World) :
    Calls Try.prog 79 #[.slice none 0 c] w fun e w' => e = .returned (.slice none 0 0) ∧ w' = w := by
  have hq := Lib.run_eql_slice_nil (P := Try.prog) w 53 3 none 0 c 0 0 Try.underlying53
  go_enter Try.func79, Try.ntmps79
  go_wp2
  go_ret
  exact ⟨rfl, rfl⟩

set_option maxRecDepth 100000 in
theorem cloneInts_some (a : Addr) (c : Nat) (xs : List Int) (w : World) (hr : Kd.C kInt w (some a) xs.length xs) (hc : xs.length ≤ c) (hl : xs.length < 17592186044000) :
    Calls Try.prog 79 #[.slice (some a) xs.length c] w fun e w' => ∃ v, e = .returned v ∧ Kd.R kInt 3 w' w.heap.size (fun _ => True) v xs ∧ Below w.heap.size w w' := by
  have HR := Aside0.mk hr
  have HC := Aside0.mk hc
  have HL := Aside0.mk hl
  clear hr hc hl
  have hq := Lib.run_eql_slice_nil (P := Try.prog) w 53 3 (some a) xs.length c 0 0 Try.underlying53
  go_enter Try.func79, Try.ntmps79
  go_wp2_with (at_builtin; refine Kd.R_append_rows kInt (w0 := w) w.heap.size rfl (.tmp 5) (.tmp 6) 53 3 (.int .i64 0) 8 rfl Try.underlying53 Try.infoInt rfl (by decide) (by omega) (.slice (some ⟨w.heap.size, 0, none⟩) 0 0) [] xs _ _ _ (fun _ => True) (fun _ => False) rfl rfl (R_empty kInt 3 w w.heap.size (Nat.le_refl _) (fun _ => True) trivial) (Kd.C_below HR.out ((Below.refl _ _).alloc (Nat.le_refl _) _)) (fun _ _ h => h) (fun _ h => h.elim) (fun _ _ => trivial) ((Below.refl _ _).alloc (Nat.le_refl _) _) (by simp) (by have := HL.out; simp; omega) ?_; intro v1 w1 ho hb hg hat; replace ho := Aside0.mk ho)
  go_ret
  exact ⟨v1, rfl, by simpa using ho.out, hb⟩

theorem cloneInts (v : Value) (xs : List Int) (w : World) (base : Nat) (ok : Nat → Prop) (hr : Kd.R kInt 3 w base ok v xs) (hl : xs.length < 17592186044000) :
    Calls Try.prog 79 #[v] w fun e w' => ∃ v1, e = .returned v1 ∧ Kd.R kInt 3 w' w.heap.size (fun _ => True) v1 xs ∧ Below w.heap.size w w' := by
  obtain ⟨a, c, rfl, hc, h2⟩ := Kd.R_reads hr
  cases a with
  | some a => exact cloneInts_some a c xs w h2 hc hl
  | none =>
    have h0 : xs.length = 0 := by
      rcases Nat.eq_zero_or_pos xs.length with h | h
      · exact h
      · obtain ⟨ad, he, _⟩ := h2.2.2 h
        cases he
    obtain rfl := List.length_eq_zero_iff.1 h0
    refine (cloneInts_nil c w).mono ?_
    rintro e w' ⟨rfl, rfl⟩
    exact ⟨_, rfl, Kd.R_nil _ _ _ _ _, Below.refl _ _⟩

theorem slots_calls (h : Nat) (no id : Int) (A : AH) (F : Nat → Prop) (w : World) (H : HeapIs w h A F) (ho : okW (no, id)) (hl : (A.rows (no, id)).length < 17592186044000) :
    Calls Try.prog 37 #[.pointer (some ⟨h, 0, none⟩), .int .i64 no, .int .i64 id] w fun e w' => ∃ v, e = .returned v ∧ Kd.R kInt 3 w' w.heap.size (fun _ => True) v (A.rows (no, id)) ∧ Below w.heap.size w w' := by
  obtain ⟨sv, rb, gb, rg, gg, H⟩ := H
  have k1 := H.cell 1
  simp at k1
  have hlk := H.rmap.look keyWhere Try.underlying103 (Try.zeroRow _) false ho
  obtain ⟨v0, hv0⟩ : ∃ v0, v0 = (rg (no, id)).getD (.slice none 0 0) := ⟨_, rfl⟩
  have hR : Kd.R kInt 3 w 0 F v0 (A.rows (no, id)) := by
    cases hg : rg (no, id) with
    | none => rw [hv0, hg, H.rown _ hg]; exact Kd.R_nil _ _ _ _ _
    | some u => rw [hv0, hg]; exact (H.rowv _ _ hg).1
  have hlk2 : (Instr.lookup 103 (.map (some rb)) (.agg #[.int .i64 no, .int .i64 id]) false).run Try.prog w = .ok v0 w := by
    have : (Instr.lookup 103 (.map (some rb)) (kvW (no, id)) false).run Try.prog w = .ok v0 w := by
      rw [hlk, hv0]
      cases rg (no, id) <;> rfl
    exact this
  have hcl := cloneInts v0 _ w 0 F hR hl
  clear H hlk hv0 hR
  go_enter Try.func37, Try.ntmps37
  go_wp2_with (go_at_call 79; refine hcl.mono ?_; rintro e w1 ⟨v, rfl, hr, hB⟩; replace hr := Aside0.mk hr; replace hB := Aside0.mk hB)
  go_ret
  exact ⟨v, rfl, hr.out, hB.out⟩
end Go.Proofs.Ytljahhgankcalaa

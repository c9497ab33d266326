import Derived.Test.YtdammjolkcjogaaMj
/-! model: Find. -/
namespace Go.Proofs.Ytdammjolkcjogaa
open Go.RowKit Go.Maps Go.MapKept Go.WideMaps Go.Shelf
open Go.Proofs.YtdammjolkcjogaaW.PrintWords Go.Proofs.YtdammjolkcjogaaW.PrintLast Go.Proofs.YtdammjolkcjogaaW.PrintMore
open PModelNames
attribute [local go_sem] Oper.semAt_some
set_option linter.unusedVariables false
set_option linter.unusedSimpArgs false

def idsP {Q : Int × Value → Prop} (p : Int × Value → Bool) (X : List { p : Int × Value // Q p }) : List Int := (X.filter (fun x => p x.val)).map (·.val.1)
theorem idsP_of {Q : Int × Value → Prop} {p : Int × Value → Bool} {X : List { p : Int × Value // Q p }} {Y : List (Int × Value)} (h : X.map (·.val) = Y) : idsP p X = idsX (Y.filter p) := by
  rw [← h]
  unfold idsP idsX
  rw [List.filter_map, List.map_map]
  rfl
theorem idsP_yes {Q : Int × Value → Prop} {p : Int × Value → Bool} (pre : List { p : Int × Value // Q p }) (x : { p : Int × Value // Q p }) (h : p x.val = true) : idsP p (pre ++ [x]) = idsP p pre ++ [x.val.1] := by simp [idsP, List.filter_append, h]
theorem idsP_no {Q : Int × Value → Prop} {p : Int × Value → Bool} (pre : List { p : Int × Value // Q p }) (x : { p : Int × Value // Q p }) (h : p x.val = false) : idsP p (pre ++ [x]) = idsP p pre := by simp [idsP, List.filter_append, h]
theorem idsP_len {Q : Int × Value → Prop} (p : Int × Value → Bool) (pre : List { p : Int × Value // Q p }) : (idsP p pre).length ≤ pre.length := by
  unfold idsP
  rw [List.length_map]
  exact List.length_filter_le _ _
set_option maxRecDepth 100000 in
set_option maxHeartbeats 4000000 in
theorem find_calls (w : World) (mv : Value) (no : Int) (Ac Ak : Option Addr) (nc cc nk ck : Nat) (X : List (Int × Value)) (hmv : mv = .pointer none ∨ ∃ m, mv = .pointer (some ⟨m, 0, none⟩)) (Q : Int × Value → Prop) (p : Int × Value → Bool) (hT : Tells w mv no X Q)
    (hR : ∀ W, Below w.heap.size w W → ∀ x, Q x → Calls Try.prog 28 #[x.2, .slice Ac nc cc, .slice Ak nk ck] W fun e w' => e = .returned (.bool (p x)) ∧ Below W.heap.size W w') :
    Calls Try.prog 12 #[mv, .int .i64 no, .slice Ac nc cc, .slice Ak nk ck] w fun e w' => ∃ v, e = .returned v ∧ Kd.R kInt 3 w' w.heap.size (fun _ => True) v (idsX (X.filter p)) ∧ Below w.heap.size w w' := by
  obtain ⟨i0, hi, hz0, hz1, hz2⟩ := info_parts Try.infoInt
  have bC := heap_alloc_new w (.cells #[.slice Ac nc cc] 30)
  have bK := heap_alloc_new (w.alloc (.cells #[.slice Ac nc cc] 30)) (.cells #[.slice Ak nk ck] 25)
  rw [World.size_alloc] at bK
  have bO := Boxed.new ((w.alloc (.cells #[.slice Ac nc cc] 30)).alloc (.cells #[.slice Ak nk ck] 25)) 30 (.slice none 0 0)
  rw [World.size_alloc, World.size_alloc] at bO
  have hb1 : Below w.heap.size w (((w.alloc (.cells #[.slice Ac nc cc] 30)).alloc (.cells #[.slice Ak nk ck] 25)).alloc (.cells #[.slice none 0 0] 30)) := (((Below.refl _ w).alloc (Nat.le_refl _) _).alloc (by simp) _).alloc (by simp; try omega) _
  have hs1 : (((w.alloc (.cells #[.slice Ac nc cc] 30)).alloc (.cells #[.slice Ak nk ck] 25)).alloc (.cells #[.slice none 0 0] 30)).heap.size = w.heap.size + 3 := by simp
  have bC3 : (((w.alloc (.cells #[.slice Ac nc cc] 30)).alloc (.cells #[.slice Ak nk ck] 25)).alloc (.cells #[.slice none 0 0] 30)).heap[w.heap.size]? = some (.cells #[.slice Ac nc cc] 30 (0, 0)) := (Below.heap_alloc _ _ _ (by simp; try omega)).trans ((Below.heap_alloc _ _ _ (by simp)).trans bC)
  have bK3 : (((w.alloc (.cells #[.slice Ac nc cc] 30)).alloc (.cells #[.slice Ak nk ck] 25)).alloc (.cells #[.slice none 0 0] 30)).heap[w.heap.size + 1]? = some (.cells #[.slice Ak nk ck] 25 (0, 0)) := (Below.heap_alloc _ _ _ (by simp)).trans bK
  have hrc := mrows_calls mv no (((w.alloc (.cells #[.slice Ac nc cc] 30)).alloc (.cells #[.slice Ak nk ck] 25)).alloc (.cells #[.slice none 0 0] 30)) hmv
  obtain ⟨w1, hw1⟩ : ∃ w1, ((w.alloc (.cells #[.slice Ac nc cc] 30)).alloc (.cells #[.slice Ak nk ck] 25)).alloc (.cells #[.slice none 0 0] 30) = w1 := ⟨_, rfl⟩
  rw [hw1] at bO hb1 hs1 bC3 bK3 hrc
  rw [hs1] at hrc
  replace hT := Aside0.mk hT
  replace hR := Aside0.mk hR
  have HW1 := Aside0.mk hw1
  clear bC bK hw1
  refine (callsIn_wide (n := 12)).1 ?_
  refine callsIn_of_wp_marks Try.func12 rfl trivial ?_ rfl
  simp only [Try.ntmps12, List.size_toArray, List.length_cons, List.length_nil, Nat.reduceAdd, Nat.reduceSub, Array.replicate_succ, Array.replicate_zero, List.push_toArray, List.append_toArray, List.nil_append, List.cons_append]
  gi_wp2_with (refine ⟨trivial, ?_⟩; gi_at_call 27; rw [HW1.out]; refine (callsIn_wide.2 hrc).mono ?_; rintro e w' ⟨rfl, rfl⟩)
  obtain ⟨W0, hW0⟩ : ∃ W0, (w1.alloc (.cells #[mv] 22)).alloc (.cells #[.int .i64 no] 3) = W0 := ⟨_, rfl⟩
  have hB0 : Below w.heap.size w W0 := by rw [← hW0]; exact ((hb1.alloc (by omega) _).alloc (by simp; try omega) _)
  have hsz : W0.heap.size = w.heap.size + 5 := by rw [← hW0]; simp; omega
  have bO0 : Boxed W0 (w.heap.size + 1 + 1) 30 (.slice none 0 0) := by rw [← hW0]; exact (bO.alloc _).alloc _
  have bC0 : W0.heap[w.heap.size]? = some (.cells #[.slice Ac nc cc] 30 (0, 0)) := by rw [← hW0]; exact (Below.heap_alloc _ _ _ (by simp; try omega)).trans ((Below.heap_alloc _ _ _ (by omega)).trans bC3)
  have bK0 : W0.heap[w.heap.size + 1]? = some (.cells #[.slice Ak nk ck] 25 (0, 0)) := by rw [← hW0]; exact (Below.heap_alloc _ _ _ (by simp; try omega)).trans ((Below.heap_alloc _ _ _ (by omega)).trans bK3)
  have bM : W0.heap[w.heap.size + 3]? = some (.cells #[mv] 22 (0, 0)) := by
    rw [← hW0]
    have h := heap_alloc_new w1 (.cells #[mv] 22)
    rw [hs1] at h
    exact (Below.heap_alloc _ _ _ (by simp; try omega)).trans h
  have bN : W0.heap[w.heap.size + 3 + 1]? = some (.cells #[.int .i64 no] 3 (0, 0)) := by
    rw [← hW0]
    have h := heap_alloc_new (w1.alloc (.cells #[mv] 22)) (.cells #[.int .i64 no] 3)
    rw [World.size_alloc, hs1] at h
    exact h
  rw [hW0]
  clear hW0 hb1 hrc bO bC3 bK3 hs1
  have hseq := hT.out 11 (by omega) W0 (w.heap.size + 3) (w.heap.size + 3 + 1) hB0 bM bN
  have hI0 : OwnFrom W0.heap.size (fun (pre : List { p : Int × Value // Q p }) W => ((∃ v, Boxed W (w.heap.size + 1 + 1) 30 v ∧ W.ownsRow (w.heap.size + 1 + 1) 3 1 v (idsP p pre).length ((idsP p pre).map (Value.int .i64)) ∧ True)) ∧ Below (w.heap.size + 1 + 1) W0 W) :=
    OwnFrom.and (Own.from (holdsRow_own (w.heap.size + 1 + 1) (w.heap.size + 1 + 1) 30 3 1 (fun pre => (idsP p pre).length) (fun pre => (idsP p pre).map (Value.int .i64)) (fun _ _ => True)) _) (ownFrom_below (by omega) (by omega))
  have hIb : ∀ (pre : List { p : Int × Value // Q p }) (X Y : World), Below X.heap.size X Y → (((∃ v, Boxed X (w.heap.size + 1 + 1) 30 v ∧ X.ownsRow (w.heap.size + 1 + 1) 3 1 v (idsP p pre).length ((idsP p pre).map (Value.int .i64)) ∧ True)) ∧ Below (w.heap.size + 1 + 1) W0 X) → (((∃ v, Boxed Y (w.heap.size + 1 + 1) 30 v ∧ Y.ownsRow (w.heap.size + 1 + 1) 3 1 v (idsP p pre).length ((idsP p pre).map (Value.int .i64)) ∧ True)) ∧ Below (w.heap.size + 1 + 1) W0 Y) := fun pre X Y hb hs =>
    hI0 pre X Y none hs (Chg.grown ((Chg.of_below hb (fun _ => False)).mono (fun k _ h => h.elim))) (fun r e => by cases e)
  have HI := Aside0.mk (And.intro bC0 (And.intro bK0 (And.intro hIb (And.intro hB0 hsz))))
  refine rangeFunc_V rfl (by omega) (gf := 48) (lb := #[.pointer (some ⟨w.heap.size + 3, 0, none⟩), .pointer (some ⟨w.heap.size + 3 + 1, 0, none⟩)]) rfl trivial (enters_of Try.func48 (by kernel_rfl) rfl)
    hseq
    (fun X Y k o hc hk hx ho _ => (hc.block k (Array.getElem?_eq_some_iff.1 hx).1 (fun h => h)).trans hx)
    (fun _ _ => trivial) (fun _ _ _ _ _ _ _ => trivial) (fun _ => rfl)
    (fun pre W => ((∃ v, Boxed W (w.heap.size + 1 + 1) 30 v ∧ W.ownsRow (w.heap.size + 1 + 1) 3 1 v (idsP p pre).length ((idsP p pre).map (Value.int .i64)) ∧ True)) ∧ Below (w.heap.size + 1 + 1) W0 W)
    (fun _ _ _ => False) hI0 (fun _ _ _ _ _ h _ _ => h)
    (fun s X Y hs hc => hI0 s X Y none hs (Chg.grown (hc.mono (fun k _ h => h.elim))) (fun r e => by cases e))
    (fun _ _ _ _ h _ => h)
    ⟨⟨_, bO0, World.ownsRow_nil _ _ _ _, trivial⟩, Below.refl _ _⟩
    (fun (x : { p : Int × Value // Q p }) a' W => a' = { tmps := #[mv, .int .i64 no, .slice Ac nc cc, .slice Ak nk ck, undef, undef, .pointer (some ⟨w.heap.size, 0, none⟩), .pointer (some ⟨w.heap.size + 1, 0, none⟩), .slice none 0 0, .pointer (some ⟨w.heap.size + 1 + 1, 0, none⟩), .int .i64 x.val.1, x.val.2, mv, .int .i64 no, .func (.func 48) #[] #[.pointer (some ⟨w.heap.size + 3, 0, none⟩), .pointer (some ⟨w.heap.size + 3 + 1, 0, none⟩)], .int .i64 x.val.1, x.val.2, undef, undef, undef, undef, undef, undef, undef, undef, undef], defers := [] })
    (fun x a' _ X Y row hs hg hr => hs)
    ?assign ?body ?done ?stop
  case assign =>
    rintro l pre ⟨⟨x1, x2⟩, hq⟩ W K hI hK
    simp only [encQ, encR]
    gi_wp2
    exact hK _ _ ⟨Nat.le_refl _, fun _ _ _ ho _ => ho⟩ trivial hI rfl
  case body =>
    rintro l pre ⟨⟨x1, x2⟩, hq⟩ a' W hl ⟨r, hr⟩ hIW rfl hlt
    have hn1 : 1 ≤ 12 - 1 - 1 := by omega
    have hBW := HI.out.2.2.2.1.trans (hIW.2.mono (by omega))
    have cC := blk_cell ((hIW.2.block w.heap.size (by omega)).trans HI.out.1) 0
    have cK := blk_cell ((hIW.2.block (w.heap.size + 1) (by omega)).trans HI.out.2.1) 0
    simp at cC cK
    have hcall := hR.out W hBW (x1, x2) hq
    replace hIW := Aside0.mk hIW
    have hPL := Aside0.mk (idsP_len p pre)
    clear hBW bC0 bK0 hIb hI0 hseq bM bN bO0
    cases hp : p (x1, x2) with
    | false =>
      rw [hp] at hcall
      gi_wp2_with (refine ⟨trivial, ?_⟩; gi_at_call 28; refine (callsIn_wide.2 hcall).mono ?_; rintro e w2 ⟨rfl, hb2⟩; replace hb2 := Aside0.mk hb2)
      have h2 := HI.out.2.2.1 pre W w2 hb2.out hIW.out
      refine ⟨⟨hb2.out.size, fun k o _ hk _ => (hb2.out.block k (blk_lt hk)).trans hk⟩, trivial, ?_⟩
      dsimp only
      rw [idsP_no pre ⟨(x1, x2), hq⟩ hp]
      exact h2
    | true =>
      rw [hp] at hcall
      gi_wp2_with (first
        | (refine ⟨trivial, ?_⟩; gi_at_call 28; refine (callsIn_wide.2 hcall).mono ?_; rintro e w2 ⟨rfl, hb2⟩; obtain ⟨⟨v, hv, hrow, _⟩, hB⟩ := HI.out.2.2.1 pre W w2 hb2 hIW.out; have hc := hv.cell; replace hb2 := Aside0.mk hb2)
        | (gi_at_builtin; refine wpListIn_append_own _ rfl _ _ 30 rfl (w.heap.size + 1 + 1) 3 i0 (.int .i64 0) 1 8 Try.underlying30 hi hz0 hz1 hz2 rfl (by decide) _ _ _ rfl (hrow.alloc _) ⟨w2.heap.size, 0, none⟩ 1 1 [.int .i64 x1] rfl rfl (cell_one_new _ _ _) (by simp [Value.oneCell']) (by have := hPL.out; unfold maxLen; omega) (by have := hPL.out; omega) (by have := hv.lt; simp; omega) ?_; intro v' w1 hown' hgrow _; obtain ⟨g', cap', rfl⟩ := ownsRow_succ hown'; obtain ⟨hv1, hv2, hr2, hk2, hb3⟩ := hv.appended (by decide) hrow (Nat.le_of_lt hv.lt) (Nat.le_refl _) hown' hgrow; have hc1 := hv1.cell; have hf1 := hv1.frozen))
      refine ⟨⟨Nat.le_trans hb2.out.size hk2.size, fun k o _ hk ho => hk2.same k o ((hb2.out.block k (blk_lt hk)).trans hk) ho⟩, trivial, ⟨_, hv2, ?_⟩, hB.trans hb3⟩
      rw [idsP_yes pre ⟨(x1, x2), hq⟩ hp]
      simpa using hr2
  case done =>
    rintro D ys W hD hys ⟨⟨v, hv, hrow, _⟩, hB⟩ hK
    rw [idsP_of hys] at hrow
    have hc := hv.cell
    have hR2 := R_of_row hrow
    gi_wp2
    have hput : Chg W (W.putObj D (.deferred none)) (fun k => k = D) := (Chg.of_grown (grownBy_putObj' W D (.deferred none))).mono (fun k _ h => Option.some.inj h)
    refine ⟨by simp, .inl ⟨_, _, rfl, run_takeDeferred hK, ?_⟩⟩
    refine ⟨_, results_tmp rfl _ _ _, v, rfl, ints_up (Kd.R_mono (R_chg hR2 hput (fun k q cells _ _ hk e => by
      subst e
      rw [hK] at hk
      cases hk)) (fun k hk => by omega)), ?_⟩
    exact (HI.out.2.2.2.1.trans (hB.mono (by omega))).trans (belowK_b (w := w) (Nat.le_refl _) W D _ _ (by have := HI.out.2.2.2.2; omega) hK rfl rfl)
  case stop =>
    rintro D c pre W _ _ h _
    exact h.elim
end Go.Proofs.Ytdammjolkcjogaa

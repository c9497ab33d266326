import Derived.Test.YtdammjolkcjogaaMi
import Derived.Maps.AppendAt
import Derived.RangeFuncBox
import Derived.RangeFuncFrom
/-! model: IDs. -/
namespace Go.Proofs.Ytdammjolkcjogaa
open Go.RowKit Go.Maps Go.MapKept Go.WideMaps Go.Shelf
open Go.Proofs.YtdammjolkcjogaaW.PrintWords Go.Proofs.YtdammjolkcjogaaW.PrintLast Go.Proofs.YtdammjolkcjogaaW.PrintMore
open PModelNames
attribute [local go_sem] Oper.semAt_some
set_option linter.unusedVariables false
set_option linter.unusedSimpArgs false

theorem R_of_row {w : World} {base e : Nat} {v : Value} {xs : List Int} (h : w.ownsRow base e 1 v xs.length (xs.map (Value.int .i64))) : Kd.R (Kd.int .i64) e w 0 (fun k => base ≤ k) v xs := by
  refine Kd.R_of_own ⟨h.1, ?_⟩ (fun k hk => ?_)
  · rcases h.2 with h2 | ⟨g, cap, cur, h1, h2, h3⟩
    · exact .inl h2
    · exact .inr ⟨g, cap, cur, h1, Nat.zero_le _, h3⟩
  · rcases h.2 with ⟨rfl, _⟩ | ⟨g, cap, cur, rfl, hgb, _⟩
    · cases hk
    · have : g = k := by simpa [Value.ownBlock] using hk
      omega
def idsX (X : List (Int × Value)) : List Int := X.map (·.1)
def idsQ {Q : Int × Value → Prop} (X : List { p : Int × Value // Q p }) : List Int := X.map (·.val.1)
theorem idsQ_of {Q : Int × Value → Prop} {X : List { p : Int × Value // Q p }} {Y : List (Int × Value)} (h : X.map (·.val) = Y) : idsQ X = idsX Y := by rw [← h]; simp [idsQ, idsX]
theorem idsQ_more {Q : Int × Value → Prop} (pre : List { p : Int × Value // Q p }) (x : { p : Int × Value // Q p }) : idsQ (pre ++ [x]) = idsQ pre ++ [x.val.1] := by simp [idsQ]
/-- What the iterator of a table's rows tells. -/
def Tells (w : World) (mv : Value) (no : Int) (X : List (Int × Value)) (Q : Int × Value → Prop) : Prop := ∀ (n : Nat), 8 ≤ n → ∀ (W : World) (bm bn : Nat), Below w.heap.size w W → W.heap[bm]? = some (.cells #[mv] 22 (0, 0)) → W.heap[bn]? = some (.cells #[.int .i64 no] 3 (0, 0)) →
  SeqV Fence.wide n Try.prog 48 #[.pointer (some ⟨bm, 0, none⟩), .pointer (some ⟨bn, 0, none⟩)] (encQ (Q := Q)) (fun X Y => Chg X Y (fun _ => False)) (fun _ _ => True) (fun xs => xs.map (·.val) = X) (fun _ => True) 1 W
theorem Try.infoInt : (Try.prog.info? 3).map (fun i => (i.zero, i.size, i.bytes)) = some (some (.int .i64 0), 1, 8) := by kernel_rfl
set_option maxRecDepth 100000 in
set_option maxHeartbeats 4000000 in
theorem ids_calls (w : World) (mv : Value) (no : Int) (X : List (Int × Value)) (hmv : mv = .pointer none ∨ ∃ m, mv = .pointer (some ⟨m, 0, none⟩)) (Q : Int × Value → Prop) (hT : Tells w mv no X Q) :
    Calls Try.prog 11 #[mv, .int .i64 no] w fun e w' => ∃ v, e = .returned v ∧ Kd.R kInt 3 w' w.heap.size (fun _ => True) v (idsX X) ∧ Below w.heap.size w w' := by
  obtain ⟨i0, hi, hz0, hz1, hz2⟩ := info_parts Try.infoInt
  have bO := Boxed.new w 30 (.slice none 0 0)
  have hb1 : Below w.heap.size w (w.alloc (.cells #[.slice none 0 0] 30)) := (Below.refl _ w).alloc (Nat.le_refl _) _
  have hrc := mrows_calls mv no (w.alloc (.cells #[.slice none 0 0] 30)) hmv
  replace hT := Aside0.mk hT
  refine (callsIn_wide (n := 12)).1 ?_
  refine callsIn_of_wp_marks Try.func11 rfl trivial ?_ rfl
  simp only [Try.ntmps11, List.size_toArray, List.length_cons, List.length_nil, Nat.reduceAdd, Nat.reduceSub, Array.replicate_succ, Array.replicate_zero, List.push_toArray, List.append_toArray, List.nil_append, List.cons_append]
  gi_wp2_with (refine ⟨trivial, ?_⟩; gi_at_call 27; refine (callsIn_wide.2 hrc).mono ?_; rintro e w' ⟨rfl, rfl⟩)
  obtain ⟨W0, hW0⟩ : ∃ W0, ((w.alloc (.cells #[.slice none 0 0] 30)).alloc (.cells #[mv] 22)).alloc (.cells #[.int .i64 no] 3) = W0 := ⟨_, rfl⟩
  have hB0 : Below w.heap.size w W0 := by rw [← hW0]; exact ((hb1.alloc (by simp) _).alloc (by simp; try omega) _)
  have hsz : W0.heap.size = w.heap.size + 3 := by rw [← hW0]; simp
  have bO0 : Boxed W0 w.heap.size 30 (.slice none 0 0) := by rw [← hW0]; exact (bO.alloc _).alloc _
  have bM : W0.heap[w.heap.size + 1]? = some (.cells #[mv] 22 (0, 0)) := by
    rw [← hW0]
    have h := heap_alloc_new (w.alloc (.cells #[.slice none 0 0] 30)) (.cells #[mv] 22)
    rw [World.size_alloc] at h
    exact (Below.heap_alloc _ _ _ (by simp)).trans h
  have bN : W0.heap[w.heap.size + 1 + 1]? = some (.cells #[.int .i64 no] 3 (0, 0)) := by
    rw [← hW0]
    have h := heap_alloc_new ((w.alloc (.cells #[.slice none 0 0] 30)).alloc (.cells #[mv] 22)) (.cells #[.int .i64 no] 3)
    rw [World.size_alloc, World.size_alloc] at h
    exact h
  rw [hW0]
  clear hW0 hb1 hrc bO
  have hseq := hT.out 11 (by omega) W0 (w.heap.size + 1) (w.heap.size + 1 + 1) hB0 bM bN
  have hI0 : OwnFrom W0.heap.size (fun (pre : List { p : Int × Value // Q p }) W => ((∃ v, Boxed W w.heap.size 30 v ∧ W.ownsRow w.heap.size 3 1 v (idsQ pre).length ((idsQ pre).map (Value.int .i64)) ∧ True)) ∧ Below w.heap.size w W) :=
    OwnFrom.and (Own.from (holdsRow_own w.heap.size w.heap.size 30 3 1 (fun pre => (idsQ pre).length) (fun pre => (idsQ pre).map (Value.int .i64)) (fun _ _ => True)) _) (ownFrom_below (Nat.le_refl _) (by omega))
  refine rangeFunc_V rfl (by omega) (gf := 48) (lb := #[.pointer (some ⟨w.heap.size + 1, 0, none⟩), .pointer (some ⟨w.heap.size + 1 + 1, 0, none⟩)]) rfl trivial (enters_of Try.func48 (by kernel_rfl) rfl)
    hseq
    (fun X Y k o hc hk hx ho _ => (hc.block k (Array.getElem?_eq_some_iff.1 hx).1 (fun h => h)).trans hx)
    (fun _ _ => trivial) (fun _ _ _ _ _ _ _ => trivial) (fun _ => rfl)
    (fun pre W => ((∃ v, Boxed W w.heap.size 30 v ∧ W.ownsRow w.heap.size 3 1 v (idsQ pre).length ((idsQ pre).map (Value.int .i64)) ∧ True)) ∧ Below w.heap.size w W)
    (fun _ _ _ => False) hI0 (fun _ _ _ _ _ h _ _ => h)
    (fun s X Y hs hc => hI0 s X Y none hs (Chg.grown (hc.mono (fun k _ h => h.elim))) (fun r e => by cases e))
    (fun _ _ _ _ h _ => h)
    ⟨⟨_, bO0, World.ownsRow_nil _ _ _ _, trivial⟩, hB0⟩
    (fun (x : { p : Int × Value // Q p }) a' W => a' = { tmps := #[mv, .int .i64 no, undef, undef, .slice none 0 0, .pointer (some ⟨w.heap.size, 0, none⟩), .int .i64 x.val.1, mv, .int .i64 no, .func (.func 48) #[] #[.pointer (some ⟨w.heap.size + 1, 0, none⟩), .pointer (some ⟨w.heap.size + 1 + 1, 0, none⟩)], .int .i64 x.val.1, x.val.2, undef, undef, undef, undef, undef], defers := [] })
    (fun x a' _ X Y row hs hg hr => hs)
    ?assign ?body ?done ?stop
  case assign =>
    rintro l pre ⟨⟨x1, x2⟩, hq⟩ W K hI hK
    simp only [encQ, encR]
    gi_wp2
    exact hK _ _ ⟨Nat.le_refl _, fun _ _ _ ho _ => ho⟩ trivial hI rfl
  case body =>
    rintro l pre ⟨⟨x1, x2⟩, hq⟩ a' W hl ⟨r, hr⟩ ⟨⟨v, hv, hrow, _⟩, hB⟩ rfl hlt
    have hc := hv.cell
    have hpl : (idsQ pre).length ≤ 1 := by simp [idsQ]; omega
    gi_wp2_with (gi_at_builtin; refine wpListIn_append_own _ rfl _ _ 30 rfl w.heap.size 3 i0 (.int .i64 0) 1 8 Try.underlying30 hi hz0 hz1 hz2 rfl (by decide) _ _ _ rfl (hrow.alloc _) ⟨W.heap.size, 0, none⟩ 1 1 [.int .i64 x1] rfl rfl (cell_one_new _ _ _) (by simp [Value.oneCell']) (by unfold maxLen; omega) (by omega) (by have := hv.lt; simp; omega) ?_; intro v' w1 hown' hgrow _; obtain ⟨g', cap', rfl⟩ := ownsRow_succ hown'; obtain ⟨hv1, hv2, hr2, hk2, hb2⟩ := hv.appended (by decide) hrow (Nat.le_of_lt hv.lt) (Nat.le_refl _) hown' hgrow; have hc1 := hv1.cell; have hf1 := hv1.frozen)
    exact ⟨hk2.from _, trivial, ⟨_, hv2, by rw [idsQ_more]; simpa using hr2⟩, hB.trans hb2⟩
  case done =>
    rintro D ys W hD hys ⟨⟨v, hv, hrow, _⟩, hB⟩ hK
    rw [idsQ_of hys] at hrow
    have hc := hv.cell
    have hR := R_of_row hrow
    gi_wp2
    have hput : Chg W (W.putObj D (.deferred none)) (fun k => k = D) := (Chg.of_grown (grownBy_putObj' W D (.deferred none))).mono (fun k _ h => Option.some.inj h)
    refine ⟨by simp, .inl ⟨_, _, rfl, run_takeDeferred hK, ?_⟩⟩
    refine ⟨_, results_tmp rfl _ _ _, v, rfl, ints_up (R_chg hR hput (fun k q cells _ _ hk e => by
      subst e
      rw [hK] at hk
      cases hk)), ?_⟩
    exact hB.trans (belowK_b (w := w) (Nat.le_refl _) W D _ _ (by omega) hK rfl rfl)
  case stop =>
    rintro D c pre W _ _ h _
    exact h.elim
end Go.Proofs.Ytdammjolkcjogaa

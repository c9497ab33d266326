import Derived.Test.YtljahhgankcalaaHidM
import Derived.Test.YtljahhgankcalaaG8
import Derived.Maps.AppendAt
/-! (*Heap).Tables: the tables that have a tuple, rising. -/
namespace Go.Proofs.Ytljahhgankcalaa
open Go.RowKit Go.Maps Go.MapKept Go.WideMaps Go.Shelf
open Go.Proofs.YtljahhgankcalaaW.PrintWords Go.Proofs.YtljahhgankcalaaW.PrintLast Go.Proofs.YtljahhgankcalaaW.PrintMore
open PHeapThere
attribute [local go_sem] Oper.semAt_some
set_option linter.unusedVariables false
set_option linter.unusedSimpArgs false

/-- These are the tables that have a tuple. -/
def AH.IsTabs (A : AH) (l : List Int) : Prop := l.Pairwise (· < ·) ∧ ∀ x, x ∈ l ↔ ∃ id, A.rows (x, id) ≠ []
def tabsOf (pre : List (Int × Int)) : List Int := pre.map (·.1)
theorem tabsOf_more (pre : List (Int × Int)) (x1 x2 : Int) : tabsOf (pre ++ [(x1, x2)]) = tabsOf pre ++ [x1] := by simp [tabsOf]
theorem tabsOf_len (pre : List (Int × Int)) : (tabsOf pre).length = pre.length := by simp [tabsOf]

set_option maxRecDepth 100000 in
set_option maxHeartbeats 4000000 in
theorem tabs_of {w : World} {h : Nat} {A : AH} {FF : Nat → Prop} (HH : HeapIs w h A FF) (hA : A.Ok) (hl : A.slots.length < 17592186044000) : Calls Try.prog 35 #[.pointer (some ⟨h, 0, none⟩)] w fun e w' =>
    ∃ v l, e = .returned v ∧ Kd.R (Kd.int .i64) 3 w' 0 (fun k => w.heap.size ≤ k) v l ∧ A.IsTabs l ∧ Below w.heap.size w w' := by
  obtain ⟨sv, rb, gb, rg, gg, H⟩ := HH
  have hN := keys_few H hA
  have hIn : ∀ ss : List (Int × Int), (∀ x, x ∈ ss ↔ ∃ v, rg x = some v) → A.IsTabs (Lib.compact (srt (tabsOf ss))) := fun ss h2 => by
    have hc := compact_facts (srt_sorted (tabsOf ss))
    refine ⟨hc.1, fun x => ?_⟩
    rw [hc.2.1, (srt_perm _).mem_iff]
    unfold tabsOf
    rw [List.mem_map]
    constructor
    · rintro ⟨p, hp, rfl⟩
      obtain ⟨v, hv⟩ := (h2 p).1 hp
      exact ⟨p.2, (H.rowv _ v hv).2⟩
    · rintro ⟨id, hne⟩
      refine ⟨(x, id), (h2 _).2 ?_, rfl⟩
      cases hr : rg (x, id) with
      | none => exact absurd (H.rown _ hr) hne
      | some v => exact ⟨v, rfl⟩
  obtain ⟨i0, hi, hz0, hz1, hz2⟩ := info_parts Try.infoInt
  have bO := Boxed.new w 53 (.slice none 0 0)
  have hb2 : Below w.heap.size w (w.alloc (.cells #[.slice none 0 0] 53)) := (Below.refl _ w).alloc (Nat.le_refl _) _
  have H2 := H.chg (Chg.of_below hb2 (fun _ => False)) (fun _ _ h => h)
  have hrc := rows_calls H2
  have hmap := H2.rmap
  clear H2 H hA
  refine (callsIn_wide (n := 6)).1 ?_
  refine callsIn_of_wp_marks Try.func35 rfl trivial ?_ rfl
  simp only [Try.ntmps35, List.size_toArray, List.length_cons, List.length_nil, Nat.reduceAdd, Nat.reduceSub, Array.replicate_succ, Array.replicate_zero, List.push_toArray, List.append_toArray, List.nil_append, List.cons_append]
  gi_wp2_with (refine ⟨trivial, ?_⟩; gi_at_call 76; refine (callsIn_wide.2 hrc).mono ?_; rintro e w' ⟨rfl, rfl⟩)
  have bM := Boxed.new (w.alloc (.cells #[.slice none 0 0] 53)) 103 (.map (some rb))
  rw [World.size_alloc] at bM
  have hB0 := hb2.alloc (by simp) (.cells #[.map (some rb)] 103)
  have hsz : ((w.alloc (.cells #[.slice none 0 0] 53)).alloc (.cells #[.map (some rb)] 103)).heap.size = w.heap.size + 2 := by simp
  replace bO := bO.alloc (.cells #[.map (some rb)] 103)
  replace hmap := hmap.alloc (.cells #[.map (some rb)] 103)
  try simp only [World.size_alloc]
  obtain ⟨W0, hW0⟩ : ∃ W0, (w.alloc (.cells #[.slice none 0 0] 53)).alloc (.cells #[.map (some rb)] 103) = W0 := ⟨_, rfl⟩
  rw [hW0] at bM bO hmap hB0 hsz ⊢
  clear hW0 hb2 hrc
  refine wpIn_rangeFunc_ownH rfl (by omega) (gf := 107) (lb := #[.pointer (some ⟨w.heap.size + 1, 0, none⟩)]) rfl trivial (enters_of Try.func107 (by kernel_rfl) rfl)
    (keysW_stops Fence.wide _ trivial rfl (by omega) (w.heap.size + 1) rb A.slots.length rg hN W0 bM.cell hmap) walksK_t walksK_b (Below.refl _ _) (fun _ => rfl)
    (fun pre W => ((∃ v, Boxed W w.heap.size 53 v ∧ W.ownsRow w.heap.size 3 1 v (tabsOf pre).length ((tabsOf pre).map (Value.int .i64)) ∧ True)) ∧ Below w.heap.size w W)
    (fun _ _ _ => False)
    (OwnFrom.and (Own.from (holdsRow_own w.heap.size w.heap.size 53 3 1 (fun pre => (tabsOf pre).length) (fun pre => (tabsOf pre).map (Value.int .i64)) (fun _ _ => True)) _) (ownFrom_below (Nat.le_refl _) (by omega)))
    (fun _ _ _ _ _ hs _ _ => hs)
    ⟨⟨_, bO, World.ownsRow_nil _ _ _ _, trivial⟩, hB0⟩
    (fun x a' W => ∃ Bx, w.heap.size < Bx ∧ W.heap[Bx]? = some (.cells #[.int .i64 x.1, .int .i64 x.2] 128 (0, 0)) ∧ a' = { tmps := #[.pointer (some ⟨h, 0, none⟩), undef, .slice none 0 0, .pointer (some ⟨w.heap.size, 0, none⟩), .pointer (some ⟨Bx, 0, none⟩), .pointer (some ⟨h, 0, none⟩), .func (.func 107) #[] #[.pointer (some ⟨w.heap.size + 1, 0, none⟩)], .agg #[.int .i64 x.1, .int .i64 x.2], undef, undef, undef, undef, undef, undef, undef, undef, undef], defers := [] })
    (fun x a' _ X Y row hs hg hr => by obtain ⟨Bx, h1, h2, h3⟩ := hs; exact ⟨Bx, h1, pair_own Bx _ _ () X Y row h2 hg (fun r e => (hr r e).2), h3⟩)
    ?assign ?body ?done ?stop
  case assign =>
    rintro l pre ⟨x1, x2⟩ W K ⟨⟨v, hv, hrow, _⟩, hB⟩ hK
    simp only [kvW]
    gi_wp2
    exact hK _ _ ((KeepsOthers.alloc _ _).from _) (KeepsWalks.alloc _ _) ⟨⟨v, hv.alloc _, hrow.alloc _, trivial⟩, hB.alloc hB.size _⟩ ⟨W.heap.size, hv.lt, World.alloc_heap_new W _, rfl⟩
  case body =>
    rintro l pre ⟨x1, x2⟩ a' W hl ⟨r, hr⟩ ⟨⟨v, hv, hrow, _⟩, hB⟩ ⟨Bx, hBx, bX, rfl⟩ hlt
    have hc := hv.cell
    have k0 := blk_cell bX 0
    have k1 := blk_cell bX 1
    simp at k0 k1
    have hpl := Nat.le_of_eq (tabsOf_len pre)
    gi_wp2_with (gi_at_builtin; refine wpListIn_append_own _ rfl _ _ 53 rfl w.heap.size 3 i0 (.int .i64 0) 1 8 Try.underlying53 hi hz0 hz1 hz2 rfl (by decide) _ _ _ rfl (hrow.alloc _) ⟨W.heap.size, 0, none⟩ 1 1 [.int .i64 x1] rfl rfl (cell_one_new _ _ _) (by simp [Value.oneCell']) (by unfold maxLen; omega) (by omega) (by have := hv.lt; simp; omega) ?_; intro v' w1 hown' hgrow _; obtain ⟨g', cap', rfl⟩ := ownsRow_succ hown'; obtain ⟨hv1, hv2, hr2, hk2, hb2⟩ := hv.appended (by decide) hrow (Nat.le_of_lt hv.lt) (Nat.le_refl _) hown' hgrow; have hc1 := hv1.cell; have hf1 := hv1.frozen)
    exact ⟨hk2.from _, walks_of_others hk2, ⟨_, hv2, by rw [tabsOf_more]; simpa using hr2⟩, hB.trans hb2⟩
  case done =>
    rintro D ys W hD ⟨hy1, hy2⟩ ⟨⟨v, hv, hrow, _⟩, hB⟩ hK
    have hc := hv.cell
    have hR := R_of_row hrow
    have hyl := tabsOf_len ys
    have hyn := hN ys hy1 (fun x hx => (hy2 x).1 hx)
    have hsort := sortInt_calls v _ _ _ _ hR (by omega)
    have hnr := hv.not_row (by decide) hrow
    have hcomp : ∀ W2, Kd.R (Kd.int .i64) 3 W2 0 (fun k => w.heap.size ≤ k) v (srt (tabsOf ys)) → _ := fun W2 hR2 => compactInt_calls v _ _ _ W2 hR2 (by rw [(srt_perm _).length_eq]; omega) (srt_sorted _)
    gi_wp2_with (first
      | (refine ⟨trivial, ?_⟩; gi_at_call 77; refine (callsIn_wide.2 hsort).mono ?_; rintro e w2 ⟨rfl, hR2, hg2⟩; have hv3 := hv.kept hg2 hnr; have hc3 := hv3.cell; replace hcomp := hcomp w2 hR2)
      | (refine ⟨trivial, ?_⟩; gi_at_call 78; refine (callsIn_wide.2 hcomp).mono ?_; rintro e w' ⟨v1, rfl, hvb, hR3, hg3⟩))
    have hne : some D ≠ v.ownBlock := fun e => by
      obtain ⟨_, cells, hcc⟩ := R_block hR e.symm
      rw [hK] at hcc
      cases hcc
    have hK2 : w2.heap[D]? = some (.deferred (some [])) := (hg2.block D (Array.getElem?_eq_some_iff.1 hK).1 hne).trans hK
    have hK3 : w'.heap[D]? = some (.deferred (some [])) := (hg3.block D (Array.getElem?_eq_some_iff.1 hK2).1 hne).trans hK2
    have hput : Chg w' (w'.putObj D (.deferred none)) (fun k => k = D) := (Chg.of_grown (grownBy_putObj' w' D (.deferred none))).mono (fun k _ h => Option.some.inj h)
    refine ⟨by simp, .inl ⟨_, _, rfl, run_takeDeferred hK3, ?_⟩⟩
    refine ⟨_, results_tmp rfl _ _ _, v1, _, rfl, Kd.R_mono (R_chg hR3 hput (fun k q cells _ _ hk e => by
      subst e
      rw [hK3] at hk
      cases hk)) (fun k hk => by omega), hIn ys hy2, ?_⟩
    have hB2 := hB.grown hg2 hB.size (fun k e => by have := hR.1 k e; omega)
    exact (hB2.grown hg3 hB2.size (fun k e => by have := hR.1 k e; omega)).trans (belowK_b (w := w) (Nat.le_refl _) w' D _ _ (by omega) hK3 rfl rfl)
  case stop =>
    rintro D c pre W _ _ h _
    exact h.elim
end Go.Proofs.Ytljahhgankcalaa

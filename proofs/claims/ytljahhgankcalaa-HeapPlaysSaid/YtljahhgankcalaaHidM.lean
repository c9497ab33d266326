import Derived.Test.YtljahhgankcalaaHksM
import Derived.Test.YtljahhgankcalaaG8
import Derived.Test.YtljahhgankcalaaG3
import Derived.Maps.AppendAt
/-! (*Heap).IDs: the rows of a table that have a tuple, rising. -/
namespace Go.Proofs.Ytljahhgankcalaa
open Go.RowKit Go.Maps Go.MapKept Go.WideMaps Go.Shelf
open Go.Proofs.YtljahhgankcalaaW.PrintWords Go.Proofs.YtljahhgankcalaaW.PrintLast Go.Proofs.YtljahhgankcalaaW.PrintMore
open PHeapThere
attribute [local go_sem] Oper.semAt_some
set_option linter.unusedVariables false
set_option linter.unusedSimpArgs false

/-- These are the rows of the table that have a tuple. -/
def AH.IsIDs (A : AH) (no : Int) (l : List Int) : Prop := l.Pairwise (· < ·) ∧ ∀ x, x ∈ l ↔ A.rows (no, x) ≠ []

theorem keys_few {w : World} {h : Nat} {A : AH} {F : Nat → Prop} {sv : Value} {rb gb : Nat} {rg : Int × Int → Option Value} {gg : Int → Option Int} (H : HeapAt w h A F sv rb gb rg gg) (hA : A.Ok) (ss : List (Int × Int)) (hn : ss.Nodup) (ht : ∀ x ∈ ss, ∃ v, rg x = some v) : ss.length ≤ A.slots.length := by
  have hh : ∀ p ∈ ss, (A.rows p).headD 0 ∈ A.rows p := fun p hp => by
    obtain ⟨v, hv⟩ := ht p hp
    have := (H.rowv p v hv).2
    cases hr : A.rows p with
    | nil => exact absurd hr this
    | cons a l => simp
  have := nodup_below A.slots.length (ss.map fun p => (A.rows p).headD 0) (by
    unfold List.Nodup
    rw [List.pairwise_map]
    refine List.Pairwise.imp_of_mem (fun {a b} ha hb hne he => ?_) hn
    have h1 := (hA.rows a _).1 (hh a ha)
    have h2 := (hA.rows b _).1 (hh b hb)
    rw [he] at h1
    exact hne (h1.2.symm.trans h2.2)) (fun x hx => by
    obtain ⟨p, hp, rfl⟩ := List.mem_map.1 hx
    have h1 := (hA.rows p _).1 (hh p hp)
    have := (A.there_iff _).1 h1.1
    omega)
  simpa using this

/-- What the loop has collected. -/
def idsOf (no : Int) (pre : List (Int × Int)) : List Int := (pre.filter fun p => p.1 == no).map (·.2)
theorem idsOf_hit (no : Int) (pre : List (Int × Int)) {x1 x2 : Int} (h : (x1 == no) = true) : idsOf no (pre ++ [(x1, x2)]) = idsOf no pre ++ [x2] := by simp [idsOf, List.filter_append, h]
theorem idsOf_miss (no : Int) (pre : List (Int × Int)) {x1 x2 : Int} (h : (x1 == no) = false) : idsOf no (pre ++ [(x1, x2)]) = idsOf no pre := by simp [idsOf, List.filter_append, h]
theorem idsOf_len (no : Int) (pre : List (Int × Int)) : (idsOf no pre).length ≤ pre.length := by
  simp only [idsOf, List.length_map]
  exact List.length_filter_le _ _
theorem idsOf_nodup (no : Int) {pre : List (Int × Int)} (h : pre.Nodup) : (idsOf no pre).Nodup := by
  unfold idsOf List.Nodup
  rw [List.pairwise_map]
  refine List.Pairwise.imp_of_mem (fun {a b} ha hb hne he => ?_) (h.filter _)
  have h1 := (List.mem_filter.1 ha).2
  have h2 := (List.mem_filter.1 hb).2
  simp at h1 h2
  exact hne (Prod.ext (h1.trans h2.symm) he)
theorem mem_idsOf (no : Int) (pre : List (Int × Int)) (x : Int) : x ∈ idsOf no pre ↔ (no, x) ∈ pre := by
  unfold idsOf
  rw [List.mem_map]
  constructor
  · rintro ⟨⟨a, b⟩, hp, rfl⟩
    have := List.mem_filter.1 hp
    obtain ⟨h1, h2⟩ := this
    simp at h2
    subst h2
    exact h1
  · intro h
    exact ⟨(no, x), List.mem_filter.2 ⟨h, by simp⟩, rfl⟩

theorem pair_own {β : Type} (Bx : Nat) (t : TypeId) (cs : Array Value) : Own (fun (_ : β) W => W.heap[Bx]? = some (.cells cs t (0, 0))) := fun s X Y row hs hg hr =>
  (hg.block Bx (Array.getElem?_eq_some_iff.1 hs).1 (fun e => by
    obtain ⟨o, ho, hc⟩ := hr Bx e.symm
    rw [hs] at ho; cases ho; cases hc)).trans hs

theorem walks_of_others {A B : World} (h : KeepsOthers A B) : KeepsWalks A B := ⟨h.size, fun k o hk hw => h.same k o hk (Obj.not_cells_of_walk hw)⟩
theorem R_of_row {w : World} {base e : Nat} {v : Value} {xs : List Int} (h : w.ownsRow base e 1 v xs.length (xs.map (Value.int .i64))) : Kd.R (Kd.int .i64) e w 0 (fun k => base ≤ k) v xs := by
  refine Kd.R_of_own ⟨h.1, ?_⟩ (fun k hk => ?_)
  · rcases h.2 with h2 | ⟨g, cap, cur, h1, h2, h3⟩
    · exact .inl h2
    · exact .inr ⟨g, cap, cur, h1, Nat.zero_le _, h3⟩
  · rcases h.2 with ⟨rfl, _⟩ | ⟨g, cap, cur, rfl, hgb, _⟩
    · cases hk
    · have : g = k := by simpa [Value.ownBlock] using hk
      omega

set_option maxRecDepth 100000 in
set_option maxHeartbeats 4000000 in
theorem ids_of {w : World} {h : Nat} {A : AH} {FF : Nat → Prop} (no : Int) (HH : HeapIs w h A FF) (hA : A.Ok) (hl : A.slots.length < 17592186044000) : Calls Try.prog 36 #[.pointer (some ⟨h, 0, none⟩), .int .i64 no] w fun e w' =>
    ∃ v l, e = .returned v ∧ Kd.R (Kd.int .i64) 3 w' 0 (fun k => w.heap.size ≤ k) v l ∧ A.IsIDs no l ∧ Below w.heap.size w w' := by
  obtain ⟨sv, rb, gb, rg, gg, H⟩ := HH
  have hN := keys_few H hA
  have hIn : ∀ ss : List (Int × Int), ss.Nodup → (∀ x, x ∈ ss ↔ ∃ v, rg x = some v) → A.IsIDs no (srt (idsOf no ss)) := fun ss h1 h2 => ⟨srt_rise (idsOf_nodup no h1), fun x => by
    rw [(srt_perm _).mem_iff, mem_idsOf, h2]
    constructor
    · rintro ⟨v, hv⟩; exact (H.rowv _ v hv).2
    · intro hne
      cases hr : rg (no, x) with
      | none => exact absurd (H.rown _ hr) hne
      | some v => exact ⟨v, rfl⟩⟩
  obtain ⟨i0, hi, hz0, hz1, hz2⟩ := info_parts Try.infoInt
  have bN := Boxed.new w 3 (.int .i64 no)
  obtain ⟨w1, hw1⟩ : ∃ w1, w.alloc (.cells #[.int .i64 no] 3) = w1 := ⟨_, rfl⟩
  have bO := Boxed.new w1 53 (.slice none 0 0)
  have s1 : w1.heap.size = w.heap.size + 1 := by rw [← hw1]; simp
  have hb2 : Below w.heap.size w (w1.alloc (.cells #[.slice none 0 0] 53)) := by
    rw [← hw1]; exact ((Below.refl _ w).alloc (Nat.le_refl _) _).alloc (by simp) _
  rw [hw1] at bN
  have H2 := H.chg (Chg.of_below hb2 (fun _ => False)) (fun _ _ h => h)
  have hrc := rows_calls H2
  have hmap := H2.rmap
  clear H2 H hA
  refine (callsIn_wide (n := 6)).1 ?_
  refine callsIn_of_wp_marks Try.func36 rfl trivial ?_ rfl
  simp only [Try.ntmps36, List.size_toArray, List.length_cons, List.length_nil, Nat.reduceAdd, Nat.reduceSub, Array.replicate_succ, Array.replicate_zero, List.push_toArray, List.append_toArray, List.nil_append, List.cons_append]
  gi_wp2_with (refine ⟨trivial, ?_⟩; gi_at_call 76; refine (callsIn_wide.2 hrc).mono ?_; rintro e w' ⟨rfl, rfl⟩)
  have bM := Boxed.new (w1.alloc (.cells #[.slice none 0 0] 53)) 103 (.map (some rb))
  rw [World.size_alloc, s1] at bM
  rw [s1] at bO
  have hB0 := hb2.alloc (by simp; omega) (.cells #[.map (some rb)] 103)
  have hsz : ((w1.alloc (.cells #[.slice none 0 0] 53)).alloc (.cells #[.map (some rb)] 103)).heap.size = w.heap.size + 3 := by simp; omega
  replace bO := bO.alloc (.cells #[.map (some rb)] 103)
  replace bN := (bN.alloc (.cells #[.slice none 0 0] 53)).alloc (.cells #[.map (some rb)] 103)
  replace hmap := hmap.alloc (.cells #[.map (some rb)] 103)
  try simp only [World.size_alloc, s1]
  obtain ⟨W0, hW0⟩ : ∃ W0, (w1.alloc (.cells #[.slice none 0 0] 53)).alloc (.cells #[.map (some rb)] 103) = W0 := ⟨_, rfl⟩
  rw [hW0] at bM bO bN hmap hB0 hsz ⊢
  clear hW0 hw1 hb2 hrc s1
  refine wpIn_rangeFunc_ownH rfl (by omega) (gf := 107) (lb := #[.pointer (some ⟨w.heap.size + 1 + 1, 0, none⟩)]) rfl trivial (enters_of Try.func107 (by kernel_rfl) rfl)
    (keysW_stops Fence.wide _ trivial rfl (by omega) (w.heap.size + 1 + 1) rb A.slots.length rg hN W0 bM.cell hmap) walksK_t walksK_b (Below.refl _ _) (fun _ => rfl)
    (fun pre W => ((∃ v, Boxed W (w.heap.size + 1) 53 v ∧ W.ownsRow (w.heap.size + 1) 3 1 v (idsOf no pre).length ((idsOf no pre).map (Value.int .i64)) ∧ True) ∧ Boxed W w.heap.size 3 (.int .i64 no)) ∧ Below w.heap.size w W)
    (fun _ _ _ => False)
    (OwnFrom.and (OwnFrom.and (Own.from (holdsRow_own (w.heap.size + 1) (w.heap.size + 1) 53 3 1 (fun pre => (idsOf no pre).length) (fun pre => (idsOf no pre).map (Value.int .i64)) (fun _ _ => True)) _) (Own.from (boxed_own _ _ _) _)) (ownFrom_below (Nat.le_refl _) (by omega)))
    (fun _ _ _ _ _ hs _ _ => hs)
    ⟨⟨⟨_, bO, World.ownsRow_nil _ _ _ _, trivial⟩, bN⟩, hB0⟩
    (fun x a' W => ∃ Bx, w.heap.size + 1 < Bx ∧ W.heap[Bx]? = some (.cells #[.int .i64 x.1, .int .i64 x.2] 128 (0, 0)) ∧ a' = { tmps := #[.pointer (some ⟨h, 0, none⟩), .int .i64 no, undef, .pointer (some ⟨w.heap.size, 0, none⟩), .slice none 0 0, .pointer (some ⟨w.heap.size + 1, 0, none⟩), .pointer (some ⟨Bx, 0, none⟩), .pointer (some ⟨h, 0, none⟩), .func (.func 107) #[] #[.pointer (some ⟨w.heap.size + 1 + 1, 0, none⟩)], .agg #[.int .i64 x.1, .int .i64 x.2], undef, undef, undef, undef, undef, undef, undef, undef, undef, undef, undef, undef], defers := [] })
    (fun x a' _ X Y row hs hg hr => by obtain ⟨Bx, h1, h2, h3⟩ := hs; exact ⟨Bx, h1, pair_own Bx _ _ () X Y row h2 hg (fun r e => (hr r e).2), h3⟩)
    ?assign ?body ?done ?stop
  case assign =>
    rintro l pre ⟨x1, x2⟩ W K ⟨⟨⟨v, hv, hrow, _⟩, hn⟩, hB⟩ hK
    simp only [kvW]
    gi_wp2
    exact hK _ _ ((KeepsOthers.alloc _ _).from _) (KeepsWalks.alloc _ _) ⟨⟨⟨v, hv.alloc _, hrow.alloc _, trivial⟩, hn.alloc _⟩, hB.alloc hB.size _⟩ ⟨W.heap.size, hv.lt, World.alloc_heap_new W _, rfl⟩
  case body =>
    rintro l pre ⟨x1, x2⟩ a' W hl ⟨r, hr⟩ ⟨⟨⟨v, hv, hrow, _⟩, hn⟩, hB⟩ ⟨Bx, hBx, bX, rfl⟩ hlt
    have hc := hv.cell
    have cn := hn.cell
    have k0 := blk_cell bX 0
    have k1 := blk_cell bX 1
    simp at k0 k1
    have hpl := idsOf_len no pre
    cases hq : (x1 == no) with
    | true =>
      gi_wp2_with (gi_at_builtin; refine wpListIn_append_own _ rfl _ _ 53 rfl (w.heap.size + 1) 3 i0 (.int .i64 0) 1 8 Try.underlying53 hi hz0 hz1 hz2 rfl (by decide) _ _ _ rfl (hrow.alloc _) ⟨W.heap.size, 0, none⟩ 1 1 [.int .i64 x2] rfl rfl (cell_one_new _ _ _) (by simp [Value.oneCell']) (by unfold maxLen; omega) (by omega) (by have := hv.lt; simp; omega) ?_; intro v' w1 hown' hgrow _; obtain ⟨g', cap', rfl⟩ := ownsRow_succ hown'; obtain ⟨hv1, hv2, hr2, hk2, hb2⟩ := hv.appended (by decide) hrow (Nat.le_of_lt hv.lt) (Nat.le_refl _) hown' hgrow; have hc1 := hv1.cell; have hf1 := hv1.frozen)
      exact ⟨hk2.from _, walks_of_others hk2, ⟨⟨_, hv2, by rw [idsOf_hit no pre hq]; simpa using hr2⟩, (hb2.block _ (by omega)).trans hn⟩, hB.trans (hb2.mono (by omega))⟩
    | false =>
      gi_wp2
      exact ⟨KeepsFrom.refl _ _, KeepsWalks.refl _, ⟨⟨v, hv, by rw [idsOf_miss no pre hq]; exact hrow⟩, hn⟩, hB⟩
  case done =>
    rintro D ys W hD ⟨hy1, hy2⟩ ⟨⟨⟨v, hv, hrow, _⟩, hn⟩, hB⟩ hK
    have hc := hv.cell
    have hR := R_of_row hrow
    have hyl := idsOf_len no ys
    have hyn := hN ys hy1 (fun x hx => (hy2 x).1 hx)
    have hsort := sortInt_calls v _ _ _ _ hR (by omega)
    have hnr := hv.not_row (by decide) hrow
    gi_wp2_with (refine ⟨trivial, ?_⟩; gi_at_call 77; refine (callsIn_wide.2 hsort).mono ?_; rintro e w' ⟨rfl, hR2, hg2⟩; have hv3 := hv.kept hg2 hnr; have hc3 := hv3.cell)
    have hK3 : w'.heap[D]? = some (.deferred (some [])) := (hg2.block D (Array.getElem?_eq_some_iff.1 hK).1 (fun e => by
      obtain ⟨_, cells, hcc⟩ := R_block hR e.symm
      rw [hK] at hcc
      cases hcc)).trans hK
    have hput : Chg w' (w'.putObj D (.deferred none)) (fun k => k = D) := (Chg.of_grown (grownBy_putObj' w' D (.deferred none))).mono (fun k _ h => Option.some.inj h)
    refine ⟨by simp, .inl ⟨_, _, rfl, run_takeDeferred hK3, ?_⟩⟩
    refine ⟨_, results_tmp rfl _ _ _, v, _, rfl, Kd.R_mono (R_chg hR2 hput (fun k q cells _ _ hk e => by
      subst e
      rw [hK3] at hk
      cases hk)) (fun k hk => by omega), hIn ys hy1 hy2, ?_⟩
    exact (hB.grown hg2 hB.size (fun k e => by have := hR.1 k e; omega)).trans (belowK_b (w := w) (Nat.le_refl _) w' D _ _ (by omega) hK3 rfl rfl)
  case stop =>
    rintro D c pre W _ _ h _
    exact h.elim
end Go.Proofs.Ytljahhgankcalaa

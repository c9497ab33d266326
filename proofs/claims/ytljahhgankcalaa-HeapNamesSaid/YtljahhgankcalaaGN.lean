import Derived.Test.YtljahhgankcalaaHidM
import Derived.Test.YtljahhgankcalaaHtbM
import Derived.Test.YtljahhgankcalaaG3
import Derived.Test.YtljahhgankcalaaHaM
import Derived.Test.YtljahhgankcalaaG5
import Derived.Test.YtljahhgankcalaaHtpM
/-! What is told of nil: each method of a heap that is nil, but for IDs and Tables. -/
namespace Go.Proofs.Ytljahhgankcalaa
open Go.RowKit Go.Maps Go.MapKept Go.WideMaps
open Go.Proofs.YtljahhgankcalaaW.PrintWords Go.Proofs.YtljahhgankcalaaW.PrintLast Go.Proofs.YtljahhgankcalaaW.PrintMore
open PHeapThere
set_option linter.unusedVariables false
set_option linter.unusedSimpArgs false

theorem is_nil (s : Int) (w : World) : Calls Try.prog 58 #[.pointer none, .int .i64 s] w fun e w' => e = .returned (.bool false) ∧ w' = w := by
  go_enter Try.func58, Try.ntmps58
  go_wp2
  go_ret
  exact ⟨rfl, rfl⟩
theorem refused_nil (s : Int) (w : World) : Calls Try.prog 81 #[.pointer none, .int .i64 s] w fun e w' => e = .returned (.int .i64 2) ∧ w' = w := by
  go_enter Try.func81, Try.ntmps81
  go_wp2
  go_ret
  exact ⟨rfl, rfl⟩
theorem kill_nil (s x c : Int) (w : World) : Calls Try.prog 40 #[.pointer none, .int .i64 s, .int .i64 x, .int .i64 c] w fun e w' => e = .returned (.int .i64 2) ∧ w' = w := by
  have hi := refused_nil s w
  go_enter Try.func40, Try.ntmps40
  go_wp2_with (go_at_call 81; refine hi.mono ?_; rintro e w' ⟨rfl, rfl⟩)
  go_ret
  exact ⟨rfl, rfl⟩
theorem free_nil (s : Int) (w : World) : Calls Try.prog 41 #[.pointer none, .int .i64 s] w fun e w' => e = .returned (.int .i64 2) ∧ Below w.heap.size w w' := by
  have hi : ∀ W, Calls Try.prog 81 #[.pointer none, .int .i64 s] W fun e w' => e = .returned (.int .i64 2) ∧ w' = W := fun W => refused_nil s W
  go_enter Try.func41, Try.ntmps41
  go_wp2_with (go_at_call 81; refine (hi _).mono ?_; rintro e w' ⟨rfl, rfl⟩)
  go_ret
  exact ⟨rfl, by first | exact Below.refl _ _ | exact (Below.refl _ w).alloc (Nat.le_refl _) _⟩
theorem next_nil (no : Int) (w : World) : Calls Try.prog 42 #[.pointer none, .int .i64 no] w fun e w' => e = .returned (.int .i64 0) ∧ w' = w := by
  go_enter Try.func42, Try.ntmps42
  go_wp2
  go_ret
  exact ⟨rfl, rfl⟩
theorem slots_nil (no id : Int) (w : World) : Calls Try.prog 37 #[.pointer none, .int .i64 no, .int .i64 id] w fun e w' => e = .returned (.slice none 0 0) ∧ w' = w := by
  go_enter Try.func37, Try.ntmps37
  go_wp2
  go_ret
  exact ⟨rfl, rfl⟩
theorem len_nil (w : World) : Calls Try.prog 19 #[.pointer none] w fun e w' => e = .returned (.int .i64 0) ∧ w' = w := by
  go_enter Try.func19, Try.ntmps19
  go_wp2
  go_ret
  exact ⟨rfl, rfl⟩
theorem copy_nil (w : World) : Calls Try.prog 43 #[.pointer none] w fun e w' => e = .returned (.pointer none) ∧ w' = w := by
  go_enter Try.func43, Try.ntmps43
  go_wp2
  go_ret
  exact ⟨rfl, rfl⟩
theorem there_nil (w : World) : Calls Try.prog 76 #[.pointer none] w fun e w' => e = .returned (.func (.func 97) #[] #[]) ∧ w' = w := by
  go_enter Try.func76, Try.ntmps76
  go_wp2
  go_ret
  exact ⟨rfl, rfl⟩
set_option maxRecDepth 100000 in
theorem put_nil (a b c d e f : Int) (A6 : Option Addr) (n6 c6 : Nat) (w : World) : Calls Try.prog 38 #[.pointer none, .agg #[.int .i64 a, .int .i64 b, .int .i64 c, .int .i64 d, .int .i64 e, .int .i64 f, .slice A6 n6 c6]] w fun e w' => e = .returned (.tuple #[.int .i64 0, .int .i64 2]) ∧ Below w.heap.size w w' := by
  go_enter Try.func38, Try.ntmps38
  go_wp2
  go_ret2
  exact ⟨by simp, (Below.refl _ w).alloc (Nat.le_refl _) _⟩
set_option maxRecDepth 100000 in
theorem at_nil (s : Int) (w : World) :
    Calls Try.prog 17 #[.pointer none, .int .i64 s] w fun e w' => e = .returned (.tuple #[.agg #[.int .i64 0, .int .i64 0, .int .i64 0, .int .i64 0, .int .i64 0, .int .i64 0, .slice none 0 0], .bool false]) ∧ Below w.heap.size w w' := by
  have hi : ∀ W, Calls Try.prog 58 #[.pointer none, .int .i64 s] W fun e w' => e = .returned (.bool false) ∧ w' = W := fun W => is_nil s W
  go_enter Try.func17, Try.ntmps17
  go_wp2_with (go_at_call 58; refine (hi _).mono ?_; rintro e w' ⟨rfl, rfl⟩)
  refine bodyPost_ret (results_ct rfl _ _ w.heap.size 39 #[.int .i64 0, .int .i64 0, .int .i64 0, .int .i64 0, .int .i64 0, .int .i64 0, .slice none 0 0] (0, 0) _ rfl (blk_new w _) Try.underlying39 rfl (by kernel_rfl)) rfl ?_
  exact ⟨rfl, (Below.refl _ w).alloc (Nat.le_refl _) _⟩
end Go.Proofs.Ytljahhgankcalaa

/-! IDs and Tables of a heap that is nil. -/
namespace Go.Proofs.Ytljahhgankcalaa
open Go.RowKit Go.Maps Go.MapKept Go.WideMaps Go.Shelf
open Go.Proofs.YtljahhgankcalaaW.PrintWords Go.Proofs.YtljahhgankcalaaW.PrintLast Go.Proofs.YtljahhgankcalaaW.PrintMore
open PHeapThere
attribute [local go_sem] Oper.semAt_some
set_option linter.unusedVariables false
set_option linter.unusedSimpArgs false

theorem none_stops (F : Fence) (n : Nat) (hf : F.fn 97) (hro : F.round = none) (w : World) :
    SeqStopsK F n Try.prog 97 #[] (fun x : Int × Int => #[kvW x]) KeepsWalks (fun ss => ss = []) (fun pre => pre = []) 0 w := fun l J Jx W hW hJ _ hY h0 => by
  refine callsIn_of_wp Try.func97 rfl hf ?_ hro
  simp only [Try.ntmps97, List.size_toArray, List.length_cons, List.length_nil, Nat.reduceAdd, Nat.reduceSub, Array.replicate_succ, Array.replicate_zero, List.push_toArray, List.append_toArray, List.nil_append, List.cons_append]
  gi_wp2
  go_end0
  exact ⟨⟨_, rfl⟩, .inl h0⟩

theorem srt_nil : srt ([] : List Int) = [] := List.Perm.eq_nil (srt_perm _)

set_option maxRecDepth 100000 in
set_option maxHeartbeats 4000000 in
theorem ids_nil {w : World} (no : Int) : Calls Try.prog 36 #[.pointer none, .int .i64 no] w fun e w' =>
    ∃ v, e = .returned v ∧ Kd.R (Kd.int .i64) 3 w' 0 (fun k => w.heap.size ≤ k) v ([] : List Int) ∧ Below w.heap.size w w' := by
  obtain ⟨i0, hi, hz0, hz1, hz2⟩ := info_parts Try.infoInt
  have bN := Boxed.new w 3 (.int .i64 no)
  obtain ⟨w1, hw1⟩ : ∃ w1, w.alloc (.cells #[.int .i64 no] 3) = w1 := ⟨_, rfl⟩
  have bO := Boxed.new w1 53 (.slice none 0 0)
  have s1 : w1.heap.size = w.heap.size + 1 := by rw [← hw1]; simp
  have hb2 : Below w.heap.size w (w1.alloc (.cells #[.slice none 0 0] 53)) := by
    rw [← hw1]; exact ((Below.refl _ w).alloc (Nat.le_refl _) _).alloc (by simp) _
  rw [hw1] at bN
  have hrc := there_nil (w1.alloc (.cells #[.slice none 0 0] 53))
  refine (callsIn_wide (n := 6)).1 ?_
  refine callsIn_of_wp_marks Try.func36 rfl trivial ?_ rfl
  simp only [Try.ntmps36, List.size_toArray, List.length_cons, List.length_nil, Nat.reduceAdd, Nat.reduceSub, Array.replicate_succ, Array.replicate_zero, List.push_toArray, List.append_toArray, List.nil_append, List.cons_append]
  gi_wp2_with (refine ⟨trivial, ?_⟩; gi_at_call 76; refine (callsIn_wide.2 hrc).mono ?_; rintro e w' ⟨rfl, rfl⟩)
  rw [s1] at bO
  have hB0 := hb2
  have hsz : (w1.alloc (.cells #[.slice none 0 0] 53)).heap.size = w.heap.size + 2 := by simp; omega
  replace bN := bN.alloc (.cells #[.slice none 0 0] 53)
  try simp only [World.size_alloc, s1]
  obtain ⟨W0, hW0⟩ : ∃ W0, w1.alloc (.cells #[.slice none 0 0] 53) = W0 := ⟨_, rfl⟩
  rw [hW0] at bO bN hB0 hsz ⊢
  clear hW0 hw1 hb2 hrc s1
  refine wpIn_rangeFunc_ownH rfl (by omega) (gf := 97) (lb := #[]) rfl trivial (enters_of Try.func97 (by kernel_rfl) rfl)
    (none_stops Fence.wide _ trivial rfl W0) walksK_t walksK_b (Below.refl _ _) (fun _ => rfl)
    (fun pre W => ((∃ v, Boxed W (w.heap.size + 1) 53 v ∧ W.ownsRow (w.heap.size + 1) 3 1 v (idsOf no pre).length ((idsOf no pre).map (Value.int .i64)) ∧ True) ∧ Boxed W w.heap.size 3 (.int .i64 no)) ∧ Below w.heap.size w W)
    (fun _ _ _ => False)
    (OwnFrom.and (OwnFrom.and (Own.from (holdsRow_own (w.heap.size + 1) (w.heap.size + 1) 53 3 1 (fun pre => (idsOf no pre).length) (fun pre => (idsOf no pre).map (Value.int .i64)) (fun _ _ => True)) _) (Own.from (boxed_own _ _ _) _)) (ownFrom_below (Nat.le_refl _) (by omega)))
    (fun _ _ _ _ _ hs _ _ => hs)
    ⟨⟨⟨_, bO, World.ownsRow_nil _ _ _ _, trivial⟩, bN⟩, hB0⟩
    (fun x a' W => ∃ Bx, w.heap.size + 1 < Bx ∧ W.heap[Bx]? = some (.cells #[.int .i64 x.1, .int .i64 x.2] 128 (0, 0)) ∧ a' = { tmps := #[.pointer none, .int .i64 no, undef, .pointer (some ⟨w.heap.size, 0, none⟩), .slice none 0 0, .pointer (some ⟨w.heap.size + 1, 0, none⟩), .pointer (some ⟨Bx, 0, none⟩), .pointer none, .func (.func 97) #[] #[], .agg #[.int .i64 x.1, .int .i64 x.2], undef, undef, undef, undef, undef, undef, undef, undef, undef, undef, undef, undef], defers := [] })
    (fun x a' _ X Y row hs hg hr => by obtain ⟨Bx, h1, h2, h3⟩ := hs; exact ⟨Bx, h1, pair_own Bx _ _ () X Y row h2 hg (fun r e => (hr r e).2), h3⟩)
    ?assign ?body ?done ?stop
  case assign =>
    rintro l pre ⟨x1, x2⟩ W K ⟨⟨⟨v, hv, hrow, _⟩, hn⟩, hB⟩ hK
    simp only [kvW]
    gi_wp2
    exact hK _ _ ((KeepsOthers.alloc _ _).from _) (KeepsWalks.alloc _ _) ⟨⟨⟨v, hv.alloc _, hrow.alloc _, trivial⟩, hn.alloc _⟩, hB.alloc hB.size _⟩ ⟨W.heap.size, hv.lt, World.alloc_heap_new W _, rfl⟩
  case body =>
    rintro l pre ⟨x1, x2⟩ a' W hl hr _ _ hlt
    exact absurd hlt (Nat.not_lt_zero _)
  case done =>
    rintro D ys W hD rfl ⟨⟨⟨v, hv, hrow, _⟩, hn⟩, hB⟩ hK
    have hc := hv.cell
    have hR := R_of_row hrow
    rw [show idsOf no [] = [] from rfl] at hR hrow
    have hsort := sortInt_calls v _ _ _ _ hR (by simp)
    have hnr := hv.not_row (by decide) hrow
    gi_wp2_with (refine ⟨trivial, ?_⟩; gi_at_call 77; refine (callsIn_wide.2 hsort).mono ?_; rintro e w' ⟨rfl, hR2, hg2⟩; have hv3 := hv.kept hg2 hnr; have hc3 := hv3.cell)
    have hK3 : w'.heap[D]? = some (.deferred (some [])) := (hg2.block D (Array.getElem?_eq_some_iff.1 hK).1 (fun e => by
      obtain ⟨_, cells, hcc⟩ := R_block hR e.symm
      rw [hK] at hcc
      cases hcc)).trans hK
    have hput : Chg w' (w'.putObj D (.deferred none)) (fun k => k = D) := (Chg.of_grown (grownBy_putObj' w' D (.deferred none))).mono (fun k _ h => Option.some.inj h)
    refine ⟨by simp, .inl ⟨_, _, rfl, run_takeDeferred hK3, ?_⟩⟩
    rw [srt_nil] at hR2
    refine ⟨_, results_tmp rfl _ _ _, v, rfl, Kd.R_mono (R_chg hR2 hput (fun k q cells _ _ hk e => by
      subst e
      rw [hK3] at hk
      cases hk)) (fun k hk => by omega), ?_⟩
    exact (hB.grown hg2 hB.size (fun k e => by have := hR.1 k e; omega)).trans (belowK_b (w := w) (Nat.le_refl _) w' D _ _ (by omega) hK3 rfl rfl)
  case stop =>
    rintro D c pre W _ _ h _
    exact h.elim
set_option maxRecDepth 100000 in
set_option maxHeartbeats 4000000 in
theorem tabs_nil {w : World} : Calls Try.prog 35 #[.pointer none] w fun e w' =>
    ∃ v, e = .returned v ∧ Kd.R (Kd.int .i64) 3 w' 0 (fun k => w.heap.size ≤ k) v ([] : List Int) ∧ Below w.heap.size w w' := by
  obtain ⟨i0, hi, hz0, hz1, hz2⟩ := info_parts Try.infoInt
  have bO := Boxed.new w 53 (.slice none 0 0)
  have hb2 : Below w.heap.size w (w.alloc (.cells #[.slice none 0 0] 53)) := (Below.refl _ w).alloc (Nat.le_refl _) _
  have hrc := there_nil (w.alloc (.cells #[.slice none 0 0] 53))
  refine (callsIn_wide (n := 6)).1 ?_
  refine callsIn_of_wp_marks Try.func35 rfl trivial ?_ rfl
  simp only [Try.ntmps35, List.size_toArray, List.length_cons, List.length_nil, Nat.reduceAdd, Nat.reduceSub, Array.replicate_succ, Array.replicate_zero, List.push_toArray, List.append_toArray, List.nil_append, List.cons_append]
  gi_wp2_with (refine ⟨trivial, ?_⟩; gi_at_call 76; refine (callsIn_wide.2 hrc).mono ?_; rintro e w' ⟨rfl, rfl⟩)
  have hB0 := hb2
  have hsz : (w.alloc (.cells #[.slice none 0 0] 53)).heap.size = w.heap.size + 1 := by simp
  try simp only [World.size_alloc]
  obtain ⟨W0, hW0⟩ : ∃ W0, w.alloc (.cells #[.slice none 0 0] 53) = W0 := ⟨_, rfl⟩
  rw [hW0] at bO hB0 hsz ⊢
  clear hW0 hb2 hrc
  refine wpIn_rangeFunc_ownH rfl (by omega) (gf := 97) (lb := #[]) rfl trivial (enters_of Try.func97 (by kernel_rfl) rfl)
    (none_stops Fence.wide _ trivial rfl W0) walksK_t walksK_b (Below.refl _ _) (fun _ => rfl)
    (fun pre W => ((∃ v, Boxed W w.heap.size 53 v ∧ W.ownsRow w.heap.size 3 1 v (tabsOf pre).length ((tabsOf pre).map (Value.int .i64)) ∧ True)) ∧ Below w.heap.size w W)
    (fun _ _ _ => False)
    (OwnFrom.and (Own.from (holdsRow_own w.heap.size w.heap.size 53 3 1 (fun pre => (tabsOf pre).length) (fun pre => (tabsOf pre).map (Value.int .i64)) (fun _ _ => True)) _) (ownFrom_below (Nat.le_refl _) (by omega)))
    (fun _ _ _ _ _ hs _ _ => hs)
    ⟨⟨_, bO, World.ownsRow_nil _ _ _ _, trivial⟩, hB0⟩
    (fun x a' W => ∃ Bx, w.heap.size < Bx ∧ W.heap[Bx]? = some (.cells #[.int .i64 x.1, .int .i64 x.2] 128 (0, 0)) ∧ a' = { tmps := #[.pointer none, undef, .slice none 0 0, .pointer (some ⟨w.heap.size, 0, none⟩), .pointer (some ⟨Bx, 0, none⟩), .pointer none, .func (.func 97) #[] #[], .agg #[.int .i64 x.1, .int .i64 x.2], undef, undef, undef, undef, undef, undef, undef, undef, undef], defers := [] })
    (fun x a' _ X Y row hs hg hr => by obtain ⟨Bx, h1, h2, h3⟩ := hs; exact ⟨Bx, h1, pair_own Bx _ _ () X Y row h2 hg (fun r e => (hr r e).2), h3⟩)
    ?assign ?body ?done ?stop
  case assign =>
    rintro l pre ⟨x1, x2⟩ W K ⟨⟨v, hv, hrow, _⟩, hB⟩ hK
    simp only [kvW]
    gi_wp2
    exact hK _ _ ((KeepsOthers.alloc _ _).from _) (KeepsWalks.alloc _ _) ⟨⟨v, hv.alloc _, hrow.alloc _, trivial⟩, hB.alloc hB.size _⟩ ⟨W.heap.size, hv.lt, World.alloc_heap_new W _, rfl⟩
  case body =>
    rintro l pre ⟨x1, x2⟩ a' W hl hr _ _ hlt
    exact absurd hlt (Nat.not_lt_zero _)
  case done =>
    rintro D ys W hD rfl ⟨⟨v, hv, hrow, _⟩, hB⟩ hK
    have hc := hv.cell
    have hR := R_of_row hrow
    rw [show tabsOf [] = [] from rfl] at hR hrow
    have hsort := sortInt_calls v _ _ _ _ hR (by simp)
    have hnr := hv.not_row (by decide) hrow
    have hcomp : ∀ W2, Kd.R (Kd.int .i64) 3 W2 0 (fun k => w.heap.size ≤ k) v (srt []) → _ := fun W2 hR2 => compactInt_calls v _ _ _ W2 hR2 (by simp [srt]) (srt_sorted _)
    gi_wp2_with (first
      | (refine ⟨trivial, ?_⟩; gi_at_call 77; refine (callsIn_wide.2 hsort).mono ?_; rintro e w2 ⟨rfl, hR2, hg2⟩; have hv3 := hv.kept hg2 hnr; have hc3 := hv3.cell; replace hcomp := hcomp w2 hR2)
      | (refine ⟨trivial, ?_⟩; gi_at_call 78; refine (callsIn_wide.2 hcomp).mono ?_; rintro e w' ⟨v1, rfl, hvb, hR3, hg3⟩))
    have hne : some D ≠ v.ownBlock := fun e => by
      obtain ⟨_, cells, hcc⟩ := R_block hR e.symm
      rw [hK] at hcc
      cases hcc
    have hK2 : w2.heap[D]? = some (.deferred (some [])) := (hg2.block D (Array.getElem?_eq_some_iff.1 hK).1 hne).trans hK
    have hK3 : w'.heap[D]? = some (.deferred (some [])) := (hg3.block D (Array.getElem?_eq_some_iff.1 hK2).1 hne).trans hK2
    have hput : Chg w' (w'.putObj D (.deferred none)) (fun k => k = D) := (Chg.of_grown (grownBy_putObj' w' D (.deferred none))).mono (fun k _ h => Option.some.inj h)
    refine ⟨by simp, .inl ⟨_, _, rfl, run_takeDeferred hK3, ?_⟩⟩
    rw [srt_nil, show Lib.compact ([] : List Int) = [] from rfl] at hR3
    refine ⟨_, results_tmp rfl _ _ _, v1, rfl, Kd.R_mono (R_chg hR3 hput (fun k q cells _ _ hk e => by
      subst e
      rw [hK3] at hk
      cases hk)) (fun k hk => by omega), ?_⟩
    have hB2 := hB.grown hg2 hB.size (fun k e => by have := hR.1 k e; omega)
    exact (hB2.grown hg3 hB2.size (fun k e => by have := hR.1 k e; omega)).trans (belowK_b (w := w) (Nat.le_refl _) w' D _ _ (by omega) hK3 rfl rfl)
  case stop =>
    rintro D c pre W _ _ h _
    exact h.elim
end Go.Proofs.Ytljahhgankcalaa

/-! The plain heap of HeapNames, step by step; a heap beside a tuple that stands. -/
namespace Go.Proofs.Ytljahhgankcalaa
open Go.RowKit Go.Maps Go.MapKept Go.WideMaps
open Go.Proofs.YtljahhgankcalaaW.PrintWords Go.Proofs.YtljahhgankcalaaW.PrintLast Go.Proofs.YtljahhgankcalaaW.PrintMore
open PHeapThere
set_option linter.unusedVariables false
set_option linter.unusedSimpArgs false

theorem two_rise : ∀ (l l' : List Int), l.Pairwise (· < ·) → l'.Pairwise (· < ·) → (∀ x, x ∈ l ↔ x ∈ l') → l = l'
  | [], [], _, _, _ => rfl
  | [], b :: l', _, _, h => absurd ((h b).2 (by simp)) (by simp)
  | a :: l, [], _, _, h => absurd ((h a).1 (by simp)) (by simp)
  | a :: l, b :: l', h1, h2, h => by
    rw [List.pairwise_cons] at h1 h2
    have e : a = b := by
      have ha := (h a).1 (by simp)
      have hb := (h b).2 (by simp)
      rcases List.mem_cons.1 ha with e | ha
      · exact e
      · rcases List.mem_cons.1 hb with e | hb
        · exact e.symm
        · have := h2.1 a ha
          have := h1.1 b hb
          omega
    subst e
    congr 1
    refine two_rise l l' h1.2 h2.2 (fun x => ⟨fun hx => ?_, fun hx => ?_⟩)
    · rcases List.mem_cons.1 ((h x).1 (by simp [hx])) with e | hx'
      · subst e
        exact absurd (h1.1 x hx) (by omega)
      · exact hx'
    · rcases List.mem_cons.1 ((h x).2 (by simp [hx])) with e | hx'
      · subst e
        exact absurd (h2.1 x hx) (by omega)
      · exact hx'
theorem AH.IsTabs.is {A : AH} {l l' : List Int} (h : A.IsTabs l) (h' : A.IsTabs l') : l = l' := two_rise l l' h.1 h'.1 (fun x => (h.2 x).trans (h'.2 x).symm)
theorem AH.IsIDs.is {A : AH} {no : Int} {l l' : List Int} (h : A.IsIDs no l) (h' : A.IsIDs no l') : l = l' := two_rise l l' h.1 h'.1 (fun x => (h.2 x).trans (h'.2 x).symm)

/-- In w the heap at h reads as A, by blocks of P alone; since wT blocks of P alone have changed. -/
structure StP (P : Nat → Prop) (wT w : World) (h : Nat) (A : AH) : Prop where
  is : HeapIs w h A (fun k => P k ∧ k < w.heap.size)
  chg : Chg wT w P
  new : ∀ k, wT.heap.size ≤ k → P k
section
variable {P : Nat → Prop} {wT w w' : World} {h : Nat} {A A' : AH}
theorem StP.after (H : StP P wT w h A) (h1 : HeapIs w' h A' (ext (fun k => P k ∧ k < w.heap.size) w w')) (h2 : Chg w w' (fun k => P k ∧ k < w.heap.size)) : StP P wT w' h A' := by
  have hs := H.chg.size
  have hs2 := h2.size
  refine ⟨?_, H.chg.trans h2 (fun _ _ h => h) (fun _ _ h => h.1), H.new⟩
  obtain ⟨sv, rb, gb, rg, gg, h1⟩ := h1
  exact ⟨sv, rb, gb, rg, gg, h1.mono (fun k hk => by
    rcases hk with hk | hk
    · exact ⟨hk.1, by omega⟩
    · exact ⟨H.new k (by omega), hk.2⟩) (fun k hk => hk.2)⟩
theorem StP.after0 (H : StP P wT w h A) (h1 : HeapIs w' h A' (fun k => P k ∧ k < w.heap.size)) (h2 : Chg w w' (fun k => P k ∧ k < w.heap.size)) : StP P wT w' h A' :=
  H.after (h1.ext h2.size) h2
theorem StP.below (H : StP P wT w h A) (hB : Below w.heap.size w w') : StP P wT w' h A := H.after (H.is.ext_below hB) (Chg.of_below hB _)
/-- A cell that is none of the heap's is set. -/
theorem StP.set (H : StP P wT w h A) (p : Addr) (v : Value) (hp : ¬ P p.block) : HeapIs (w.setCell p v) h A (fun k => P k ∧ k < w.heap.size) :=
  H.is.chg (S := fun k => k = p.block) ((Chg.refl w (fun k => k = p.block)).setCell (.inl rfl) v) (fun k hk e => hp (e ▸ hk.1))
theorem StP.kill (H : StP P wT w h A) (s x c : Int) :
    Calls Try.prog 40 #[.pointer (some ⟨h, 0, none⟩), .int .i64 s, .int .i64 x, .int .i64 c] w fun e w' => e = .returned (.int .i64 (A.kill s x c).1) ∧ StP P wT w' h (A.kill s x c).2 := by
  refine (kill_calls h s x c A _ w H.is).mono ?_
  rintro e w' ⟨rfl, h1, h2⟩
  exact ⟨rfl, H.after0 h1 h2⟩
theorem StP.puts (H : StP P wT w h A) (hA : A.Ok) (hl : A.slots.length < 2147483648) (t : ATup) (sl : Int) (v6 : Value) {w1 : World} (hB : Below w.heap.size w w1) (hr : Kd.R kVal 91 w1 0 (fun k => ¬ (P k ∧ k < w.heap.size)) v6 t.f6) (hx : t.f6.length < 3518437208883) :
    Calls Try.prog 44 #[.pointer (some ⟨h, 0, none⟩), .agg #[.int .i64 t.f0, .int .i64 t.f1, .int .i64 t.f2, .int .i64 t.f3, .int .i64 t.f4, .int .i64 t.f5, v6], .int .i64 sl] w1 fun e w' =>
      e = .returned (.bool (decide ((A.putE t).1 = sl) && decide ((A.putE t).2.1 = 0))) ∧ StP P wT w' h (A.putE t).2.2 := by
  refine (puts_calls h t sl v6 A (fun k => P k ∧ k < w.heap.size) w1 (H.is.below hB) hA hl hr hx).mono ?_
  rintro e w' ⟨rfl, h1, h2⟩
  exact ⟨rfl, H.after (ext_trans hB.size h2.size h1) (Chg.after_below hB h2)⟩
end
/-- Put, of a tuple that was made since w. -/
theorem St.put {w0 w : World} {h : Nat} {A : AH} (H : St w0 w h A) (hA : A.Ok) (hl : A.slots.length < 2147483648) (t : ATup) (v6 : Value) {w1 : World} (hB : Below w.heap.size w w1) (hr : Kd.R kVal 91 w1 w.heap.size (fun _ => True) v6 t.f6) (hx : t.f6.length < 3518437208883) :
    Calls Try.prog 38 #[.pointer (some ⟨h, 0, none⟩), .agg #[.int .i64 t.f0, .int .i64 t.f1, .int .i64 t.f2, .int .i64 t.f3, .int .i64 t.f4, .int .i64 t.f5, v6]] w1 fun e w' =>
      e = .returned (.tuple #[.int .i64 (A.putE t).1, .int .i64 (A.putE t).2.1]) ∧ St w0 w' h (A.putE t).2.2 := by
  refine (put_calls h t v6 (fun k => ¬ newer w0 w k) A (newer w0 w) w1 (H.is.below hB) hA hl (Kd.R_lower (Kd.R_mono (Kd.R_bound hr) (fun k hk hf => by
    have h1 := hk.2.1
    have h2 := hf.2
    omega)) (Nat.zero_le _)) hx (fun k hk hf => hk hf)).mono ?_
  rintro e w' ⟨rfl, h1, h2⟩
  exact ⟨rfl, H.after (ext_trans hB.size h2.size h1) (Chg.after_below hB h2)⟩

/-- The tuple of HeapNames, and its row. -/
def nRow : List AVal := [⟨3, 0, 0, ⟨#[97]⟩⟩, ⟨0, 0, 0, ⟨#[]⟩⟩]
def nT : ATup := ⟨5, 9, 1, 2, 3, 4, nRow⟩
def nU : ATup := ⟨5, 9, 1, 2, 6, -1, nRow⟩
def nCells : List Value := [.int .u8 3, .int .i64 0, .int .i64 0, .string ⟨#[97]⟩, .int .u8 0, .int .i64 0, .int .i64 0, .string ⟨#[]⟩]
theorem nRow_R (w : World) : Kd.R kVal 91 (w.alloc (.cells nCells.toArray 91)) w.heap.size (fun _ => True) (.slice (some ⟨w.heap.size, 0, none⟩) 2 2) nRow := by
  refine ⟨fun _ _ => trivial, nCells, ?_, ?_⟩
  · have h2 := World.ownsRow_lit (base := w.heap.size) (e := 91) (size := 4) w nCells.toArray 2 (Nat.le_refl _) (by decide) (by rfl)
    exact h2
  · refine ⟨rfl, fun j p hj => ?_⟩
    match j, hj with
    | 0, hj => cases hj; exact k91_mkM _ _ _ ⟨3, 0, 0, ⟨#[97]⟩⟩
    | 1, hj => cases hj; exact k91_mkM _ _ _ ⟨0, 0, 0, ⟨#[]⟩⟩
    | j + 2, hj => simp [nRow] at hj

theorem putE_bad (A : AH) (t : ATup) (h : badTup t) : A.putE t = (0, 1, A) := if_pos h
theorem putE_rows (A : AH) (t : ATup) (h : ¬ badTup t) (q : Int × Int) : (A.putE t).2.2.rows q ≠ [] ↔ q = (t.f0, t.f1) ∨ A.rows q ≠ [] := by
  rw [show A.putE t = ((A.least : Int), 0, A.put t) from if_neg h]
  show (if q = (t.f0, t.f1) then A.rows (t.f0, t.f1) ++ [(A.least : Int)] else A.rows q) ≠ [] ↔ _
  by_cases e : q = (t.f0, t.f1) <;> simp [e]
theorem kill_rows (A : AH) (s x c : Int) : (A.kill s x c).2.rows = A.rows := by
  unfold AH.kill
  split <;> rfl
theorem next_rows (A : AH) (no : Int) : (A.next no).2.rows = A.rows := by
  unfold AH.next
  split <;> rfl

def C1 : AH := (B0.next 1).2
def C2 : AH := (C1.putE nT).2.2
def C3 : AH := (C2.putE (tp 2 3)).2.2
def C4 : AH := (C3.kill 0 7 8).2
def C5 : AH := (C4.kill 0 0 0).2
def C6 : AH := (C5.kill 0 6 (-1)).2
def C7 : AH := (C6.free 0).2
def C8 : AH := (C7.next 5).2
def C9 : AH := (C8.next 2).2
def C10 : AH := (C9.putE (tp 4 2147483647)).2.2
theorem C1_ok : C1.Ok := B0_ok.next 1
theorem C2_ok : C2.Ok := C1_ok.putE _
theorem C3_ok : C3.Ok := C2_ok.putE _
theorem C4_ok : C4.Ok := C3_ok.kill _ _ _
theorem C5_ok : C5.Ok := C4_ok.kill _ _ _
theorem C6_ok : C6.Ok := C5_ok.kill _ _ _
theorem C7_ok : C7.Ok := C6_ok.free _
theorem C8_ok : C8.Ok := C7_ok.next _
theorem C9_ok : C9.Ok := C8_ok.next _
theorem C10_ok : C10.Ok := C9_ok.putE _
theorem C_len : B0.slots.length = 0 ∧ C1.slots.length = 0 ∧ C2.slots.length = 1 ∧ C6.slots.length = 2 ∧ C7.slots.length = 2 ∧ C9.slots.length = 2 := by decide +kernel
theorem C0_there : B0.there 0 = false ∧ B0.there (-1) = false ∧ B0.many = 0 := by decide +kernel
theorem C1_1 : (B0.next 1).1 = 1 := by decide +kernel
theorem C2_1 : (decide ((C1.putE nT).1 = 0) && decide ((C1.putE nT).2.1 = 0)) = true := by decide +kernel
theorem C3_1 : (decide ((C2.putE (tp 2 3)).1 = 1) && decide ((C2.putE (tp 2 3)).2.1 = 0)) = true := by decide +kernel
theorem C4_1 : (C3.kill 0 7 8).1 = 0 := by decide +kernel
theorem C5_1 : (C4.kill 0 0 0).1 = 0 := by decide +kernel
theorem C6_1 : (C5.kill 0 6 (-1)).1 = 0 := by decide +kernel
theorem C6_there : C6.there 0 = true := by decide +kernel
theorem C6_at : C6.at 0 = nU := rfl
theorem C6_atE : C6.atE 0 = nU := by unfold AH.atE; rw [if_pos C6_there]; exact C6_at
theorem C7_1 : (C6.free 0).1 = 0 := by decide +kernel
theorem C7_there : C7.there 0 = false := by decide +kernel
theorem C7_m : C7.many = 1 ∧ C9.many = 1 := by decide +kernel
theorem C8_1 : (C7.next 5).1 = 10 := by decide +kernel
theorem C9_1 : (C8.next 2).1 = 4 := by decide +kernel
theorem C10_1 : (decide ((C9.putE (tp 4 2147483647)).1 = 0) && decide ((C9.putE (tp 4 2147483647)).2.1 = 0)) = true := by decide +kernel
theorem C10_n : C10.next 4 = (0, C10) := if_pos (.inr (.inr (by decide +kernel)))
theorem next_no (A : AH) (no : Int) (h : no < 1 ∨ 2147483647 < no) : A.next no = (0, A) := if_pos (by
  rcases h with h | h
  · exact .inl h
  · exact .inr (.inl h))
theorem free_no (A : AH) (s : Int) (h : A.there s = false) : A.free s = (1, A) := by unfold AH.free; rw [h]; rfl
theorem C6_rows (q : Int × Int) : C6.rows q ≠ [] ↔ q = (2, 3) ∨ q = (5, 9) := by
  have h0 : C1.rows q = [] := rfl
  rw [show C6.rows = C3.rows from by unfold C6 C5 C4; rw [kill_rows, kill_rows, kill_rows]]
  unfold C3 C2
  rw [putE_rows _ _ (by decide), putE_rows _ _ (by decide), h0]
  simp [tp, nT]
theorem C7_rows (q : Int × Int) : C7.rows q ≠ [] ↔ q = (2, 3) := by
  by_cases e : q = (5, 9)
  · subst e
    rw [show C7.rows (5, 9) = [] from by decide +kernel]
    simp
  · have : C7.rows q = C6.rows q := by
      unfold C7 AH.free
      rw [C6_there]
      show (if q = ((C6.at 0).f0, (C6.at 0).f1) then _ else _) = _
      rw [C6_at]
      exact if_neg e
    rw [this, C6_rows]
    simp [e]
theorem C6_tabs : C6.IsTabs [2, 5] := ⟨by decide, fun x => by
  simp only [C6_rows]
  constructor
  · intro h
    simp at h
    rcases h with rfl | rfl
    · exact ⟨3, .inl rfl⟩
    · exact ⟨9, .inr rfl⟩
  · rintro ⟨id, h | h⟩ <;> (cases h; simp)⟩
theorem C7_tabs : C7.IsTabs [2] := ⟨by decide, fun x => by
  simp only [C7_rows]
  constructor
  · intro h
    simp at h
    subst h
    exact ⟨3, rfl⟩
  · rintro ⟨id, h⟩
    cases h; simp⟩
theorem C6_ids : C6.IsIDs 5 [9] := ⟨by decide, fun x => by
  rw [C6_rows]
  simp⟩
theorem C6_ids1 : C6.IsIDs 1 [] := ⟨by decide, fun x => by
  rw [C6_rows]
  simp⟩
theorem ints_25 : covenantref03_Ints.f 9 [2, 5] [2, 5] = some true := by decide +kernel
theorem ints_9 : covenantref03_Ints.f 9 [9] [9] = some true := by decide +kernel
theorem ints_2 : covenantref03_Ints.f 9 [2] [2] = some true := by decide +kernel
theorem one_reads (w : World) (a : Int) : Kd.C (Kd.int .i64) (w.alloc (.cells #[.int .i64 a] 3)) (some ⟨w.heap.size, 0, none⟩) 1 [a] :=
  Kd.C_of_reads (d := (0 : Int)) (h1 := fun _ => rfl) ⟨rfl, by decide, fun _ => ⟨_, rfl, fun j hj => by
    have : j = 0 := by omega
    have hb : (w.alloc (.cells #[.int .i64 a] 3)).heap[w.heap.size]? = some (.cells #[.int .i64 a] 3 (0, 0)) := heap_alloc_new w _
    subst this
    exact (blk_cell hb 0)⟩⟩
end Go.Proofs.Ytljahhgankcalaa

/-! HeapNames: the walk. (Written by gennd.py.) -/
namespace Go.Proofs.Ytljahhgankcalaa
open Go.RowKit Go.Maps Go.MapKept Go.WideMaps
open Go.Proofs.YtljahhgankcalaaW.PrintWords Go.Proofs.YtljahhgankcalaaW.PrintLast Go.Proofs.YtljahhgankcalaaW.PrintMore
open PHeapThere
set_option linter.unusedVariables false
set_option linter.unusedSimpArgs false

set_option maxRecDepth 100000 in
set_option maxHeartbeats 4000000 in
theorem names_law (w0 : World) : Calls Try.prog 10 #[] w0 fun e w' => e = .returned (.bool true) ∧ Below w0.heap.size w0 w' := by
  have tup := fun (a b : Int) (w : World) => covenantlaw11_tuple.calls a b a b 3 0 0 0 [] w rfl
  have HT := Aside0.mk tup
  clear tup
  go_enter Try.func10, Try.ntmps10
  have n := HT.out 1 1 w0
  go_wp2_with fail
  refine n.mono ?_
  clear n
  rintro e w1 ⟨v1, rfl, o1, b1⟩
  obtain ⟨A1, c1, e1⟩ := Kd.R_slice o1
  subst e1
  clear o1
  replace b1 := Aside0.mk b1
  have n := put_nil 1 1 3 0 0 0 A1 0 c1 w1
  go_wp2_with fail
  refine n.mono ?_
  clear n
  rintro e w2 ⟨rfl, b2⟩
  have B2 := Aside0.mk (b1.out.trans (b2.mono b1.out.size))
  clear b2
  have n := at_nil 0 w2
  go_wp2_with fail
  refine n.mono ?_
  clear n
  rintro e w3 ⟨rfl, b3⟩
  have B3 := Aside0.mk (B2.out.trans (b3.mono B2.out.size))
  clear b3
  have B3a := fun o => (B3.out.alloc B3.out.size o)
  replace B3a := Aside0.mk B3a
  go_wp2_with fail
  refine (works_calls _).mono ?_
  rintro e w4 ⟨rfl, b4⟩
  have B4 := Aside0.mk ((B3a.out _).trans (b4.mono (B3a.out _).size))
  clear b4
  have n := kill_nil 0 1 1 w4
  go_wp2_with fail
  refine n.mono ?_
  clear n
  rintro e w5 ⟨rfl, rfl⟩
  have n := free_nil 0 w5
  go_wp2_with fail
  refine n.mono ?_
  clear n
  rintro e w6 ⟨rfl, b6⟩
  have B6 := Aside0.mk (B4.out.trans (b6.mono B4.out.size))
  clear b6
  have n := next_nil 1 w6
  go_wp2_with fail
  refine n.mono ?_
  clear n
  rintro e w7 ⟨rfl, rfl⟩
  have n := slots_nil 1 1 w7
  go_wp2_with fail
  refine n.mono ?_
  clear n
  rintro e w8 ⟨rfl, rfl⟩
  have n := ids_nil (w := w8) 1
  go_wp2_with fail
  refine n.mono ?_
  clear n
  rintro e w9 ⟨v9, rfl, o9, b9⟩
  obtain ⟨A9, c9, e9⟩ := Kd.R_slice o9
  subst e9
  clear o9
  have B9 := Aside0.mk (B6.out.trans (b9.mono B6.out.size))
  clear b9
  have n := tabs_nil (w := w9)
  go_wp2_with fail
  refine n.mono ?_
  clear n
  rintro e w10 ⟨v10, rfl, o10, b10⟩
  obtain ⟨A10, c10, e10⟩ := Kd.R_slice o10
  subst e10
  clear o10
  have B10 := Aside0.mk (B9.out.trans (b10.mono B9.out.size))
  clear b10
  have n := len_nil w10
  go_wp2_with fail
  refine n.mono ?_
  clear n
  rintro e w11 ⟨rfl, rfl⟩
  have n := copy_nil w11
  go_wp2_with fail
  refine n.mono ?_
  clear n
  rintro e w12 ⟨rfl, rfl⟩
  have n := St.start w0 w12 B10.out
  go_wp2_with fail
  refine n.mono ?_
  clear n
  rintro e a0 ⟨h, rfl, s0⟩
  replace s0 := Aside0.mk s0
  have n := HT.out 0 1 a0
  go_wp2_with fail
  refine n.mono ?_
  clear n
  rintro e a1 ⟨v1, rfl, o1, b1⟩
  have n := s0.out.put (A := B0) B0_ok (by rw [C_len.1]; decide) (tp 0 1) v1 b1 o1 (by decide)
  simp only [putE_bad B0 (tp 0 1) (by decide)] at n
  clear o1 b1
  go_wp2_with fail
  refine n.mono ?_
  clear n
  rintro e a2 ⟨rfl, s2⟩
  replace s2 := Aside0.mk s2
  have n := HT.out 1 0 a2
  go_wp2_with fail
  refine n.mono ?_
  clear n
  rintro e a3 ⟨v3, rfl, o3, b3⟩
  have n := s2.out.put (A := B0) B0_ok (by rw [C_len.1]; decide) (tp 1 0) v3 b3 o3 (by decide)
  simp only [putE_bad B0 (tp 1 0) (by decide)] at n
  clear o3 b3
  go_wp2_with fail
  refine n.mono ?_
  clear n
  rintro e a4 ⟨rfl, s4⟩
  have n := at_calls h 0 B0 _ a4 s4.is (by decide +kernel)
  simp only [C0_there.1] at n
  replace s4 := Aside0.mk s4
  go_wp2_with fail
  refine n.mono ?_
  clear n
  rintro e a5 ⟨vz, rfl, oz, b5⟩
  have s5 := s4.out.below b5
  clear oz b5
  have n := s5.next (A := B0) B0_ok 0
  simp only [next_no B0 0 (by decide)] at n
  replace s5 := Aside0.mk s5
  go_wp2_with fail
  refine n.mono ?_
  clear n
  rintro e a6 ⟨rfl, s6⟩
  have n := s6.next (A := B0) B0_ok (-1)
  simp only [next_no B0 (-1) (by decide)] at n
  replace s6 := Aside0.mk s6
  go_wp2_with fail
  refine n.mono ?_
  clear n
  rintro e a7 ⟨rfl, s7⟩
  have n := s7.next (A := B0) B0_ok 2147483648
  simp only [next_no B0 2147483648 (by decide)] at n
  replace s7 := Aside0.mk s7
  go_wp2_with fail
  refine n.mono ?_
  clear n
  rintro e a8 ⟨rfl, s8⟩
  have n := s8.free (A := B0) B0_ok (by rw [C_len.1]; decide) 0
  simp only [free_no B0 0 C0_there.1] at n
  replace s8 := Aside0.mk s8
  go_wp2_with fail
  refine n.mono ?_
  clear n
  rintro e a9 ⟨rfl, s9⟩
  have n := s9.free (A := B0) B0_ok (by rw [C_len.1]; decide) (-1)
  simp only [free_no B0 (-1) C0_there.2.1] at n
  replace s9 := Aside0.mk s9
  go_wp2_with fail
  refine n.mono ?_
  clear n
  rintro e a10 ⟨rfl, s10⟩
  have n := s10.len (A := B0)
  rw [C0_there.2.2] at n
  go_wp2_with fail
  refine n.mono ?_
  clear n
  rintro e a11 ⟨rfl, ea⟩
  subst ea
  have s11 := s10
  clear s10
  have n := s11.next (A := B0) B0_ok 1
  rw [C1_1] at n
  replace s11 := Aside0.mk s11
  go_wp2_with fail
  refine n.mono ?_
  clear n
  rintro e a12 ⟨rfl, s12⟩
  replace s12 := Aside0.mk s12
  obtain ⟨wB, hwB⟩ : ∃ wB, a12 = wB := ⟨_, rfl⟩
  subst hwB
  have hR0 : Kd.R kVal 91 (a12.alloc (.cells #[.int .u8 3, .int .i64 0, .int .i64 0, .string ⟨#[97]⟩, .int .u8 0, .int .i64 0, .int .i64 0, .string ⟨#[]⟩] 91)) a12.heap.size (fun _ => True) (.slice (some ⟨a12.heap.size, 0, none⟩) 2 2) nRow := nRow_R a12
  have bT : Below a12.heap.size a12 ((a12.alloc (.cells #[.int .u8 3, .int .i64 0, .int .i64 0, .string ⟨#[97]⟩, .int .u8 0, .int .i64 0, .int .i64 0, .string ⟨#[]⟩] 91)).alloc (.cells #[.int .i64 5, .int .i64 9, .int .i64 1, .int .i64 2, .int .i64 3, .int .i64 4, .slice (some ⟨a12.heap.size, 0, none⟩) 2 2] 39)) := ((Below.refl _ _).alloc (Nat.le_refl _) _).alloc (by simp) _
  have hR1 := Kd.R_below hR0 ((Below.refl _ (a12.alloc (.cells #[.int .u8 3, .int .i64 0, .int .i64 0, .string ⟨#[97]⟩, .int .u8 0, .int .i64 0, .int .i64 0, .string ⟨#[]⟩] 91))).alloc (Nat.le_refl _) (.cells #[.int .i64 5, .int .i64 9, .int .i64 1, .int .i64 2, .int .i64 3, .int .i64 4, .slice (some ⟨a12.heap.size, 0, none⟩) 2 2] 39))
  have hbk : ((a12.alloc (.cells #[.int .u8 3, .int .i64 0, .int .i64 0, .string ⟨#[97]⟩, .int .u8 0, .int .i64 0, .int .i64 0, .string ⟨#[]⟩] 91)).alloc (.cells #[.int .i64 5, .int .i64 9, .int .i64 1, .int .i64 2, .int .i64 3, .int .i64 4, .slice (some ⟨a12.heap.size, 0, none⟩) 2 2] 39)).heap[a12.heap.size + 1]? = some (.cells #[.int .i64 5, .int .i64 9, .int .i64 1, .int .i64 2, .int .i64 3, .int .i64 4, .slice (some ⟨a12.heap.size, 0, none⟩) 2 2] 39 (0, 0)) := by have := heap_alloc_new (a12.alloc (.cells #[.int .u8 3, .int .i64 0, .int .i64 0, .string ⟨#[97]⟩, .int .u8 0, .int .i64 0, .int .i64 0, .string ⟨#[]⟩] 91)) (.cells #[.int .i64 5, .int .i64 9, .int .i64 1, .int .i64 2, .int .i64 3, .int .i64 4, .slice (some ⟨a12.heap.size, 0, none⟩) 2 2] 39); simpa using this
  have hTs : ((a12.alloc (.cells #[.int .u8 3, .int .i64 0, .int .i64 0, .string ⟨#[97]⟩, .int .u8 0, .int .i64 0, .int .i64 0, .string ⟨#[]⟩] 91)).alloc (.cells #[.int .i64 5, .int .i64 9, .int .i64 1, .int .i64 2, .int .i64 3, .int .i64 4, .slice (some ⟨a12.heap.size, 0, none⟩) 2 2] 39)).heap.size = a12.heap.size + 2 := by simp
  obtain ⟨wT, hwT⟩ : ∃ wT, (a12.alloc (.cells #[.int .u8 3, .int .i64 0, .int .i64 0, .string ⟨#[97]⟩, .int .u8 0, .int .i64 0, .int .i64 0, .string ⟨#[]⟩] 91)).alloc (.cells #[.int .i64 5, .int .i64 9, .int .i64 1, .int .i64 2, .int .i64 3, .int .i64 4, .slice (some ⟨a12.heap.size, 0, none⟩) 2 2] 39) = wT := ⟨_, rfl⟩
  rw [hwT] at bT hR1 hbk hTs
  have sP0 : StP (fun k => w0.heap.size ≤ k ∧ (k < a12.heap.size ∨ a12.heap.size + 2 ≤ k)) wT wT h C1 := by
    have hs := s12.out.bel.size
    refine ⟨?_, Chg.refl _ _, fun k hk => ⟨by omega, .inr (by omega)⟩⟩
    obtain ⟨sv, rb, gb, rg, gg, h1⟩ := s12.out.is.below bT
    exact ⟨sv, rb, gb, rg, gg, h1.mono (fun k hk => ⟨⟨hk.1, .inl hk.2⟩, by have := hk.2; omega⟩) (fun k hk => hk.2)⟩
  have n := sP0.puts C1_ok (by rw [C_len.2.1]; decide) nT 0 (.slice (some ⟨a12.heap.size, 0, none⟩) 2 2) (Below.refl _ _) (Kd.R_lower (Kd.R_mono (Kd.R_bound hR1) (fun k hk hf => by
    have h1 := hk.2.1
    have h2 := hf.1.2
    have h3 := hf.2
    omega)) (Nat.zero_le _)) (by decide)
  rw [C2_1] at n
  replace hR1 := Aside0.mk hR1
  replace sP0 := Aside0.mk sP0
  replace bT := Aside0.mk bT
  clear hR0
  have hbk2 := Aside0.mk hbk
  have c0 := blk_cell hbk 0
  have c1 := blk_cell hbk 1
  have c2 := blk_cell hbk 2
  have c3 := blk_cell hbk 3
  have c4 := blk_cell hbk 4
  have c5 := blk_cell hbk 5
  have c6 := blk_cell hbk 6
  simp at c0 c1 c2 c3 c4 c5 c6
  go_wp2_with fail
  try simp only [World.size_alloc]
  try rw [hwT]
  have HwT := Aside0.mk hwT
  clear hwT c0 c1 c2 c3 c4 c5 c6 hbk
  replace hTs := Aside0.mk hTs
  refine n.mono ?_
  clear n
  rintro e p1 ⟨rfl, q1⟩
  replace q1 := Aside0.mk q1
  have n := HT.out 2 3 p1
  go_wp2_with fail
  refine n.mono ?_
  clear n
  rintro e p2 ⟨v2, rfl, o2, b2⟩
  have n := q1.out.puts (A := C2) C2_ok (by rw [C_len.2.2.1]; decide) (tp 2 3) 1 v2 b2 (Kd.R_lower (Kd.R_mono (Kd.R_bound o2) (fun k hk hf => by
    have h1 := hk.2.1
    have h2 := hf.2
    omega)) (Nat.zero_le _)) (by decide)
  rw [C3_1] at n
  clear o2 b2
  go_wp2_with fail
  refine n.mono ?_
  clear n
  rintro e p3 ⟨rfl, q3⟩
  have n := q3.kill (A := C3) 0 7 8
  rw [C4_1] at n
  replace q3 := Aside0.mk q3
  go_wp2_with fail
  refine n.mono ?_
  clear n
  rintro e p4 ⟨rfl, q4⟩
  have n := q4.kill (A := C4) 0 0 0
  rw [C5_1] at n
  replace q4 := Aside0.mk q4
  go_wp2_with fail
  refine n.mono ?_
  clear n
  rintro e p5 ⟨rfl, q5⟩
  have n := q5.kill (A := C5) 0 6 (-1)
  rw [C6_1] at n
  replace q5 := Aside0.mk q5
  go_wp2_with fail
  refine n.mono ?_
  clear n
  rintro e p6 ⟨rfl, q6⟩
  have hb6 := q6.chg.obj hbk2.out (fun e => by have := e.2; omega)
  have f4 := blk_frozen hb6 4
  have f5 := blk_frozen hb6 5
  have c4 := blk_cell hb6 4
  have c5 := blk_cell hb6 5
  simp at c4 c5
  have hch : Chg p6 ((p6.setCell ⟨a12.heap.size + 1, 4, none⟩ (.int .i64 6)).setCell ⟨a12.heap.size + 1, 5, none⟩ (.int .i64 (-1))) (fun k => k = a12.heap.size + 1) := ((Chg.refl p6 (fun k => k = a12.heap.size + 1)).setCell (p := ⟨a12.heap.size + 1, 4, none⟩) (.inl rfl) _).setCell (p := ⟨a12.heap.size + 1, 5, none⟩) (.inl rfl) _
  have hb7 := blk_set (blk_set hb6 4 (.int .i64 6)) 5 (.int .i64 (-1))
  simp at hb7
  obtain ⟨p7, hp7⟩ : ∃ p7, ((p6.setCell ⟨a12.heap.size + 1, 4, none⟩ (.int .i64 6)).setCell ⟨a12.heap.size + 1, 5, none⟩ (.int .i64 (-1))) = p7 := ⟨_, rfl⟩
  rw [hp7] at hch hb7
  have s7 : St w0 p7 h C6 := by
    have z1 := s12.out.bel.size
    have z2 := hTs.out
    have z3 := q6.chg.size
    have z4 := hch.size
    refine ⟨?_, (((s12.out.bel.trans (bT.out.mono z1)).trans (q6.chg.below (by omega) (fun k hk => hk.1))).trans (hch.below (by omega) (fun k hk => by omega)))⟩
    obtain ⟨sv, rb, gb, rg, gg, h1⟩ := q6.is.chg hch (fun k hk e => by have := hk.1.2; omega)
    exact ⟨sv, rb, gb, rg, gg, h1.mono (fun k hk => ⟨hk.1.1, by have := hk.2; omega⟩) (fun k hk => hk.2)⟩
  have hR6 := R_chg (Kd.R_mono (Kd.R_bound hR1.out) (ok' := fun k => a12.heap.size ≤ k ∧ k < wT.heap.size) (fun k hk => ⟨hk.2.1, hk.2.2.1⟩)) q6.chg (fun k q cells hk _ _ e => by
    have h1 := e.2
    have h2 := hk.2
    have h3 := hTs.out
    have h4 := hk.1
    omega)
  have hR7 : Kd.R kVal 91 p7 a12.heap.size (fun _ => True) (.slice (some ⟨a12.heap.size, 0, none⟩) 2 2) nRow := Kd.R_mono (R_typ hR6 hb6 (by
    intro q hq
    have hq2 : q ∈ ([91] : List Nat) := hq
    simp at hq2
    subst hq2
    decide) hch) (fun _ _ => trivial)
  replace hb7 := Aside0.mk hb7
  replace hR7 := Aside0.mk hR7
  have HCH := Aside0.mk hch
  clear hch
  have sT := Aside0.mk s7
  have n := at_calls h 0 C6 _ p7 s7.is (by rw [C6_at]; decide)
  simp only [C6_atE, C6_there, nU] at n
  clear s7
  replace q6 := Aside0.mk q6
  clear hb6
  go_wp2_with fail
  try rw [hp7]
  clear hp7 c4 c5 f4 f5 hR6
  refine n.mono ?_
  clear n
  rintro e p8 ⟨v8, rfl, o8, b8⟩
  obtain ⟨A8, c8, e8⟩ := Kd.R_slice o8
  subst e8
  have ba := (Below.refl _ p8).alloc (Nat.le_refl _) (.cells #[.int .i64 5, .int .i64 9, .int .i64 1, .int .i64 2, .int .i64 6, .int .i64 (-1), .slice A8 nRow.length c8] 39)
  have lt7 := (Array.getElem?_eq_some_iff.1 hb7.out).1
  have hb8 := (ba.block _ (Nat.lt_of_lt_of_le lt7 b8.size)).trans ((b8.block _ lt7).trans hb7.out)
  have hC8 := Kd.C_below (Kd.R_reads' o8).2.2 ba
  have hc8 := (Kd.R_reads' o8).2.1
  have hC7 := Kd.C_below (Kd.R_reads' hR7.out).2.2 (b8.trans (ba.mono b8.size))
  obtain ⟨ks, hks⟩ := tup_same nU (by decide)
  have s9 := Aside0.mk ((sT.out.below b8).below ba)
  have hx8 := heap_alloc_new p8 (.cells #[.int .i64 5, .int .i64 9, .int .i64 1, .int .i64 2, .int .i64 6, .int .i64 (-1), .slice A8 nRow.length c8] 39)
  obtain ⟨p9, hp9⟩ : ∃ p9, p8.alloc (.cells #[.int .i64 5, .int .i64 9, .int .i64 1, .int .i64 2, .int .i64 6, .int .i64 (-1), .slice A8 nRow.length c8] 39) = p9 := ⟨_, rfl⟩
  rw [hp9] at ba hb8 hC8 hC7 s9 hx8
  have n := fun W hb => covenantref11_Same.calls ks 5 9 1 2 6 (-1) A8 c8 nRow 5 9 1 2 6 (-1) (some ⟨a12.heap.size, 0, none⟩) 2 nRow true W (Kd.C_below hC8 hb) hc8 (Kd.C_below hC7 hb) (by decide) hks
  replace n := Aside0.mk n
  replace o8 := Aside0.mk o8
  replace b8 := Aside0.mk b8
  replace hC8 := Aside0.mk hC8
  replace hC7 := Aside0.mk hC7
  replace hc8 := Aside0.mk hc8
  replace hks := Aside0.mk hks
  replace ba := Aside0.mk ba
  have c0 := blk_cell hb8 0
  have d0 := blk_cell hx8 0
  have c1 := blk_cell hb8 1
  have d1 := blk_cell hx8 1
  have c2 := blk_cell hb8 2
  have d2 := blk_cell hx8 2
  have c3 := blk_cell hb8 3
  have d3 := blk_cell hx8 3
  have c4 := blk_cell hb8 4
  have d4 := blk_cell hx8 4
  have c5 := blk_cell hb8 5
  have d5 := blk_cell hx8 5
  have c6 := blk_cell hb8 6
  have d6 := blk_cell hx8 6
  simp at c0 c1 c2 c3 c4 c5 c6 d0 d1 d2 d3 d4 d5 d6
  clear lt7
  go_wp2_with fail
  try rw [hp9]
  clear hp9 c0 c1 c2 c3 c4 c5 c6 d0 d1 d2 d3 d4 d5 d6
  refine (n.out _ (Below.refl _ _)).mono ?_
  clear n
  rintro e a13 ⟨rfl, b10⟩
  have s13 := s9.out.below b10
  clear b10 s9
  have n := tabs_of s13.is C6_ok (by rw [C_len.2.2.2.1]; decide)
  replace s13 := Aside0.mk s13
  go_wp2_with fail
  refine n.mono ?_
  clear n
  rintro e a14 ⟨lv, ll, rfl, lo, lh, lb⟩
  obtain rfl := lh.is C6_tabs
  have s14 := Aside0.mk (s13.out.below lb)
  obtain ⟨lA, lc, le⟩ := Kd.R_slice lo
  subst le
  clear lh lb
  replace lo := Aside0.mk lo
  go_wp2_with fail
  have n := covenantref03_Ints.calls 9 lA lc [2, 5] _ 2 [2, 5] true _ (Kd.C_below (Kd.R_reads' lo.out).2.2 ((Below.refl _ a14).alloc (Nat.le_refl _) (.cells #[.int .i64 2, .int .i64 5] 3))) (Kd.R_reads' lo.out).2.1 (pair_reads a14 2 5) (by decide) ints_25
  refine n.mono ?_
  clear n lo
  rintro e a15 ⟨rfl, hd⟩
  have s15 := s14.out.below (((Below.refl _ a14).alloc (Nat.le_refl _) (.cells #[.int .i64 2, .int .i64 5] 3)).trans (hd.below.mono (by simp)))
  clear hd
  have n := ids_of 5 s15.is C6_ok (by rw [C_len.2.2.2.1]; decide)
  replace s15 := Aside0.mk s15
  go_wp2_with fail
  refine n.mono ?_
  clear n
  rintro e a16 ⟨lv, ll, rfl, lo, lh, lb⟩
  obtain rfl := lh.is C6_ids
  have s16 := Aside0.mk (s15.out.below lb)
  obtain ⟨lA, lc, le⟩ := Kd.R_slice lo
  subst le
  clear lh lb
  replace lo := Aside0.mk lo
  go_wp2_with fail
  have n := covenantref03_Ints.calls 9 lA lc [9] _ 1 [9] true _ (Kd.C_below (Kd.R_reads' lo.out).2.2 ((Below.refl _ a16).alloc (Nat.le_refl _) (.cells #[.int .i64 9] 3))) (Kd.R_reads' lo.out).2.1 (one_reads a16 9) (by decide) ints_9
  refine n.mono ?_
  clear n lo
  rintro e a17 ⟨rfl, hd⟩
  have s17 := s16.out.below (((Below.refl _ a16).alloc (Nat.le_refl _) (.cells #[.int .i64 9] 3)).trans (hd.below.mono (by simp)))
  clear hd
  have n := ids_of 1 s17.is C6_ok (by rw [C_len.2.2.2.1]; decide)
  replace s17 := Aside0.mk s17
  go_wp2_with fail
  refine n.mono ?_
  clear n
  rintro e a18 ⟨lv, ll, rfl, lo, lh, lb⟩
  obtain rfl := lh.is C6_ids1
  have s18 := Aside0.mk (s17.out.below lb)
  obtain ⟨lA, lc, le⟩ := Kd.R_slice lo
  subst le
  clear lh lb
  clear lo
  replace s18 := s18.out
  have n := s18.free (A := C6) C6_ok (by rw [C_len.2.2.2.1]; decide) 0
  rw [C7_1] at n
  replace s18 := Aside0.mk s18
  go_wp2_with fail
  refine n.mono ?_
  clear n
  rintro e a19 ⟨rfl, s19⟩
  have n := s19.free (A := C7) C7_ok (by rw [C_len.2.2.2.2.1]; decide) 0
  simp only [free_no C7 0 C7_there] at n
  replace s19 := Aside0.mk s19
  go_wp2_with fail
  refine n.mono ?_
  clear n
  rintro e a20 ⟨rfl, s20⟩
  have n := tabs_of s20.is C7_ok (by rw [C_len.2.2.2.2.1]; decide)
  replace s20 := Aside0.mk s20
  go_wp2_with fail
  refine n.mono ?_
  clear n
  rintro e a21 ⟨lv, ll, rfl, lo, lh, lb⟩
  obtain rfl := lh.is C7_tabs
  have s21 := Aside0.mk (s20.out.below lb)
  obtain ⟨lA, lc, le⟩ := Kd.R_slice lo
  subst le
  clear lh lb
  replace lo := Aside0.mk lo
  go_wp2_with fail
  have n := covenantref03_Ints.calls 9 lA lc [2] _ 1 [2] true _ (Kd.C_below (Kd.R_reads' lo.out).2.2 ((Below.refl _ a21).alloc (Nat.le_refl _) (.cells #[.int .i64 2] 3))) (Kd.R_reads' lo.out).2.1 (one_reads a21 2) (by decide) ints_2
  refine n.mono ?_
  clear n lo
  rintro e a22 ⟨rfl, hd⟩
  have s22 := s21.out.below (((Below.refl _ a21).alloc (Nat.le_refl _) (.cells #[.int .i64 2] 3)).trans (hd.below.mono (by simp)))
  clear hd
  replace s22 := Aside0.mk s22
  have n := HT.out 1 2147483648 a22
  go_wp2_with fail
  refine n.mono ?_
  clear n
  rintro e a23 ⟨v23, rfl, o23, b23⟩
  have n := s22.out.put (A := C7) C7_ok (by rw [C_len.2.2.2.2.1]; decide) (tp 1 2147483648) v23 b23 o23 (by decide)
  simp only [putE_bad C7 (tp 1 2147483648) (by decide)] at n
  clear o23 b23
  go_wp2_with fail
  refine n.mono ?_
  clear n
  rintro e a24 ⟨rfl, s24⟩
  replace s24 := Aside0.mk s24
  have n := HT.out 2147483648 1 a24
  go_wp2_with fail
  refine n.mono ?_
  clear n
  rintro e a25 ⟨v25, rfl, o25, b25⟩
  have n := s24.out.put (A := C7) C7_ok (by rw [C_len.2.2.2.2.1]; decide) (tp 2147483648 1) v25 b25 o25 (by decide)
  simp only [putE_bad C7 (tp 2147483648 1) (by decide)] at n
  clear o25 b25
  go_wp2_with fail
  refine n.mono ?_
  clear n
  rintro e a26 ⟨rfl, s26⟩
  have n := s26.next (A := C7) C7_ok 5
  rw [C8_1] at n
  replace s26 := Aside0.mk s26
  go_wp2_with fail
  refine n.mono ?_
  clear n
  rintro e a27 ⟨rfl, s27⟩
  have n := s27.next (A := C8) C8_ok 2
  rw [C9_1] at n
  replace s27 := Aside0.mk s27
  go_wp2_with fail
  refine n.mono ?_
  clear n
  rintro e a28 ⟨rfl, s28⟩
  have n := s28.len (A := C9)
  rw [C7_m.2] at n
  go_wp2_with fail
  refine n.mono ?_
  clear n
  rintro e a29 ⟨rfl, ea⟩
  subst ea
  have s29 := s28
  clear s28
  replace s29 := Aside0.mk s29
  have n := HT.out 4 2147483647 a29
  go_wp2_with fail
  refine n.mono ?_
  clear n
  rintro e a30 ⟨v30, rfl, o30, b30⟩
  have n := s29.out.puts (A := C9) C9_ok (by rw [C_len.2.2.2.2.2]; decide) (tp 4 2147483647) 0 v30 b30 o30 (by decide)
  rw [C10_1] at n
  clear o30 b30
  go_wp2_with fail
  refine n.mono ?_
  clear n
  rintro e a31 ⟨rfl, s31⟩
  have n := s31.next (A := C10) C10_ok 4
  simp only [C10_n] at n
  replace s31 := Aside0.mk s31
  go_wp2_with fail
  refine n.mono ?_
  clear n
  rintro e a32 ⟨rfl, s32⟩
  have n := s32.next (A := C10) C10_ok 4
  simp only [C10_n] at n
  replace s32 := Aside0.mk s32
  go_wp2_with fail
  refine n.mono ?_
  clear n
  rintro e a33 ⟨rfl, s33⟩
  replace s33 := Aside0.mk s33
  go_wp2
  go_ret
  exact ⟨rfl, s33.out.bel⟩
end Go.Proofs.Ytljahhgankcalaa

import Derived.Test.YtljahhgankcalaaHn
/-! (*Heap).Len, is, refused, Kill; New. -/
namespace Go.Proofs.Ytljahhgankcalaa
open Go.RowKit Go.Maps Go.MapKept Go.WideMaps
open Go.Proofs.YtljahhgankcalaaW.PrintWords Go.Proofs.YtljahhgankcalaaW.PrintLast Go.Proofs.YtljahhgankcalaaW.PrintMore
open PHeapThere
set_option linter.unusedVariables false
set_option linter.unusedSimpArgs false

theorem len_calls (h : Nat) (A : AH) (F : Nat → Prop) (w : World) (H : HeapIs w h A F) :
    Calls Try.prog 19 #[.pointer (some ⟨h, 0, none⟩)] w fun e w' => e = .returned (.int .i64 A.many) ∧ w' = w := by
  obtain ⟨sv, rb, gb, rg, gg, H⟩ := H
  have hc : w.cell? ⟨h, 3, none⟩ = some (.int .i64 A.many) := H.cell 3
  clear H
  go_enter Try.func19, Try.ntmps19
  go_wp2
  go_ret
  exact ⟨rfl, rfl⟩

/-- The cells of the tuple in a slot. -/
theorem slot_cells {w : World} {F : Nat → Prop} {sv : Value} {l : List ATup} (R : Kd.R kTup 39 w 0 F sv l) {i : Nat} (hi : i < l.length) :
    ∃ g cap cur v6, sv = .slice (some ⟨g, 0, none⟩) l.length cap ∧ l.length ≤ cap ∧ cap ≤ maxLen ∧ F g ∧ w.heap[g]? = some (.cells cur 39 (0, 0)) ∧ cur.size = cap * 7 ∧ Kd.R kVal 91 w 0 (fun k => F k ∧ k ≠ g) v6 l[i].f6 ∧
      cur[i * 7]? = some (.int .i64 l[i].f0) ∧ cur[i * 7 + 1]? = some (.int .i64 l[i].f1) ∧ cur[i * 7 + 2]? = some (.int .i64 l[i].f2) ∧ cur[i * 7 + 3]? = some (.int .i64 l[i].f3) ∧ cur[i * 7 + 4]? = some (.int .i64 l[i].f4) ∧
      cur[i * 7 + 5]? = some (.int .i64 l[i].f5) ∧ cur[i * 7 + 6]? = some v6 := by
  obtain ⟨g, cap, cur, c, hv, hF, _, hg, h1, h2, hs, hM, _, hc⟩ := R_elem R hi
  obtain ⟨v6, rfl, h6⟩ := k32_openM hM
  exact ⟨g, cap, cur, v6, hv, h1, h2, hF, hg, hs, h6, hc 0 _ rfl, hc 1 _ rfl, hc 2 _ rfl, hc 3 _ rfl, hc 4 _ rfl, hc 5 _ rfl, hc 6 _ rfl⟩

theorem sv_slice {w : World} {F : Nat → Prop} {sv : Value} {l : List ATup} (R : Kd.R kTup 39 w 0 F sv l) : ∃ a c, sv = .slice a l.length c ∧ l.length ≤ 9223372036854775807 := by
  obtain ⟨a, c, h1, h2, h3⟩ := Kd.R_reads R
  exact ⟨a, c, h1, h3.2.1⟩

theorem is_low (h : Nat) (s : Int) (w : World) (hs : s < 0) :
    Calls Try.prog 58 #[.pointer (some ⟨h, 0, none⟩), .int .i64 s] w fun e w' => e = .returned (.bool false) ∧ w' = w := by
  have b1 : decide (0 ≤ s) = false := decide_eq_false (by omega)
  go_enter Try.func58, Try.ntmps58
  go_wp2
  go_ret
  exact ⟨rfl, rfl⟩
theorem is_high (h n c : Nat) (a : Option Addr) (s : Int) (w : World) (hc : w.cell? ⟨h, 0, none⟩ = some (.slice a n c)) (hs : 0 ≤ s) (hn : (n : Int) ≤ s) :
    Calls Try.prog 58 #[.pointer (some ⟨h, 0, none⟩), .int .i64 s] w fun e w' => e = .returned (.bool false) ∧ w' = w := by
  have b1 : decide (0 ≤ s) = true := decide_eq_true hs
  have b2 : decide (s < (n : Int)) = false := decide_eq_false (by omega)
  go_enter Try.func58, Try.ntmps58
  go_wp2
  go_ret
  exact ⟨rfl, rfl⟩
theorem is_in (h g n c i : Nat) (x : Int) (w : World) (hc : w.cell? ⟨h, 0, none⟩ = some (.slice (some ⟨g, 0, none⟩) n c)) (hi : i < n) (hn : n ≤ 9223372036854775807) (hx : w.cell? ⟨g, i * 7, none⟩ = some (.int .i64 x)) :
    Calls Try.prog 58 #[.pointer (some ⟨h, 0, none⟩), .int .i64 i] w fun e w' => e = .returned (.bool (decide (0 < x))) ∧ w' = w := by
  have b1 : decide (0 ≤ (i : Int)) = true := decide_eq_true (by omega)
  have b2 : decide ((i : Int) < (n : Int)) = true := decide_eq_true (by omega)
  have b3 : decide (i < n) = true := decide_eq_true hi
  go_enter Try.func58, Try.ntmps58
  go_wp2
  go_ret
  exact ⟨rfl, rfl⟩
theorem AH.at_nat (A : AH) {i : Nat} (hi : i < A.slots.length) : A.at i = A.slots[i] := by
  unfold AH.at
  rw [Int.toNat_natCast, List.getD_eq_getElem?_getD, List.getElem?_eq_getElem hi]
  rfl
theorem is_calls (h : Nat) (s : Int) (A : AH) (F : Nat → Prop) (w : World) (H : HeapIs w h A F) :
    Calls Try.prog 58 #[.pointer (some ⟨h, 0, none⟩), .int .i64 s] w fun e w' => e = .returned (.bool (A.there s)) ∧ w' = w := by
  obtain ⟨sv, rb, gb, rg, gg, H⟩ := H
  by_cases h0 : s < 0
  · rw [show A.there s = false from by simp [AH.there]; omega]
    exact is_low h s w h0
  · by_cases h1 : (A.slots.length : Int) ≤ s
    · rw [show A.there s = false from by simp [AH.there]; omega]
      obtain ⟨a, c, rfl, _⟩ := sv_slice H.slots
      exact is_high h _ c a s w (H.cell 0) (by omega) h1
    · obtain ⟨i, rfl⟩ : ∃ i : Nat, s = i := ⟨s.toNat, by omega⟩
      have hi : i < A.slots.length := by omega
      obtain ⟨g, cap, cur, v6, rfl, hn, hm, _, hg, _, _, hx, _⟩ := slot_cells H.slots hi
      have h2 := is_in h g _ cap i A.slots[i].f0 w (H.cell 0) hi (by unfold maxLen at hm; omega) ((blk_cell hg _).trans hx)
      rw [show A.there i = decide (0 < A.slots[i].f0) from by simp [AH.there, A.at_nat hi, hi]]
      exact h2

theorem refused_calls (h : Nat) (s : Int) (A : AH) (F : Nat → Prop) (w : World) (H : HeapIs w h A F) :
    Calls Try.prog 81 #[.pointer (some ⟨h, 0, none⟩), .int .i64 s] w fun e w' => e = .returned (.int .i64 (if A.there s then 0 else 1)) ∧ w' = w := by
  have hi := is_calls h s A F w H
  generalize A.there s = b at hi
  clear H
  cases b
  · go_enter Try.func81, Try.ntmps81
    go_wp2_with (go_at_call 58; refine hi.mono ?_; rintro e w' ⟨rfl, rfl⟩)
    go_ret
    exact ⟨rfl, rfl⟩
  · go_enter Try.func81, Try.ntmps81
    go_wp2_with (go_at_call 58; refine hi.mono ?_; rintro e w' ⟨rfl, rfl⟩)
    go_ret
    exact ⟨rfl, rfl⟩
end Go.Proofs.Ytljahhgankcalaa

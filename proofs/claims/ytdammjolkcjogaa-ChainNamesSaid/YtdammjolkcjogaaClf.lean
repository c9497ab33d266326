import Derived.Test.YtdammjolkcjogaaCle
import Derived.Deep.WholeRow
import Derived.Laws.ResultCell
/-! chain.Follow without tables; waiting.next. -/
namespace Go.Proofs.Ytdammjolkcjogaa
open Go.RowKit Go.Maps Go.MapKept Go.WideMaps
open Go.Proofs.YtdammjolkcjogaaW.PrintWords Go.Proofs.YtdammjolkcjogaaW.PrintLast Go.Proofs.YtdammjolkcjogaaW.PrintMore
open PModelNames
set_option linter.unusedVariables false
set_option linter.unusedSimpArgs false
section
variable {w : World}
set_option maxRecDepth 100000 in
theorem idxT_none (f : Value) (w : World) : Calls Try.prog 34 #[.slice none 0 0, f] w fun e w' => e = .returned (.int .i64 (-1)) ∧ Below w.heap.size w w' := by
  go_enter Try.func34, Try.ntmps34
  go_wp2
  go_loopw [8] (fun v8 wr => v8 = .int .i64 0 ∧ wr = w) (fun _ _ => 0)
  case atStart => exact ⟨rfl, rfl⟩
  case round =>
    obtain ⟨rfl, rfl⟩ := hrel
    go_wp2
    go_ret
    exact ⟨rfl, Below.refl _ _⟩
set_option maxRecDepth 100000 in
set_option maxHeartbeats 2000000 in
theorem follow_none (p u1 u2 : Value) (no id : Int) (w : World) : Calls Try.prog 17 #[st0, p, .int .i64 no, .int .i64 id, u1, u2] w fun e w' => e = .returned (.tuple #[.slice none 0 0, .int .i64 0]) ∧ Below w.heap.size w w' := by
  have hi := Aside0.mk idxT_none
  have hz := heap_alloc_new w (.cells #[.int .i64 0, .slice none 0 0, .slice none 0 0] 44)
  obtain ⟨w2, hw2⟩ : ∃ W, (w.alloc (.cells #[.int .i64 0, .slice none 0 0, .slice none 0 0] 44)).alloc (.cells #[.int .i64 no] 3) = W := ⟨_, rfl⟩
  have hB2 : Below w.heap.size w w2 := by
    rw [← hw2]
    exact ((Below.refl _ w).alloc (Nat.le_refl _) _).alloc (by simp) _
  have h2 : w2.heap[w.heap.size]? = some (.cells #[.int .i64 0, .slice none 0 0, .slice none 0 0] 44 (0, 0)) := by
    rw [← hw2]
    exact (Below.heap_alloc _ _ _ (by simp)).trans hz
  have k1 := blk_cell h2 1
  simp at k1
  clear h2 hz
  replace hB2 := Aside0.mk hB2
  go_enter Try.func17, Try.ntmps17
  go_wp2_with fail
  refine (hi.out _ w2).mono ?_
  rintro e w3 ⟨rfl, hB3⟩
  have hB := Aside0.mk (hB2.out.trans (hB3.mono hB2.out.size))
  clear hB3
  go_wp2
  go_ret2
  exact ⟨rfl, hB.out⟩
set_option maxRecDepth 100000 in
set_option maxHeartbeats 4000000 in
/-- One more comes. -/
theorem next_some (q b o n c : Nat) (gone : Bool) (ac av : Option Addr) (nc cc nv cv : Nat) (hn : 1 ≤ n) (hnc : n ≤ c) (hq : w.heap[q]? = some (.cells #[.slice (some ⟨b, o, none⟩) n c] 94 (0, 0)))
    (i0 : w.cell? ⟨b, o, none⟩ = some (.int .i64 1)) (i1 : w.cell? ⟨b, o + 1, none⟩ = some (.int .i64 1)) (i2 : w.cell? ⟨b, o + 2, none⟩ = some (.bool gone)) (i3 : w.cell? ⟨b, o + 3, none⟩ = some (.slice ac nc cc)) (i4 : w.cell? ⟨b, o + 4, none⟩ = some (.slice av nv cv)) (i5 : w.cell? ⟨b, o + 5, none⟩ = some (.string ⟨#[]⟩)) (i6 : w.cell? ⟨b, o + 6, none⟩ = some (.slice none 0 0)) :
    Calls Try.prog 40 #[.pointer (some ⟨q, 0, none⟩)] w fun e w' => e = .returned (.tuple #[itemV gone (.slice ac nc cc) (.slice av nv cv), .bool true]) ∧ (∃ a', w'.heap[q]? = some (.cells #[.slice a' (n - 1) (c - 1)] 94 (0, 0)) ∧ (1 < n → a' = some ⟨b, o + 7, none⟩)) ∧ Chg w w' (fun k => k = q) := by
  unfold itemV
  have q0 := blk_cell hq 0
  have qf := blk_frozen hq 0
  simp at q0 qf
  have ql : q < w.heap.size := blk_lt hq
  have bl : b < w.heap.size := World.block_lt_of_cell? w _ i0
  have n1 : (1 : Int) ≤ (n : Int) := by omega
  have n2 : ((n : Int) == 0) = false := by simp; omega
  have n3 : (0 : Int) < (n : Int) := by omega
  have hq' := Aside0.mk hq
  clear hq
  go_enter Try.func40, Try.ntmps40
  go_wp2
  all_goals
    (try simp only [Exit.inBlock, Exit.then])
    refine bodyPost_ret (v := .tuple #[itemV gone (.slice ac nc cc) (.slice av nv cv), .bool true]) (by rw [results_cell_tmp rfl]; go_simp; rfl) rfl ?_
    refine ⟨rfl, ?_, ?_⟩
    · first
        | exact ⟨some ⟨b, o + 7, none⟩, (Below.heap_alloc _ _ q (by simp; omega)).trans ((Below.heap_alloc _ _ q (by simp; omega)).trans ((blk_set hq'.out 0 (.slice (some ⟨b, o + 7, none⟩) (n - 1) (c - 1))).trans (by simp))), fun _ => rfl⟩
        | exact ⟨some ⟨b, o, none⟩, (Below.heap_alloc _ _ q (by simp; omega)).trans ((Below.heap_alloc _ _ q (by simp; omega)).trans ((blk_set hq'.out 0 (.slice (some ⟨b, o, none⟩) (n - 1) 0)).trans (by simp))), fun _ => by omega⟩
    · exact (((Chg.refl w (fun k => k = q)).setCell (p := ⟨q, 0, none⟩) (.inl rfl) _).alloc _).alloc _
set_option maxRecDepth 100000 in
set_option maxHeartbeats 4000000 in
/-- None comes. -/
theorem next_none (q : Nat) (a : Option Addr) (c : Nat) (hq : w.heap[q]? = some (.cells #[.slice a 0 c] 94 (0, 0))) :
    Calls Try.prog 40 #[.pointer (some ⟨q, 0, none⟩)] w fun e w' => e = .returned (.tuple #[.agg #[.int .i64 0, .int .i64 0, .bool false, .slice none 0 0, .slice none 0 0, .string ⟨#[]⟩, .slice none 0 0], .bool false]) ∧ Below w.heap.size w w' := by
  have q0 := blk_cell hq 0
  simp at q0
  have ql : q < w.heap.size := blk_lt hq
  clear hq
  go_enter Try.func40, Try.ntmps40
  go_wp2
  (try simp only [Exit.inBlock, Exit.then])
  refine bodyPost_ret (v := .tuple #[.agg #[.int .i64 0, .int .i64 0, .bool false, .slice none 0 0, .slice none 0 0, .string ⟨#[]⟩, .slice none 0 0], .bool false]) (by rw [results_cell_tmp rfl]; go_simp) rfl ⟨rfl, (Below.refl _ w).alloc (Nat.le_refl _) _⟩
end
end Go.Proofs.Ytdammjolkcjogaa

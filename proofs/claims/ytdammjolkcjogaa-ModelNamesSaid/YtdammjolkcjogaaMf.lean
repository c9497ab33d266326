import Derived.Test.YtdammjolkcjogaaMe
/-! key: Of, Whole, Same, Refers. -/
namespace Go.Proofs.Ytdammjolkcjogaa
open Go.RowKit Go.Maps Go.MapKept Go.WideMaps Go.Shelf
open Go.Proofs.YtdammjolkcjogaaW.PrintWords Go.Proofs.YtdammjolkcjogaaW.PrintLast Go.Proofs.YtdammjolkcjogaaW.PrintMore
open PModelNames
set_option linter.unusedVariables false
set_option linter.unusedSimpArgs false

theorem blk_set4 {w : World} {g t : Nat} {x0 x1 x2 x3 y0 y1 y2 y3 : Value} (h : w.heap[g]? = some (.cells #[x0, x1, x2, x3] t (0, 0))) :
    ((((w.setCell ⟨g, 0, none⟩ y0).setCell ⟨g, 1, none⟩ y1).setCell ⟨g, 2, none⟩ y2).setCell ⟨g, 3, none⟩ y3).heap[g]? = some (.cells #[y0, y1, y2, y3] t (0, 0)) := by
  have h0 := blk_put (cs' := #[y0, x1, x2, x3]) h 0 y0 rfl
  have h1 := blk_put (cs' := #[y0, y1, x2, x3]) h0 1 y1 rfl
  have h2 := blk_put (cs' := #[y0, y1, y2, x3]) h1 2 y2 rfl
  exact blk_put (cs' := #[y0, y1, y2, y3]) h2 3 y3 rfl
set_option maxRecDepth 100000 in
set_option maxHeartbeats 2000000 in
theorem of_one (gr n cr gc cc : Nat) (a : AVal) (w : World) (hn : 1 ≤ n) (hcc : (1 : Int) ≤ (cc : Int)) (hr : VCells w gr a) (c0 : w.cell? ⟨gc, 0, none⟩ = some (.int .i64 0)) :
    Calls Try.prog 50 #[.slice (some ⟨gr, 0, none⟩) n cr, .slice (some ⟨gc, 0, none⟩) 1 cc] w fun e w' => ∃ g, e = .returned (.tuple #[.slice (some ⟨g, 0, none⟩) 1 1, .int .i64 0]) ∧ VCells w' g a ∧ Below w.heap.size w w' := by
  have hmay := may_one gc cc n w (by omega) hcc c0
  have hmk := Try.makeOne
  have hn2 : (0 : Int) < (n : Int) := by omega
  have HR := Aside0.mk (And.intro hr c0)
  clear hr c0
  go_enter Try.func50, Try.ntmps50
  go_wp2_with (go_at_call 60; refine hmay.mono ?_; rintro e w1 ⟨rfl, hB⟩; have hB2 : Below w.heap.size w (w1.alloc (.cells #[.int .u8 0, .int .i64 0, .int .i64 0, .string ⟨#[]⟩] 53)) := hB.alloc hB.size _; have hnew := heap_alloc_new w1 (.cells #[.int .u8 0, .int .i64 0, .int .i64 0, .string ⟨#[]⟩] 53); replace hB2 := Aside0.mk hB2; replace hnew := Aside0.mk hnew; replace hB := Aside0.mk hB)
  clear hmay hmk
  generalize hW : w1.alloc (.cells #[.int .u8 0, .int .i64 0, .int .i64 0, .string ⟨#[]⟩] 53) = w2 at hB2 hnew ⊢
  go_loopw [18] (fun v18 wr => (v18 = .int .i64 0 ∧ wr = w2) ∨ (v18 = .int .i64 1 ∧ Aside0 (VCells wr w1.heap.size a ∧ Below w.heap.size w wr))) (fun v18 _ => 2 - (intOf v18).toNat)
  case atStart => exact .inl ⟨rfl, rfl⟩
  case round =>
    rcases hrel with ⟨rfl, rfl⟩ | ⟨rfl, hB⟩
    · obtain ⟨r0, r1, r2, r3⟩ := HR.out.1.mv hB2.out
      have k0 := (hB2.out.cell (p := ⟨gc, 0, none⟩) (World.block_lt_of_cell? w _ HR.out.2)).trans HR.out.2
      have y0 := blk_cell hnew.out 0
      have y1 := blk_cell hnew.out 1
      have y2 := blk_cell hnew.out 2
      have y3 := blk_cell hnew.out 3
      have f0 := blk_frozen hnew.out 0
      have f1 := blk_frozen hnew.out 1
      have f2 := blk_frozen hnew.out 2
      have f3 := blk_frozen hnew.out 3
      simp at y0 y1 y2 y3
      clear hW
      have hend := Aside0.mk (blk_set4 (y0 := .int .u8 a.f0) (y1 := .int .i64 a.f1) (y2 := .int .i64 a.f2) (y3 := .string a.f3) hnew.out)
      go_wp2
      go_roundw
      case measure => simp [intOf]
      case rel =>
        refine .inr ⟨by go_num, ⟨⟨?_, ?_, ?_, ?_⟩, ?_⟩⟩
        · exact blk_cell hend.out 0
        · exact blk_cell hend.out 1
        · exact blk_cell hend.out 2
        · exact blk_cell hend.out 3
        · have h1 := hB.out.size
          exact (((hB2.out.setCell (by simpa using h1) _).setCell (by simpa using h1) _).setCell (by simpa using h1) _).setCell (by simpa using h1) _
    · go_wp2
      go_ret2
      exact ⟨_, rfl, hB.out.1, hB.out.2⟩
theorem whole1_calls (x : AVal) (w : World) : Calls Try.prog 77 #[.agg #[.int .u8 x.f0, .int .i64 x.f1, .int .i64 x.f2, .string x.f3]] w fun e w' => e = .returned (.bool (x.f0 == 0)) ∧ Below w.heap.size w w' := by
  go_enter Try.func77, Try.ntmps77
  go_wp2
  go_ret
  exact ⟨rfl, (Below.refl _ w).alloc (Nat.le_refl _) _⟩
section
variable (x : AVal) (g c : Nat) (w : World)
set_option maxRecDepth 100000 in
set_option maxHeartbeats 1000000 in
theorem index_one (h : VCells w g x) : Calls Try.prog 94 #[.slice (some ⟨g, 0, none⟩) 1 c, .func (.func 77) #[] #[]] w fun e w' => e = .returned (.int .i64 (if (x.f0 == 0) = true then 0 else -1)) ∧ Below w.heap.size w w' := by
  have hw := whole1_calls x w
  have hv := h.mv (Below.refl _ w)
  obtain ⟨r0, r1, r2, r3⟩ := h
  generalize (x.f0 == 0) = b at hw ⊢
  cases b with
  | true =>
    go_enter Try.func94, Try.ntmps94
    go_wp2
    go_loopw [8] (fun v8 wr => v8 = .int .i64 0 ∧ wr = w) (fun v8 _ => 2 - (intOf v8).toNat)
    case atStart => exact ⟨rfl, rfl⟩
    case round =>
      obtain ⟨rfl, rfl⟩ := hrel
      go_wp2_with (go_at_call 77; refine hw.mono ?_; rintro e w1 ⟨rfl, hB⟩)
      go_ret
      exact ⟨rfl, hB⟩
  | false =>
    go_enter Try.func94, Try.ntmps94
    go_wp2
    go_loopw [8] (fun v8 wr => (v8 = .int .i64 0 ∧ wr = w) ∨ (v8 = .int .i64 1 ∧ Aside0 (Below w.heap.size w wr))) (fun v8 _ => 2 - (intOf v8).toNat)
    case atStart => exact .inl ⟨rfl, rfl⟩
    case round =>
      rcases hrel with ⟨rfl, rfl⟩ | ⟨rfl, hB⟩
      · go_wp2_with (go_at_call 77; refine hw.mono ?_; rintro e w1 ⟨rfl, hB⟩; replace hB := Aside0.mk hB)
        go_roundw
        case measure => simp [intOf]
        case rel => exact .inr ⟨by go_num, hB⟩
      · go_wp2
        go_ret
        exact ⟨rfl, hB.out⟩
theorem containsF_one (h : VCells w g x) : Calls Try.prog 76 #[.slice (some ⟨g, 0, none⟩) 1 c, .func (.func 77) #[] #[]] w fun e w' => e = .returned (.bool (x.f0 == 0)) ∧ Below w.heap.size w w' := by
  have hi := index_one x g c w h
  generalize (x.f0 == 0) = b at hi ⊢
  clear h
  cases b with
  | true =>
    rw [if_pos rfl] at hi
    go_enter Try.func76, Try.ntmps76
    go_wp2_with (go_at_call 94; refine hi.mono ?_; rintro e w1 ⟨rfl, hB⟩)
    go_ret
    exact ⟨rfl, hB⟩
  | false =>
    rw [if_neg (by simp)] at hi
    go_enter Try.func76, Try.ntmps76
    go_wp2_with (go_at_call 94; refine hi.mono ?_; rintro e w1 ⟨rfl, hB⟩)
    go_ret
    exact ⟨rfl, hB⟩
theorem whole_one (h : VCells w g x) : Calls Try.prog 58 #[.slice (some ⟨g, 0, none⟩) 1 c] w fun e w' => e = .returned (.bool (!(x.f0 == 0))) ∧ Below w.heap.size w w' := by
  have hc := containsF_one x g c w h
  generalize (x.f0 == 0) = b at hc ⊢
  clear h
  cases b with
  | true =>
    go_enter Try.func58, Try.ntmps58
    go_wp2_with (go_at_call 76; refine hc.mono ?_; rintro e w1 ⟨rfl, hB⟩)
    go_ret
    exact ⟨rfl, hB⟩
  | false =>
    go_enter Try.func58, Try.ntmps58
    go_wp2_with (go_at_call 76; refine hc.mono ?_; rintro e w1 ⟨rfl, hB⟩)
    go_ret
    exact ⟨rfl, hB⟩
end
end Go.Proofs.Ytdammjolkcjogaa

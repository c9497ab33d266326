import Derived.Test.YtdammjolkcjogaaClhM
/-! chain.Run's list of changes; slices.Clone of it. -/
namespace Go.Proofs.Ytdammjolkcjogaa
open Go.RowKit Go.Maps Go.MapKept Go.WideMaps
open Go.Proofs.YtdammjolkcjogaaW.PrintWords Go.Proofs.YtdammjolkcjogaaW.PrintLast Go.Proofs.YtdammjolkcjogaaW.PrintMore
open PModelNames
set_option linter.unusedVariables false
set_option linter.unusedSimpArgs false
/-- A change's cells: a row is set, or goes. -/
def icells : Option (Nat × Nat) → List Value
  | some (gc, gv) => [.int .i64 1, .int .i64 1, .bool false, .slice (some ⟨gc, 0, none⟩) 1 1, .slice (some ⟨gv, 0, none⟩) 1 1, .string ⟨#[]⟩, .slice none 0 0]
  | none => [.int .i64 1, .int .i64 1, .bool true, .slice none 0 0, .slice none 0 0, .string ⟨#[]⟩, .slice none 0 0]
/-- The changes 'its', in block l. -/
structure Items (w : World) (l : Nat) (its : List (Option (Nat × Nat))) : Prop where
  arr : ∃ cur, w.heap[l]? = some (.cells cur 48 (0, 0)) ∧ its.length * 7 ≤ cur.size ∧ ∀ k x, its[k]? = some x → ∀ j, j < 7 → cur[k * 7 + j]? = (icells x)[j]?
  vals : ∀ (k gc gv : Nat), its[k]? = some (some (gc, gv)) → w.heap[gc]? = some (.cells #[.int .i64 0] 3 (0, 0)) ∧ w.heap[gv]? = some (.cells #[.int .u8 1, .int .i64 (k : Int), .int .i64 0, .string ⟨#[]⟩] 53 (0, 0))
section
variable {w w1 : World} {l : Nat} {its : List (Option (Nat × Nat))} {S : Nat → Prop}
theorem Items.lt (h : Items w l its) : l < w.heap.size := by
  obtain ⟨cur, h1, _⟩ := h.arr
  exact blk_lt h1
theorem Items.below (h : Items w l its) (hb : Below w.heap.size w w1) : Items w1 l its := by
  obtain ⟨cur, h1, h2⟩ := h.arr
  exact ⟨⟨cur, (hb.block l (blk_lt h1)).trans h1, h2⟩, fun k gc gv hk => ⟨(hb.block gc (blk_lt (h.vals k gc gv hk).1)).trans (h.vals k gc gv hk).1, (hb.block gv (blk_lt (h.vals k gc gv hk).2)).trans (h.vals k gc gv hk).2⟩⟩
/-- What is changed is neither a list of changes, nor one of numbers, nor of values. -/
theorem Items.chg (h : Items w l its) (hc : Chg w w1 S) (hS : ∀ k cur e, S k → w.heap[k]? = some (.cells cur e (0, 0)) → e ≠ 48 ∧ e ≠ 3 ∧ e ≠ 53) : Items w1 l its := by
  obtain ⟨cur, h1, h2⟩ := h.arr
  refine ⟨⟨cur, (hc.block l (blk_lt h1) (fun hs => (hS l _ _ hs h1).1 rfl)).trans h1, h2⟩, fun k gc gv hk => ?_⟩
  obtain ⟨v1, v2⟩ := h.vals k gc gv hk
  exact ⟨(hc.block gc (blk_lt v1) (fun hs => (hS gc _ _ hs v1).2.1 rfl)).trans v1, (hc.block gv (blk_lt v2) (fun hs => (hS gv _ _ hs v2).2.2 rfl)).trans v2⟩
theorem Items.cell (h : Items w l its) {k : Nat} {x : Option (Nat × Nat)} (hk : its[k]? = some x) (j : Nat) (hj : j < 7) : w.cell? ⟨l, k * 7 + j, none⟩ = (icells x)[j]? := by
  obtain ⟨cur, h1, _, h2⟩ := h.arr
  exact (blk_cell h1 (k * 7 + j)).trans (h2 k x hk j hj)
end
set_option maxRecDepth 100000 in
set_option maxHeartbeats 2000000 in
theorem cloneI {w : World} {l c : Nat} {its : List (Option (Nat × Nat))} (h : Items w l its) (h0 : 0 < its.length) (hn : its.length ≤ 2000) (hc : its.length ≤ c) :
    Calls Try.prog 39 #[.slice (some ⟨l, 0, none⟩) its.length c] w fun e w' => ∃ b C, e = .returned (.slice (some ⟨b, 0, none⟩) its.length C) ∧ its.length ≤ C ∧ w.heap.size ≤ b ∧ Items w' b its ∧ Below w.heap.size w w' := by
  have hq := Lib.run_eql_slice_nil (P := Try.prog) w 37 48 (some ⟨l, 0, none⟩) its.length c 0 0 Try.underlying37
  have Ba : Below w.heap.size w (w.alloc (.cells #[] 48)) := (Below.refl _ w).alloc (Nat.le_refl _) _
  replace h := h.below Ba
  obtain ⟨wa, hwa⟩ : ∃ W, w.alloc (.cells #[] 48) = W := ⟨_, rfl⟩
  rw [hwa] at h Ba
  obtain ⟨cur, h1, h2, h3⟩ := h.arr
  have hld : ∀ w2, w2 = wa ∨ w2 = wa.drew → (Builtin.firstCells 7 its.length (.slice (some ⟨l, 0, none⟩) its.length c)).run Try.prog w2 = .ok ⟨cur.toList.take (its.length * 7)⟩ w2 := fun w2 hw => by
    have hg2 : w2.heap[l]? = some (.cells cur 48 (0, 0)) := by rcases hw with rfl | rfl <;> exact h1
    have := run_loadCells_list (P := Try.prog) w2 ⟨l, 0, none⟩ (cur.toList.take (its.length * 7)) (fun j v hj => by
      rw [show (⟨l, 0, none⟩ : Addr).add j = ⟨l, j, none⟩ by unfold Addr.add; split <;> simp_all]
      refine (blk_cell hg2 j).trans ?_
      rw [List.getElem?_take] at hj
      split at hj
      · simpa using hj
      · cases hj)
    rw [show (cur.toList.take (its.length * 7)).length = its.length * 7 by simp; omega] at this
    exact this
  obtain ⟨C, rest, hC, hrest, hrun⟩ := Ev.run_app_grow (P := Try.prog) (w := wa) (ats := #[37, 37]) (ty := 37) (st := 37) (xt := 37) (el := 48) (size := 7) (n := its.length) (sl := 0) (c := 0) (base := some ⟨w.heap.size, 0, none⟩) (old' := []) (x' := .slice (some ⟨l, 0, none⟩) its.length c)
    rfl rfl Try.underlying37 Try.underlying37 rfl (by kernel_rfl) (i := _) rfl rfl (by decide) (by decide) (by omega) rfl hld (fun w2 _ => by simp [Builtin.firstCells, loadCells, loadCellsFrom]) (by omega)
  have HO : Aside0 (its.length ≤ C ∧ Items (wa.drew.alloc (.cells ⟨[] ++ cur.toList.take (its.length * 7) ++ rest⟩ 48)) wa.heap.size its ∧ Below w.heap.size w (wa.drew.alloc (.cells ⟨[] ++ cur.toList.take (its.length * 7) ++ rest⟩ 48))) := by
    refine ⟨by omega, ⟨⟨_, heap_alloc_new wa.drew _, by simp; omega, fun k x hk j hj => ?_⟩, fun k gc gv hk => ?_⟩, (Ba.drew).alloc Ba.size _⟩
    · rw [← h3 k x hk j hj]
      have hkl := (List.getElem?_eq_some_iff.1 hk).1
      have : k * 7 + j < its.length * 7 := by omega
      simp [List.getElem?_append, List.getElem?_take, this]
      omega
    · obtain ⟨v1, v2⟩ := h.vals k gc gv hk
      exact ⟨(Below.heap_alloc wa.drew _ gc (blk_lt v1)).trans v1, (Below.heap_alloc wa.drew _ gv (blk_lt v2)).trans v2⟩
  generalize wa.drew.alloc (.cells ⟨[] ++ cur.toList.take (its.length * 7) ++ rest⟩ 48) = w2 at HO hrun
  clear hld hC hrest h1 h2 h3 h
  simp only [Nat.zero_add] at hrun
  have Ba' := Aside0.mk Ba.size
  clear Ba
  go_enter Try.func39, Try.ntmps39
  go_wp2_with (at_builtin; refine wpList_append_runL wa rfl (.tmp 5) (.tmp 6) _ rfl _ _ rfl rfl hrun ?_)
  go_ret
  exact ⟨_, _, rfl, HO.out.1, Ba'.out, HO.out.2.1, HO.out.2.2⟩
end Go.Proofs.Ytdammjolkcjogaa

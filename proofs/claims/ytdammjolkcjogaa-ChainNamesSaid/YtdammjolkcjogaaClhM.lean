import Derived.Test.YtdammjolkcjogaaClg
import Derived.Test.YtdammjolkcjogaaGKB
/-! chain's written.note. -/
namespace Go.Proofs.Ytdammjolkcjogaa
open Go.RowKit Go.Maps Go.MapKept Go.WideMaps
open Go.Proofs.YtdammjolkcjogaaW.PrintWords Go.Proofs.YtdammjolkcjogaaW.PrintLast Go.Proofs.YtdammjolkcjogaaW.PrintMore
open PModelNames
set_option linter.unusedVariables false
set_option linter.unusedSimpArgs false
theorem wpList_append_runL {P : Program} (w : World) {ops : Array Oper} {rest : List Oper} {o : Oper} {a : Act} {Q : Exit → Act → World → Prop} (hgd : o.guard = none) (d s : Operand) (ats : Array TypeId)
    (ho : o.op = .call { callee := .builtin .append, args := #[d, s], argTypes := ats }) (v u : Value) (hd : a.eval d = v) (hs : a.eval s = u) {v' : Value} {w' : World}
    (hr : (Builtin.append_ ats o.type #[v, u]).run P w = .ok v' w') (h : wpList P ops Q rest (a.put o.dst v') w') : wpList P ops Q (o :: rest) a w :=
  wpList_plain hgd fun _ hK => by
    unfold Oper.wp execOp
    simp only [ho, resolve, invoke, builtin, Sem.run_bind, Sem.run_pure, Result.andThen_ok, List.map_toArray, List.map_cons, List.map_nil, hd, hs, hr]
    exact hK _ _ h
/-- The rows that were written: one. -/
structure OutB (w : World) (ob : Nat) : Prop where
  ex : ∃ (cur : Array Value) (a1 a2 : Option Addr) (k1 d1 k2 d2 : Nat), w.heap[ob]? = some (.cells cur 101 (0, 0)) ∧ cur[0]? = some (.int .i64 1) ∧ cur[1]? = some (.int .i64 1) ∧ cur[2]? = some (.slice a1 k1 d1) ∧ cur[3]? = some (.slice a2 k2 d2)
theorem OutB.move {w w1 : World} {ob : Nat} (h : OutB w ob) (hb : w1.heap[ob]? = w.heap[ob]?) : OutB w1 ob := by
  obtain ⟨cur, a1, a2, k1, d1, k2, d2, h1, h2⟩ := h
  exact ⟨cur, a1, a2, k1, d1, k2, d2, hb.trans h1, h2⟩
theorem OutB.lt {w : World} {ob : Nat} (h : OutB w ob) : ob < w.heap.size := by
  obtain ⟨cur, a1, a2, k1, d1, k2, d2, h1, h2⟩ := h
  exact blk_lt h1
set_option maxRecDepth 100000 in
set_option maxHeartbeats 2000000 in
theorem insert0 (g : Nat) (u1 u2 : Option Addr) (n1 c1 n2 c2 : Nat) (w : World) (hg : w.heap[g]? = some (.cells #[.int .i64 1, .int .i64 1, .slice u1 n1 c1, .slice u2 n2 c2] 101 (0, 0))) :
    Calls Try.prog 65 #[.slice none 0 0, .int .i64 0, .slice (some ⟨g, 0, none⟩) 1 1] w fun e w' => ∃ ob C, e = .returned (.slice (some ⟨ob, 0, none⟩) 1 C) ∧ 1 ≤ C ∧ w.heap.size ≤ ob ∧ OutB w' ob ∧ Below w.heap.size w w' := by
  have hld : ∀ w2, w2 = w ∨ w2 = w.drew → (Builtin.firstCells 4 1 (.slice (some ⟨g, 0, none⟩) 1 1)).run Try.prog w2 = .ok ⟨[.int .i64 1, .int .i64 1, .slice u1 n1 c1, .slice u2 n2 c2]⟩ w2 := fun w2 hw => by
    have hg2 : w2.heap[g]? = some (.cells #[.int .i64 1, .int .i64 1, .slice u1 n1 c1, .slice u2 n2 c2] 101 (0, 0)) := by rcases hw with rfl | rfl <;> exact hg
    have := run_loadCells_list (P := Try.prog) w2 ⟨g, 0, none⟩ [.int .i64 1, .int .i64 1, .slice u1 n1 c1, .slice u2 n2 c2] (fun j v hj => by
      rw [show (⟨g, 0, none⟩ : Addr).add j = ⟨g, j, none⟩ by unfold Addr.add; split <;> simp_all]
      exact (blk_cell hg2 j).trans (by simpa using hj))
    exact this
  obtain ⟨C, rest, hC, hrest, hrun⟩ := Ev.run_app_grow (P := Try.prog) (w := w) (ats := #[96, 49]) (ty := 96) (st := 96) (xt := 49) (el := 101) (size := 4) (n := 1) (sl := 0) (c := 0) (base := none) (old' := []) (x' := .slice (some ⟨g, 0, none⟩) 1 1)
    rfl rfl Try.underlying96 Try.underlying49 rfl (by kernel_rfl) (i := _) rfl rfl (by decide) (by decide) (by decide) rfl hld (fun w2 _ => by simp [Builtin.firstCells]) (by decide)
  have HO : Aside0 (1 ≤ C ∧ OutB (w.drew.alloc (.cells ⟨[] ++ [.int .i64 1, .int .i64 1, .slice u1 n1 c1, .slice u2 n2 c2] ++ rest⟩ 101)) w.heap.size ∧ Below w.heap.size w (w.drew.alloc (.cells ⟨[] ++ [.int .i64 1, .int .i64 1, .slice u1 n1 c1, .slice u2 n2 c2] ++ rest⟩ 101))) :=
    ⟨by omega, ⟨⟨_, u1, u2, n1, c1, n2, c2, heap_alloc_new w.drew _, by simp, by simp, by simp, by simp⟩⟩, ((Below.refl _ w).drew).alloc (Nat.le_refl _) _⟩
  generalize w.drew.alloc (.cells ⟨[] ++ [.int .i64 1, .int .i64 1, .slice u1 n1 c1, .slice u2 n2 c2] ++ rest⟩ 101) = w2 at HO hrun
  clear hld hg hC hrest
  go_enter Try.func65, Try.ntmps65
  go_wp2_with (at_builtin; refine wpList_append_runL w rfl (.tmp 23) (.tmp 24) _ rfl _ _ rfl rfl hrun ?_)
  go_ret
  exact ⟨_, _, rfl, HO.out.1, Nat.le_refl _, HO.out.2.1, HO.out.2.2⟩
set_option maxRecDepth 100000 in
set_option maxHeartbeats 2000000 in
theorem note_first (u1 u2 : Option Addr) (n1 c1 n2 c2 : Nat) (w : World) :
    Calls Try.prog 41 #[.slice none 0 0, .agg #[.int .i64 1, .int .i64 1, .slice u1 n1 c1, .slice u2 n2 c2]] w fun e w' => ∃ ob C, e = .returned (.slice (some ⟨ob, 0, none⟩) 1 C) ∧ 1 ≤ C ∧ w.heap.size ≤ ob ∧ OutB w' ob ∧ Below w.heap.size w w' := by
  have hs := Aside0.mk (fun (f : Value) (W : World) => search0 (.agg #[.int .i64 1, .int .i64 1, .slice u1 n1 c1, .slice u2 n2 c2]) f (.inr ⟨u1, n1, c1, u2, n2, c2, rfl⟩) W)
  have hi := Aside0.mk insert0
  have z := Aside0.mk (heap_alloc_new w (.cells #[.int .i64 1, .int .i64 1, .slice u1 n1 c1, .slice u2 n2 c2] 101))
  go_enter Try.func41, Try.ntmps41
  go_wp2_with fail
  refine (hs.out _ _).mono ?_
  rintro e w2 ⟨rfl, hB⟩
  have z2 := (hB.block w.heap.size (by simp)).trans z.out
  have k0 := blk_cell z2 0
  have k1 := blk_cell z2 1
  have k2 := blk_cell z2 2
  have k3 := blk_cell z2 3
  simp at k0 k1 k2 k3
  have HB := Aside0.mk (((Below.refl _ w).alloc (Nat.le_refl _) (.cells #[.int .i64 1, .int .i64 1, .slice u1 n1 c1, .slice u2 n2 c2] 101)).trans (hB.mono (by simp)))
  clear hB z2
  go_wp2_with fail
  refine (hi.out w2.heap.size u1 u2 n1 c1 n2 c2 _ (heap_alloc_new w2 _)).mono ?_
  rintro e w3 ⟨ob, C, rfl, h1, h2, h3, h4⟩
  have HE : Aside0 (1 ≤ C ∧ w.heap.size ≤ ob ∧ OutB w3 ob ∧ Below w.heap.size w w3) := ⟨h1, by have := HB.out.size; simp at h2; omega, h3, (HB.out.alloc HB.out.size _).trans (h4.mono (by have := HB.out.size; simp; omega))⟩
  clear h1 h2 h3 h4
  go_wp2
  go_ret
  exact ⟨ob, C, rfl, HE.out⟩
set_option maxRecDepth 100000 in
set_option maxHeartbeats 2000000 in
theorem note_more (u1 u2 : Option Addr) (n1 c1 n2 c2 ob oc : Nat) (w : World) (hoc : 1 ≤ oc) (hO : OutB w ob) :
    Calls Try.prog 41 #[.slice (some ⟨ob, 0, none⟩) 1 oc, .agg #[.int .i64 1, .int .i64 1, .slice u1 n1 c1, .slice u2 n2 c2]] w fun e w' => e = .returned (.slice (some ⟨ob, 0, none⟩) 1 oc) ∧ OutB w' ob ∧ Chg w w' (fun k => k = ob) := by
  obtain ⟨cur, a1, a2, k1, d1, k2, d2, hb, e0, e1, e2, e3⟩ := hO
  have z := Aside0.mk (heap_alloc_new w (.cells #[.int .i64 1, .int .i64 1, .slice u1 n1 c1, .slice u2 n2 c2] 101))
  obtain ⟨w1, hw1⟩ : ∃ W, w.alloc (.cells #[.int .i64 1, .int .i64 1, .slice u1 n1 c1, .slice u2 n2 c2] 101) = W := ⟨_, rfl⟩
  have B1 : Below w.heap.size w w1 := by rw [← hw1]; exact (Below.refl _ w).alloc (Nat.le_refl _) _
  rw [hw1] at z
  have hb1 := (B1.block ob (blk_lt hb)).trans hb
  have hs := Aside0.mk (search1 ob oc a1 a2 u1 u2 k1 d1 k2 d2 n1 c1 n2 c2 w1 hoc ((blk_cell hb1 0).trans e0) ((blk_cell hb1 1).trans e1) ((blk_cell hb1 2).trans e2) ((blk_cell hb1 3).trans e3))
  have y0 := blk_cell z.out 0
  have y1 := blk_cell z.out 1
  have y2 := blk_cell z.out 2
  have y3 := blk_cell z.out 3
  simp at y0 y1 y2 y3
  have HH := Aside0.mk (And.intro hb1 (And.intro B1 (And.intro e0 (And.intro e1 (And.intro e2 e3)))))
  clear hb1 B1 hb e0 e1 e2 e3
  go_enter Try.func41, Try.ntmps41
  go_wp2_with fail
  refine hs.out.mono ?_
  clear hs y0 y1 y2 y3
  rintro e w2 ⟨rfl, hB⟩
  have hb2 := (hB.block ob (blk_lt HH.out.1)).trans HH.out.1
  have z2 := (hB.block w.heap.size (blk_lt z.out)).trans z.out
  have y3 := blk_cell z2 3
  have q3 := (blk_cell hb2 3).trans HH.out.2.2.2.2.2
  have f3 := blk_frozen hb2 3
  simp at y3
  have hlt : 3 < cur.size := (Array.getElem?_eq_some_iff.1 HH.out.2.2.2.2.2).1
  have hS := Aside0.mk (blk_set hb2 3 (.slice u2 n2 c2))
  have HB := Aside0.mk (HH.out.2.1.trans (hB.mono HH.out.2.1.size))
  have hcs : Aside0 (Chg w (w2.setCell ⟨ob, 3, none⟩ (.slice u2 n2 c2)) (fun k => k = ob)) := ⟨((Chg.of_below HB.out (fun k => k = ob))).setCell (p := ⟨ob, 3, none⟩) (.inl rfl) _⟩
  clear hB hb2 z2
  go_wp2
  go_ret
  refine ⟨rfl, ⟨_, a1, u2, k1, d1, n2, c2, hS.out, ?_, ?_, ?_, ?_⟩, hcs.out⟩
  · simp [Array.getElem?_setIfInBounds, HH.out.2.2.1]
  · simp [Array.getElem?_setIfInBounds, HH.out.2.2.2.1]
  · simp [Array.getElem?_setIfInBounds, HH.out.2.2.2.2.1]
  · simp [Array.getElem?_setIfInBounds, hlt]
end Go.Proofs.Ytdammjolkcjogaa

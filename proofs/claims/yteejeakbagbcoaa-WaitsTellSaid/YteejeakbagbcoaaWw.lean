import Derived.Test.YteejeakbagbcoaaWi
import Derived.Test.YteejeakbagbcoaaWsx
/-! waits.Victim; works: the examples are as they are told. -/
namespace Go.Proofs.Yteejeakbagbcoaa
open Go.RowKit Go.Maps Go.MapKept Go.WideMaps
open Go.Proofs.YteejeakbagbcoaaW.PrintWords Go.Proofs.YteejeakbagbcoaaW.PrintLast Go.Proofs.YteejeakbagbcoaaW.PrintMore
set_option linter.unusedVariables false
set_option linter.unusedSimpArgs false

def victimL (l : List Int) : Int := if l = [] then 0 else Lib.maxOf l
theorem victim_nil (c : Nat) (w : World) : Calls Try.prog 15 #[.slice none 0 c] w fun e w' => e = .returned (.int .i64 0) ∧ w' = w := by
  have hg : Calls Try.prog 30 #[.slice none 0 c] w fun e w' => e = .returned (.int .i64 0) ∧ w' = w := by
    go_enter Try.func30, Try.ntmps30
    go_wp2
    go_ret
    exact ⟨rfl, rfl⟩
  go_enter Try.func15, Try.ntmps15
  go_wp2_with fail
  refine hg.mono ?_
  rintro e w1 ⟨rfl, rfl⟩
  go_wp2
  go_ret
  exact ⟨rfl, rfl⟩
theorem victim_calls (b off c : Nat) (l : List Int) (w : World) (hl : 0 < l.length) (hb : l.length ≤ 9223372036854775807) (hc : ∀ j, j < l.length → w.cell? ⟨b, off + j, none⟩ = some (.int .i64 (l.getD j 0))) :
    Calls Try.prog 15 #[.slice (some ⟨b, off, none⟩) l.length c] w fun e w' => e = .returned (.int .i64 (Lib.maxOf l)) ∧ w' = w := by
  have hm := AnyG.slices_Max_int Try.laysMax b off l.length c l w hl (Nat.le_refl _) hb hc
  rw [List.take_length] at hm
  change Calls Try.prog 38 _ _ _ at hm
  have n0 : ((l.length : Int) == 0) = false := beq_eq_false_iff_ne.2 (by omega)
  clear hc
  have hg : Calls Try.prog 30 #[.slice (some ⟨b, off, none⟩) l.length c] w fun e w' => e = .returned (.int .i64 (Lib.maxOf l)) ∧ w' = w := by
    go_enter Try.func30, Try.ntmps30
    go_wp2_with fail
    refine hm.mono ?_
    rintro e w1 ⟨rfl, rfl⟩
    go_wp2
    go_ret
    exact ⟨rfl, rfl⟩
  clear hm
  go_enter Try.func15, Try.ntmps15
  go_wp2_with fail
  refine hg.mono ?_
  rintro e w1 ⟨rfl, rfl⟩
  go_wp2
  go_ret
  exact ⟨rfl, rfl⟩

theorem flat2 : ∀ (es : Edges) (j : Nat) (x : Int × Int), es[j]? = some x → (es.flatMap fun e => [Value.int .i64 e.1, Value.int .i64 e.2])[j * 2]? = some (.int .i64 x.1) ∧ (es.flatMap fun e => [Value.int .i64 e.1, Value.int .i64 e.2])[j * 2 + 1]? = some (.int .i64 x.2)
  | [], j, x, h => by simp at h
  | e :: es, 0, x, h => by
    simp at h
    subst h
    simp
  | e :: es, j + 1, x, h => by
    have ih := flat2 es j x (by simpa using h)
    simp only [List.flatMap_cons]
    rw [show (j + 1) * 2 = (j * 2) + 1 + 1 from by omega]
    exact ih
theorem C_edges {W : World} {b t : Nat} {cs : Array Value} {es : Edges} (h : W.heap[b]? = some (.cells cs t (0, 0))) (hcs : cs.toList = es.flatMap fun e => [Value.int .i64 e.1, Value.int .i64 e.2]) (hl : es.length ≤ maxLen) : Kd.C kEdge W (some ⟨b, 0, none⟩) es.length es :=
  ⟨rfl, hl, fun _ => ⟨_, rfl, fun j x hj => ⟨[.int .i64 x.1, .int .i64 x.2], rfl, ⟨[.int .i64 x.1], [.int .i64 x.2], rfl, rfl, rfl⟩, fun i u hu => by
    obtain ⟨h1, h2⟩ := flat2 es j x hj
    rw [← hcs, Array.getElem?_toList] at h1 h2
    match i, hu with
    | 0, hu =>
      simp at hu
      subst hu
      have := (blk_cell h (j * 2)).trans h1
      have e : (⟨b, 0, none⟩ : Addr).add (j * 2 + 0) = ⟨b, j * 2, none⟩ := by simp [Addr.add]; omega
      show W.cell? ((⟨b, 0, none⟩ : Addr).add (j * 2 + 0)) = _
      rw [e]
      exact this
    | 1, hu =>
      simp at hu
      subst hu
      have := (blk_cell h (j * 2 + 1)).trans h2
      show W.cell? ((⟨b, 0, none⟩ : Addr).add (j * 2 + 1)) = _
      simpa [Addr.add] using this⟩⟩⟩
theorem C_ints {W : World} {b t : Nat} {cs : Array Value} {xs : List Int} (h : W.heap[b]? = some (.cells cs t (0, 0))) (hcs : cs.toList = xs.map (Value.int .i64)) (hl : xs.length ≤ maxLen) : Kd.C kInt W (some ⟨b, 0, none⟩) xs.length xs :=
  ⟨rfl, hl, fun _ => ⟨_, rfl, fun j x hj => ⟨[.int .i64 x], rfl, rfl, fun i u hu => by
    match i, hu with
    | 0, hu =>
      simp at hu
      subst hu
      have h1 : cs[j]? = some (.int .i64 x) := by rw [← Array.getElem?_toList, hcs, List.getElem?_map, hj]; rfl
      have := (blk_cell h j).trans h1
      have e : (⟨b, 0, none⟩ : Addr).add (j * 1 + 0) = ⟨b, j, none⟩ := by simp [Addr.add]; omega
      show W.cell? ((⟨b, 0, none⟩ : Addr).add (j * 1 + 0)) = _
      rw [e]
      exact this⟩⟩⟩
theorem C_none (w : World) : Kd.C kInt w none 0 [] := ⟨rfl, Nat.zero_le _, fun h => absurd h (Nat.lt_irrefl _)⟩

/-! What the functions tell of waits that are written out. -/
theorem circle_want {es : Edges} {a : Int} {l want : List Int} (h : IsCircle es a l) (h1 : decide (want.Pairwise (· < ·)) = true) (h2 : (want.all fun x => (reachL es a).contains x && (reachL es x).contains a) = true)
    (h3 : ((reachL es a).all fun x => !(reachL es x).contains a || want.contains x) = true) : l = want :=
  rise_ext h.1 (of_decide_eq_true h1) (fun x => by
    rw [h.2, ← mem_reachL, ← mem_reachL]
    rw [List.all_eq_true] at h2 h3
    constructor
    · rintro ⟨p1, p2⟩
      have := h3 x p1
      simpa [p2] using this
    · intro hx
      have := h2 x hx
      simpa using this)
theorem reach_want {es : Edges} {a : Int} {l want : List Int} (h : IsReach es a l) (h1 : decide (want.Pairwise (· < ·)) = true) (h2 : (want.all fun x => (reachL es a).contains x) = true) (h3 : ((reachL es a).all fun x => want.contains x) = true) : l = want :=
  rise_ext h.1 (of_decide_eq_true h1) (fun x => by
    rw [h.2, ← mem_reachL]
    rw [List.all_eq_true] at h2 h3
    constructor
    · intro p1
      simpa using h3 x p1
    · intro hx
      simpa using h2 x hx)
theorem any_want {es : Edges} {l want : List Int} (h : IsAny es l) (h1 : decide (want.Pairwise (· < ·)) = true) (h2 : (want.all fun x => (reachL es x).contains x) = true) (h3 : ((es.map (·.1)).all fun x => !(reachL es x).contains x || want.contains x) = true) : l = want :=
  rise_ext h.1 (of_decide_eq_true h1) (fun x => by
    rw [h.2, ← mem_reachL]
    rw [List.all_eq_true] at h2 h3
    constructor
    · intro p1
      obtain ⟨c, hc⟩ := ((mem_reachL es x x).1 p1).head
      have := h3 x (List.mem_map.2 ⟨(x, c), hc, rfl⟩)
      simpa [p1] using this
    · intro hx
      simpa using h2 x hx)
def okEdges (es : Edges) : Bool := es.all fun e => (Lit.int .i64 e.1).wf && (Lit.int .i64 e.2).wf
theorem ok_edges {es : Edges} (h : okEdges es = true) : ∀ e ∈ es, okI e.1 ∧ okI e.2 := fun e he => by
  have := List.all_eq_true.1 h e he
  simpa [okI] using this

theorem is_same (A0 A1 : Option Addr) (c0 c1 : Nat) (l : List Int) (w : World) (h0 : Kd.C kInt w A0 l.length l) (h1 : Kd.C kInt w A1 l.length l) (hb : l.length < 100000) :
    Calls Try.prog 11 #[.slice A0 l.length c0, .slice A1 l.length c1] w fun e w' => e = .returned (.bool true) ∧ Below w.heap.size w w' :=
  (is_calls A0 A1 c0 c1 l l w h0 h1 hb).mono fun e w' h => by rwa [show decide (l = l) = true from decide_eq_true rfl] at h
def ex1 : Edges := [(5, 5)]
def ex0 : Edges := [(1, 2), (2, 3), (3, 1), (3, 4)]

set_option maxRecDepth 100000 in
set_option maxHeartbeats 2000000 in
theorem works_calls (w : World) : Calls Try.prog 10 #[] w fun e w' => e = .returned (.bool true) ∧ Below w.heap.size w w' := by
  have hblk := blk_new w (.cells #[.int .i64 1, .int .i64 2, .int .i64 2, .int .i64 3, .int .i64 3, .int .i64 1, .int .i64 3, .int .i64 4] 22)
  have hB1 : Below w.heap.size w (w.alloc (.cells #[.int .i64 1, .int .i64 2, .int .i64 2, .int .i64 3, .int .i64 3, .int .i64 1, .int .i64 3, .int .i64 4] 22)) := (Below.refl _ w).alloc (Nat.le_refl _) _
  obtain ⟨w1, hw1⟩ : ∃ w1, w.alloc (.cells #[.int .i64 1, .int .i64 2, .int .i64 2, .int .i64 3, .int .i64 3, .int .i64 1, .int .i64 3, .int .i64 4] 22) = w1 := ⟨_, rfl⟩
  rw [hw1] at hblk hB1
  have hE : Edg w1 (some ⟨w.heap.size, 0, none⟩) 4 ex0 := ⟨C_edges hblk rfl (by decide), by decide, ok_edges (by decide +kernel), by decide⟩
  obtain ⟨bn, hbn⟩ : ∃ bn, w.heap.size = bn := ⟨_, rfl⟩
  rw [hbn] at hE
  have HB1 := Aside0.mk hB1
  clear hblk hB1
  have HB0 := HB1
  clear HB1
  have HB1 := Aside0.mk (Below.refl w1.heap.size w1)
  replace hE := Aside0.mk hE
  go_enter Try.func10, Try.ntmps10
  have n := circle_calls (some ⟨bn, 0, none⟩) 4 ex0 1 w1 (hE.out.below HB1.out) (by unfold okI; decide +kernel)
  change Calls Try.prog 12 #[.slice (some ⟨bn, 0, none⟩) 4 4, .int .i64 1] _ _ at n
  go_wp2_with fail
  refine n.mono ?_
  clear n
  rintro e w2a ⟨v2, l2, rfl, hC, hR, hB⟩
  obtain rfl := circle_want hC (want := [1, 2, 3]) (by decide) (by decide +kernel) (by decide +kernel)
  obtain ⟨a2, c2, rfl, _, hr⟩ := Kd.R_reads hR
  have HA2 := Aside0.mk (HB1.out.trans (hB.mono HB1.out.size))
  have hBl : Below w2a.heap.size w2a (w2a.alloc (.cells #[.int .i64 1, .int .i64 2, .int .i64 3] 3)) := (Below.refl _ w2a).alloc (Nat.le_refl _) _
  have n := is_same a2 (some ⟨w2a.heap.size, 0, none⟩) c2 3 [1, 2, 3] _ (Kd.C_below hr hBl) (C_ints (xs := [1, 2, 3]) (blk_new w2a _) rfl (by decide)) (by decide)
  change Calls Try.prog 11 #[.slice a2 3 c2, .slice (some ⟨w2a.heap.size, 0, none⟩) 3 3] _ _ at n
  replace HA2 := Aside0.mk (HA2.out.trans (hBl.mono HA2.out.size))
  clear hC hR hB hr hBl
  go_wp2_with fail
  refine n.mono ?_
  clear n
  rintro e w2 ⟨rfl, hB⟩
  have HB2 := Aside0.mk (HA2.out.trans (hB.mono HA2.out.size))
  clear hB
  have n := circle_calls (some ⟨bn, 0, none⟩) 4 ex0 4 w2 (hE.out.below HB2.out) (by unfold okI; decide +kernel)
  change Calls Try.prog 12 #[.slice (some ⟨bn, 0, none⟩) 4 4, .int .i64 4] _ _ at n
  go_wp2_with fail
  refine n.mono ?_
  clear n
  rintro e w3a ⟨v3, l3, rfl, hC, hR, hB⟩
  obtain rfl := circle_want hC (want := []) (by decide) (by decide +kernel) (by decide +kernel)
  obtain ⟨a3, c3, rfl, _, hr⟩ := Kd.R_reads hR
  have HA3 := Aside0.mk (HB2.out.trans (hB.mono HB2.out.size))
  have n := is_same a3 none c3 0 [] w3a hr (C_none _) (by decide)
  change Calls Try.prog 11 #[.slice a3 0 c3, .slice none 0 0] _ _ at n
  clear hC hR hB hr
  go_wp2_with fail
  refine n.mono ?_
  clear n
  rintro e w3 ⟨rfl, hB⟩
  have HB3 := Aside0.mk (HA3.out.trans (hB.mono HA3.out.size))
  clear hB
  have n := reach_calls (some ⟨bn, 0, none⟩) 4 ex0 4 w3 (hE.out.below HB3.out) (by unfold okI; decide +kernel)
  change Calls Try.prog 14 #[.slice (some ⟨bn, 0, none⟩) 4 4, .int .i64 4] _ _ at n
  go_wp2_with fail
  refine n.mono ?_
  clear n
  rintro e w4a ⟨v4, l4, rfl, hC, hR, hB⟩
  obtain rfl := reach_want hC (want := []) (by decide) (by decide +kernel) (by decide +kernel)
  obtain ⟨a4, c4, rfl, _, hr⟩ := Kd.R_reads hR
  have HA4 := Aside0.mk (HB3.out.trans (hB.mono HB3.out.size))
  have n := is_same a4 none c4 0 [] w4a hr (C_none _) (by decide)
  change Calls Try.prog 11 #[.slice a4 0 c4, .slice none 0 0] _ _ at n
  clear hC hR hB hr
  go_wp2_with fail
  refine n.mono ?_
  clear n
  rintro e w4 ⟨rfl, hB⟩
  have HB4 := Aside0.mk (HA4.out.trans (hB.mono HA4.out.size))
  clear hB
  have n := reach_calls (some ⟨bn, 0, none⟩) 4 ex0 1 w4 (hE.out.below HB4.out) (by unfold okI; decide +kernel)
  change Calls Try.prog 14 #[.slice (some ⟨bn, 0, none⟩) 4 4, .int .i64 1] _ _ at n
  go_wp2_with fail
  refine n.mono ?_
  clear n
  rintro e w5a ⟨v5, l5, rfl, hC, hR, hB⟩
  obtain rfl := reach_want hC (want := [1, 2, 3, 4]) (by decide) (by decide +kernel) (by decide +kernel)
  obtain ⟨a5, c5, rfl, _, hr⟩ := Kd.R_reads hR
  have HA5 := Aside0.mk (HB4.out.trans (hB.mono HB4.out.size))
  have hBl : Below w5a.heap.size w5a (w5a.alloc (.cells #[.int .i64 1, .int .i64 2, .int .i64 3, .int .i64 4] 3)) := (Below.refl _ w5a).alloc (Nat.le_refl _) _
  have n := is_same a5 (some ⟨w5a.heap.size, 0, none⟩) c5 4 [1, 2, 3, 4] _ (Kd.C_below hr hBl) (C_ints (xs := [1, 2, 3, 4]) (blk_new w5a _) rfl (by decide)) (by decide)
  change Calls Try.prog 11 #[.slice a5 4 c5, .slice (some ⟨w5a.heap.size, 0, none⟩) 4 4] _ _ at n
  replace HA5 := Aside0.mk (HA5.out.trans (hBl.mono HA5.out.size))
  clear hC hR hB hr hBl
  go_wp2_with fail
  refine n.mono ?_
  clear n
  rintro e w5 ⟨rfl, hB⟩
  have HB5 := Aside0.mk (HA5.out.trans (hB.mono HA5.out.size))
  clear hB
  have n := any_calls (some ⟨bn, 0, none⟩) 4 ex0 w5 (hE.out.below HB5.out)
  change Calls Try.prog 13 #[.slice (some ⟨bn, 0, none⟩) 4 4] _ _ at n
  go_wp2_with fail
  refine n.mono ?_
  clear n
  rintro e w6a ⟨v6, l6, rfl, hC, hR, hB⟩
  obtain rfl := any_want hC (want := [1, 2, 3]) (by decide) (by decide +kernel) (by decide +kernel)
  obtain ⟨a6, c6, rfl, _, hr⟩ := Kd.R_reads hR
  have HA6 := Aside0.mk (HB5.out.trans (hB.mono HB5.out.size))
  have hBl : Below w6a.heap.size w6a (w6a.alloc (.cells #[.int .i64 1, .int .i64 2, .int .i64 3] 3)) := (Below.refl _ w6a).alloc (Nat.le_refl _) _
  have n := is_same a6 (some ⟨w6a.heap.size, 0, none⟩) c6 3 [1, 2, 3] _ (Kd.C_below hr hBl) (C_ints (xs := [1, 2, 3]) (blk_new w6a _) rfl (by decide)) (by decide)
  change Calls Try.prog 11 #[.slice a6 3 c6, .slice (some ⟨w6a.heap.size, 0, none⟩) 3 3] _ _ at n
  replace HA6 := Aside0.mk (HA6.out.trans (hBl.mono HA6.out.size))
  clear hC hR hB hr hBl
  go_wp2_with fail
  refine n.mono ?_
  clear n
  rintro e w6 ⟨rfl, hB⟩
  have HB6 := Aside0.mk (HA6.out.trans (hB.mono HA6.out.size))
  clear hB
  have hblk1 := blk_new w6 (.cells #[.int .i64 5, .int .i64 5] 22)
  have hBx : Below w6.heap.size w6 (w6.alloc (.cells #[.int .i64 5, .int .i64 5] 22)) := (Below.refl _ w6).alloc (Nat.le_refl _) _
  have HBx := Aside0.mk (HB6.out.trans (hBx.mono HB6.out.size))
  have hE1 : Edg (w6.alloc (.cells #[.int .i64 5, .int .i64 5] 22)) (some ⟨w6.heap.size, 0, none⟩) 1 ex1 := ⟨C_edges hblk1 rfl (by decide), by decide, ok_edges (by decide +kernel), by decide⟩
  clear hblk1 hBx
  have n := circle_calls (some ⟨w6.heap.size, 0, none⟩) 1 ex1 5 (w6.alloc (.cells #[.int .i64 5, .int .i64 5] 22)) hE1 (by unfold okI; decide +kernel)
  change Calls Try.prog 12 #[.slice (some ⟨w6.heap.size, 0, none⟩) 1 1, .int .i64 5] _ _ at n
  go_wp2_with fail
  refine n.mono ?_
  clear n
  rintro e w7a ⟨v7, l7, rfl, hC, hR, hB⟩
  obtain rfl := circle_want hC (want := [5]) (by decide) (by decide +kernel) (by decide +kernel)
  obtain ⟨a7, c7, rfl, _, hr⟩ := Kd.R_reads hR
  have HA7 := Aside0.mk (HBx.out.trans (hB.mono HBx.out.size))
  have hBl : Below w7a.heap.size w7a (w7a.alloc (.cells #[.int .i64 5] 3)) := (Below.refl _ w7a).alloc (Nat.le_refl _) _
  have n := is_same a7 (some ⟨w7a.heap.size, 0, none⟩) c7 1 [5] _ (Kd.C_below hr hBl) (C_ints (xs := [5]) (blk_new w7a _) rfl (by decide)) (by decide)
  change Calls Try.prog 11 #[.slice a7 1 c7, .slice (some ⟨w7a.heap.size, 0, none⟩) 1 1] _ _ at n
  replace HA7 := Aside0.mk (HA7.out.trans (hBl.mono HA7.out.size))
  clear hC hR hB hr hBl hE1
  go_wp2_with fail
  refine n.mono ?_
  clear n
  rintro e w7 ⟨rfl, hB⟩
  have HB7 := Aside0.mk (HA7.out.trans (hB.mono HA7.out.size))
  clear hB
  have hcells := (C_ints (xs := [2, 9, 4]) (blk_new w7 (.cells #[.int .i64 2, .int .i64 9, .int .i64 4] 3)) rfl (by decide))
  have hBv : Below w7.heap.size w7 (w7.alloc (.cells #[.int .i64 2, .int .i64 9, .int .i64 4] 3)) := (Below.refl _ w7).alloc (Nat.le_refl _) _
  have n := victim_calls w7.heap.size 0 3 [2, 9, 4] (w7.alloc (.cells #[.int .i64 2, .int .i64 9, .int .i64 4] 3)) (by decide) (by decide) (fun j hj => by
    have hb := blk_new w7 (.cells #[.int .i64 2, .int .i64 9, .int .i64 4] 3)
    have hj2 : j = 0 ∨ j = 1 ∨ j = 2 := by simp at hj; omega
    rcases hj2 with rfl | rfl | rfl
    · exact blk_cell hb 0
    · exact blk_cell hb 1
    · exact blk_cell hb 2)
  rw [show Lib.maxOf [2, 9, 4] = 9 from by decide] at n
  change Calls Try.prog 15 #[.slice (some ⟨w7.heap.size, 0, none⟩) 3 3] _ _ at n
  have HV := Aside0.mk (HB7.out.trans (hBv.mono HB7.out.size))
  clear hcells hBv
  go_wp2_with fail
  refine n.mono ?_
  clear n
  rintro e w8 ⟨rfl, rfl⟩
  go_wp2
  go_ret
  exact ⟨rfl, HB0.out.trans (HV.out.mono HB0.out.size)⟩
end Go.Proofs.Yteejeakbagbcoaa

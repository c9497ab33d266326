import Derived.Test.YtdammjolkcjogaaMt
import Derived.Test.YtdammjolkcjogaaTv
import Derived.RangeFuncCalls
import Derived.RangeFuncLeaves
import Derived.BigRegionIn
/-! model: the rows of a table, told one by one. -/
namespace Go.Proofs.Ytdammjolkcjogaa
open Go.RowKit Go.Maps Go.MapKept Go.WideMaps Go.Shelf
open Go.Proofs.YtdammjolkcjogaaW.PrintWords Go.Proofs.YtdammjolkcjogaaW.PrintLast Go.Proofs.YtdammjolkcjogaaW.PrintMore
open PModelNames
attribute [local go_sem] Oper.semAt_some
set_option linter.unusedVariables false
set_option linter.unusedSimpArgs false

theorem mrows_calls (v : Value) (no : Int) (w : World) (hv : v = .pointer none ∨ ∃ m, v = .pointer (some ⟨m, 0, none⟩)) : Calls Try.prog 27 #[v, .int .i64 no] w fun e w' =>
    e = .returned (.func (.func 48) #[] #[.pointer (some ⟨w.heap.size, 0, none⟩), .pointer (some ⟨w.heap.size + 1, 0, none⟩)]) ∧ w' = (w.alloc (.cells #[v] 22)).alloc (.cells #[.int .i64 no] 3) := by
  rcases hv with rfl | ⟨m, rfl⟩
  · go_enter Try.func27, Try.ntmps27
    go_wp2
    go_ret
    exact ⟨by simp, rfl⟩
  · go_enter Try.func27, Try.ntmps27
    go_wp2
    go_ret
    exact ⟨by simp, rfl⟩
/-- A row as it is told: its ID, and its values as they lie. -/
def encR (p : Int × Value) : Array Value := #[.int .i64 p.1, p.2]
def encQ {Q : Int × Value → Prop} (p : { p : Int × Value // Q p }) : Array Value := encR p.val
set_option maxRecDepth 100000 in
set_option maxHeartbeats 2000000 in
theorem rows1_nil (Q : Int × Value → Prop) (bm bn : Nat) (no : Int) (w : World) (hm : w.heap[bm]? = some (.cells #[.pointer none] 22 (0, 0))) (hn : w.heap[bn]? = some (.cells #[.int .i64 no] 3 (0, 0))) (n : Nat) (hn3 : 3 ≤ n) :
    SeqV Fence.wide n Try.prog 48 #[.pointer (some ⟨bm, 0, none⟩), .pointer (some ⟨bn, 0, none⟩)] (encQ (Q := Q)) (fun X Y => Chg X Y (fun _ => False)) (fun _ _ => True) (fun xs => xs.map (·.val) = []) (fun _ => True) 1 w := by
  intro l J Jx W hB hJ hJx hY h0
  have cm := blk_cell ((hB.block bm (blk_lt hm)).trans hm) 0
  have cn := blk_cell ((hB.block bn (blk_lt hn)).trans hn) 0
  simp at cm cn
  have hJd : J [] W.drew := hJ _ _ _ h0 ((Chg.refl W _).drew)
  refine callsIn_of_wp Try.func48 rfl trivial ?_ rfl
  simp only [Try.ntmps48, List.size_toArray, List.length_cons, List.length_nil, Nat.reduceAdd, Nat.reduceSub, Array.replicate_succ, Array.replicate_zero, List.push_toArray, List.append_toArray, List.nil_append, List.cons_append]
  gi_wp2
  gi_region_both
  all_goals
    simp only [Act.put, List.getElem_toArray, List.getElem_cons_zero, List.getElem_cons_succ, List.setIfInBounds_toArray, List.set_cons_zero, List.set_cons_succ]
    gi_wp2
    refine bodyPost_ret (results_none rfl _ _ _) rfl ?_
    exact ⟨⟨_, rfl⟩, .inl ⟨[], rfl, hJd⟩⟩
theorem one_key {w4 : World} {i0 : Int} {v0 v : Value} {ll : List Int} {g0 : Int → Option Value} {base : Nat} {ok : Nat → Prop} (hrise : ll.Pairwise (· < ·)) (hmem : ∀ x, x ∈ ll ↔ ∃ u, g0 x = some u) (hv0 : g0 i0 = some v0) (hone : ∀ x u, g0 x = some u → x = i0) (hR : Kd.R kInt 3 w4 base ok v ll) :
    ∃ g cap, v = .slice (some ⟨g, 0, none⟩) 1 cap ∧ w4.cell? ⟨g, 0, none⟩ = some (.int .i64 i0) ∧ (1 : Int) ≤ (cap : Int) := by
  have hll : ll = [i0] := by
    have h1 : i0 ∈ ll := (hmem i0).2 ⟨v0, hv0⟩
    have h2 : ∀ y ∈ ll, y = i0 := fun y hy => by
      obtain ⟨u, hu⟩ := (hmem y).1 hy
      exact hone y u hu
    match ll, hrise, h1, h2 with
    | [a], _, _, h2 => rw [h2 a (by simp)]
    | a :: b :: t, h, _, h2 =>
      rw [List.pairwise_cons] at h
      have h3 := h.1 b (by simp)
      rw [h2 a (by simp), h2 b (by simp)] at h3
      omega
  subst hll
  obtain ⟨g, cap, hv, hcap, hmx, hcell, _⟩ := int_cells hR (i := 0) (by simp)
  exact ⟨g, cap, hv, hcell, by simp at hcap; omega⟩
section
variable {w : World} {m : Nat} {I : MI} {F : Nat → Prop} {mb : Nat} {tb : Int → Option (Nat × Nat)} {rv : Int → Int → Option Value}
set_option maxRecDepth 100000 in
set_option maxHeartbeats 4000000 in
/-- A table of one row. -/
theorem rows1_one (Q : Int × Value → Prop) (bm bn : Nat) (no i0 : Int) (v0 : Value) (hQ : Q (i0, v0)) (H : InstAt w m I F mb tb rv) (hm : w.heap[bm]? = some (.cells #[.pointer (some ⟨m, 0, none⟩)] 22 (0, 0))) (hn : w.heap[bn]? = some (.cells #[.int .i64 no] 3 (0, 0)))
    (hv0 : rv no i0 = some v0) (hone : ∀ x u, rv no x = some u → x = i0) (n : Nat) (hn3 : 8 ≤ n) :
    SeqV Fence.wide n Try.prog 48 #[.pointer (some ⟨bm, 0, none⟩), .pointer (some ⟨bn, 0, none⟩)] (encQ (Q := Q)) (fun X Y => Chg X Y (fun _ => False)) (fun _ _ => True) (fun xs => xs.map (·.val) = [(i0, v0)]) (fun _ => True) 1 w := by
  intro l J Jx W hB hJ hJx hY h0
  have HW := H.below hB
  have hbm := (hB.block bm (blk_lt hm)).trans hm
  have hbn := (hB.block bn (blk_lt hn)).trans hn
  have cm := blk_cell hbm 0
  have cn := blk_cell hbn 0
  have c0 := blk_cell HW.blk 0
  simp at cm cn c0
  have hn1 : 1 ≤ n := by omega
  obtain ⟨x, hx⟩ : ∃ x, tb no = some x := by
    cases ht : tb no with
    | some x => exact ⟨x, rfl⟩
    | none =>
      rw [(H.off no ht).1 i0] at hv0
      cases hv0
  obtain ⟨t, r⟩ := x
  have ho := H.amap.good hx
  obtain ⟨b1, b2, _, _, _⟩ := HW.tabs no t r hx
  have c1 := blk_cell b1 0
  simp at c1
  have hlk := HW.amap.look keyInt Try.underlying60 (Try.zeroTab _) false ho
  rw [hx] at hlk
  have hlk2 : (Instr.lookup 60 (.map (some mb)) (.int .i64 no) false).run Try.prog W = .ok (.pointer (some ⟨t, 0, none⟩)) W := hlk
  have hlkd : (Instr.lookup 60 (.map (some mb)) (.int .i64 no) false).run Try.prog W.drew = .ok (.pointer (some ⟨t, 0, none⟩)) W.drew := by
    have h1 := HW.amap.drew.look keyInt Try.underlying60 (Try.zeroTab _) false ho
    rw [hx] at h1
    exact h1
  have hlkd2 : (Instr.lookup 60 (.map (some mb)) (.int .i64 no) false).run Try.prog W.drew.drew = .ok (.pointer (some ⟨t, 0, none⟩)) W.drew.drew := by
    have h1 := HW.amap.drew.drew.look keyInt Try.underlying60 (Try.zeroTab _) false ho
    rw [hx] at h1
    exact h1
  refine callsIn_of_wp Try.func48 rfl trivial ?_ rfl
  simp only [Try.ntmps48, List.size_toArray, List.length_cons, List.length_nil, Nat.reduceAdd, Nat.reduceSub, Array.replicate_succ, Array.replicate_zero, List.push_toArray, List.append_toArray, List.nil_append, List.cons_append]
  gi_wp2
  gi_region_both
  gi_wp2
  gi_region_both
  have B2 : Below W.heap.size W W.drew.drew := (Below.refl _ W).drew.drew
  have hk := keysR_calls (some r) W.drew.drew
  have H2 := HW.below B2
  have hbx := heap_alloc_new W.drew.drew (.cells #[.map (some r)] 57)
  have B3 : Below W.heap.size W (W.drew.drew.alloc (.cells #[.map (some r)] 57)) := B2.alloc (Nat.le_refl _) _
  have H3 := HW.below B3
  have s3 : (W.drew.drew.alloc (.cells #[.map (some r)] 57)).heap.size = W.heap.size + 1 := by simp
  obtain ⟨w3, hw3⟩ : ∃ w3, W.drew.drew.alloc (.cells #[.map (some r)] 57) = w3 := ⟨_, rfl⟩
  rw [hw3] at hk hbx B3 H3 s3
  have hs := sortedKeysR W.heap.size r 1 (rv no) (fun ss h1 h2 => nodup_sub ss [i0] h1 (fun y hy => by
    obtain ⟨u, hu⟩ := h2 y hy
    rw [hone y u hu]
    simp)) (by decide) w3 (by simpa using blk_cell hbx 0) (H3.tabs no t r hx).2.1
  have HB := Aside0.mk (And.intro B3 (And.intro H3 (And.intro hv0 (And.intro hone hx))))
  clear H2 H3 B2 B3 hbx hlk hlk2 hlkd hlkd2 b1 b2 c1 cm cn c0 hw3
  gi_wp2_with (first
    | (refine ⟨trivial, ?_⟩; gi_at_call 49; refine (callsIn_wide.2 hk).mono ?_; rintro e wq ⟨he, hq⟩; rw [he, hq]; clear he hq)
    | (refine ⟨trivial, ?_⟩; gi_at_call 23; refine (callsIn_wide.2 hs).mono ?_; rintro e w4 ⟨v, ll, rfl, hrise, hmem, hR, hB4⟩; obtain ⟨g, cap, ev, hcell', hcap'⟩ := one_key hrise hmem HB.out.2.2.1 HB.out.2.2.2.1 hR; subst ev; clear hR hrise hmem))
  have B4 := HB.out.1.trans (hB4.mono HB.out.1.size)
  have H4 := HB.out.2.1.below hB4
  have hJ4 : J [] w4 := hJ _ _ _ h0 (Chg.of_below B4 _)
  have hoi := (H4.tabs no t r HB.out.2.2.2.2).2.1.good HB.out.2.2.1
  have hlr := (H4.tabs no t r HB.out.2.2.2.2).2.1.look keyInt Try.underlying57 (Try.zeroRow w4) false hoi
  rw [HB.out.2.2.1] at hlr
  have hlr2 : (Instr.lookup 57 (.map (some r)) (.int .i64 i0) false).run Try.prog w4 = .ok v0 w4 := hlr
  obtain ⟨fn, tmps, assign, body, hy, hRR⟩ := hY [] ⟨(i0, v0), hQ⟩ w4 hJ4 (by simp)
  simp only [encQ, encR] at hy
  clear B4 H4 hlr hs hk hB4
  gi_loopw [31] (fun v31 wr => (v31 = .int .i64 0 ∧ wr = w4) ∨ (v31 = .int .i64 1 ∧ Aside0 (J [⟨(i0, v0), hQ⟩] wr))) (fun v31 _ => 2 - (intOf v31).toNat)
  case atStart => exact .inl ⟨rfl, rfl⟩
  case round =>
    rcases hrel with ⟨rfl, rfl⟩ | ⟨rfl, hj⟩
    · gi_wp2
      refine hRR.mono ?_
      rintro e W3 (⟨rfl, hJ3, _⟩ | ⟨rfl, hJx3⟩)
      · replace hJ3 := Aside0.mk hJ3
        clear hy hRR
        gi_wp2
        go_roundw
        case measure => simp [intOf]
        case rel => exact .inr ⟨by go_num, hJ3⟩
      · gi_wp2
        refine bodyPost_ret (results_none rfl _ _ _) rfl ?_
        exact ⟨⟨_, rfl⟩, .inr ⟨_, trivial, hJx3⟩⟩
    · gi_wp2
      go_end0
      exact ⟨⟨_, rfl⟩, .inl ⟨_, rfl, hj.out⟩⟩
end
end Go.Proofs.Ytdammjolkcjogaa

import Derived.Test.YtljahhgankcalaaG2
import Derived.Test.YtljahhgankcalaaIt
import Derived.RangeFuncNested
import Derived.RangeFuncBound
import Derived.RangeFuncCalls
import Derived.RangeFuncLeaves
import Derived.Shelf.Abstract
import Derived.Shelf.RegionOpen
import Derived.WalkKit
import Derived.OwnWalkIn
import Derived.TacticsInMore
import Derived.LoopNIn
import Derived.LoopIn
import Derived.Sort.LoopGhostIn
/-! maps.Keys over the heap's rows: its iterator, for every loop body; (*Heap).there. -/
namespace Go.Proofs.Ytljahhgankcalaa
open Go.RowKit Go.Maps Go.MapKept Go.WideMaps Go.Shelf
open Go.Proofs.YtljahhgankcalaaW.PrintWords Go.Proofs.YtljahhgankcalaaW.PrintLast Go.Proofs.YtljahhgankcalaaW.PrintMore
open PHeapThere
attribute [local go_sem] Oper.semAt_some
set_option linter.unusedVariables false
set_option linter.unusedSimpArgs false

set_option maxRecDepth 100000 in
set_option maxHeartbeats 2000000 in
theorem keysW1_in (F : Fence) (n : Nat) (hf : F.fn 107) (hro : F.round = none) (hn : 1 ≤ n) (l Bm b N : Nat) (rg : Int × Int → Option Value) (J Jx : List (Int × Int) → World → Prop)
    (hN : ∀ ss : List (Int × Int), ss.Nodup → (∀ x ∈ ss, ∃ v, rg x = some v) → ss.length ≤ N)
    (hY : ∀ pre x W, J pre W → pre.length < N → YieldAt F (n - 1) Try.prog l #[kvW x] W fun e W' =>
      (e = .returned (.bool true) ∧ J (pre ++ [x]) W' ∧ KeepsWalks W W') ∨ (e = .returned (.bool false) ∧ Jx (pre ++ [x]) W'))
    (W : World) (hJ : AbidesFrom W.heap.size J) (hm : W.cell? ⟨Bm, 0, none⟩ = some (.map (some b))) (hown : MapOf kvW id okW W b rg) (h0 : J [] W) :
    CallsIn F n Try.prog 107 #[.func (.yield l) #[] #[], .pointer (some ⟨Bm, 0, none⟩)] W fun e W' => (∃ v, e = .returned v) ∧
      ((∃ ss, (ss.Nodup ∧ ∀ x, x ∈ ss ↔ ∃ v, rg x = some v) ∧ J ss W') ∨ (∃ pre, (pre.Nodup ∧ ∀ x ∈ pre, ∃ v, rg x = some v) ∧ Jx pre W')) := by
  refine callsIn_of_wp Try.func107 rfl hf ?_ hro
  simp only [Try.ntmps107, List.size_toArray, List.length_cons, List.length_nil, Nat.reduceAdd, Nat.reduceSub, Array.replicate_succ, Array.replicate_zero, List.push_toArray, List.append_toArray, List.nil_append, List.cons_append]
  gi_wp2_with (first
    | (gi_at_range; refine wpListIn_range_map rfl _ 103 rfl Try.underlying103 rfl hown ?_; intro ob n0 hw0 hit0)
    | gi_in)
  go_frame
  gi_loopg [3] n0 (fun gg _ wr => ∃ (ss : List (Int × Int)) (left : Nat), left ≤ gg ∧ Iter kvW id okW wr b W.heap.size rg ss left ∧ J ss wr)
  case atStart =>
    exact ⟨[], n0, Nat.le_refl _, hit0, hJ [] W _ none h0 (World.grownBy_alloc W ob none) (fun r e => by cases e)⟩
  case round =>
    obtain ⟨ss, left, hle, hit, hJs⟩ := hrel
    gi_wp2_with (first
      | (gi_at_next; refine wpListIn_next_iter rfl _ rfl rfl hit keyWhere.inj ?_ ?_)
      | gi_in)
    · intro hall
      gi_wp2
      go_end0
      exact ⟨⟨_, rfl⟩, .inl ⟨ss, ⟨hit.nodup, fun x => hall x.1 x.2⟩, hJs⟩⟩
    · intro x1 x2 v w2 left2 hlt hg hox hnx hit2 hen hg2 hs2
      have hJ2 : J ss w2 := hJ ss wr w2 (some W.heap.size) hJs hg2 (fun r e => by cases e; exact ⟨Nat.le_refl _, hit.walk⟩)
      have hlen := hN (ss ++ [(x1, x2)]) hit2.nodup hit2.there
      simp only [List.length_append, List.length_singleton] at hlen
      simp only [kvW, id] at hen
      clear hs2
      obtain ⟨o3, ho3⟩ : ∃ o, Obj.cells #[Value.int IntKind.i64 x1, Value.int IntKind.i64 x2] 128 = o := ⟨_, rfl⟩
      have hJ3 : J ss (w2.alloc o3) := hJ ss w2 _ none hJ2 (World.grownBy_alloc w2 o3 none) (fun r e => by cases e)
      have hit3 : Iter kvW id okW (w2.alloc o3) b W.heap.size rg (ss ++ [(x1, x2)]) left2 := hit2.move (Below.heap_alloc w2 _ b hit2.lt.1) (Below.heap_alloc w2 _ _ hit2.lt.2)
      obtain ⟨fn, tmps, assign, body, hy, hR⟩ := hY ss (x1, x2) _ hJ3 (by omega)
      subst ho3
      simp only [kvW] at hy
      clear hJ3 hJ2
      gi_wp2
      refine hR.mono ?_
      rintro e W3 (⟨rfl, hJ4, hk4⟩ | ⟨rfl, hJx4⟩)
      · have hit4 := hit3.of_walks hk4
        clear hit3 hy
        gi_wp2
        go_roundg left2
        case measure => omega
        case rel => exact ⟨ss ++ [(x1, x2)], left2, Nat.le_refl _, hit4, hJ4⟩
      · gi_wp2
        refine bodyPost_ret (results_none rfl _ _ _) rfl ?_
        exact ⟨⟨_, rfl⟩, .inr ⟨ss ++ [(x1, x2)], ⟨hit2.nodup, hit2.there⟩, hJx4⟩⟩

theorem keysW_stops (F : Fence) (n : Nat) (hf : F.fn 107) (hro : F.round = none) (hn : 1 ≤ n) (Bm b N : Nat) (rg : Int × Int → Option Value)
    (hN : ∀ ss : List (Int × Int), ss.Nodup → (∀ x ∈ ss, ∃ v, rg x = some v) → ss.length ≤ N) (w : World) (hm : w.cell? ⟨Bm, 0, none⟩ = some (.map (some b))) (hown : MapOf kvW id okW w b rg) :
    SeqStopsK F n Try.prog 107 #[.pointer (some ⟨Bm, 0, none⟩)] (fun x => #[kvW x]) KeepsWalks (fun ss => ss.Nodup ∧ ∀ x, x ∈ ss ↔ ∃ v, rg x = some v) (fun pre => pre.Nodup ∧ ∀ x ∈ pre, ∃ v, rg x = some v) N w := fun l J Jx W hW hJ _ hY h0 =>
  keysW1_in F n hf hro hn l Bm b N rg J Jx hN hY W hJ ((hW.cell (p := ⟨Bm, 0, none⟩) (World.block_lt_of_cell? w _ hm)).trans hm) (hown.move (hW.block b hown.lt)) h0

theorem keysW_calls (mb : Option Nat) (w : World) : Calls Try.prog 98 #[.map mb] w fun e w' =>
    e = .returned (.func (.func 107) #[] #[.pointer (some ⟨w.heap.size, 0, none⟩)]) ∧ w' = w.alloc (.cells #[.map mb] 103) := by
  go_enter Try.func98, Try.ntmps98
  go_wp2
  go_ret
  exact ⟨rfl, rfl⟩
theorem rows_calls {w : World} {h : Nat} {A : AH} {FF : Nat → Prop} {sv : Value} {rb gb : Nat} {rg : Int × Int → Option Value} {gg : Int → Option Int} (H : HeapAt w h A FF sv rb gb rg gg) : Calls Try.prog 76 #[.pointer (some ⟨h, 0, none⟩)] w fun e w' =>
    e = .returned (.func (.func 107) #[] #[.pointer (some ⟨w.heap.size, 0, none⟩)]) ∧ w' = w.alloc (.cells #[.map (some rb)] 103) := by
  have c0 := H.cell 0
  have c1 := H.cell 1
  have f1 := H.frozen 1
  simp at c0 c1
  have hk := keysW_calls (some rb) w
  clear H
  go_enter Try.func76, Try.ntmps76
  go_wp2_with (go_at_call 98; refine hk.mono ?_; rintro e w' ⟨rfl, rfl⟩)
  go_ret
  exact ⟨rfl, rfl⟩
end Go.Proofs.Ytljahhgankcalaa

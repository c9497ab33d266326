import Derived.Test.YtdammjolkcjogaaMr
import Derived.Test.YtdammjolkcjogaaMso
import Derived.Test.YtdammjolkcjogaaIt
import Derived.RangeFuncNested
import Derived.RangeFuncBound
import Derived.RangeFuncCalls
import Derived.RangeFuncLeaves
import Derived.Shelf.Abstract
import Derived.Shelf.RegionOpen
import Derived.WalkKit
import Derived.OwnWalkIn
import Derived.TacticsInMore
import Derived.LoopNIn
import Derived.LoopIn
import Derived.Sort.LoopGhostIn
/-! slices.Sorted(maps.Keys(m)) over model's maps. Printed by genmk.py. -/
namespace Go.Proofs.Ytdammjolkcjogaa
open Go.RowKit Go.Maps Go.MapKept Go.WideMaps Go.Shelf Go.Sort
open Go.Proofs.YtdammjolkcjogaaW.PrintWords Go.Proofs.YtdammjolkcjogaaW.PrintLast Go.Proofs.YtdammjolkcjogaaW.PrintMore
open PModelNames
attribute [local go_sem] Oper.semAt_some
set_option linter.unusedVariables false
set_option linter.unusedSimpArgs false

set_option maxRecDepth 100000 in
set_option maxHeartbeats 2000000 in
theorem keysT1_in (F : Fence) (n : Nat) (hf : F.fn 46) (hro : F.round = none) (hn : 1 ≤ n) (l Bm b N : Nat) (g : Int → Option (Nat × Nat)) (J Jx : List Int → World → Prop)
    (hN : ∀ ss : List Int, ss.Nodup → (∀ x ∈ ss, ∃ v, g x = some v) → ss.length ≤ N)
    (hY : ∀ pre x W, J pre W → pre.length < N → YieldAt F (n - 1) Try.prog l #[.int .i64 x] W fun e W' =>
      (e = .returned (.bool true) ∧ J (pre ++ [x]) W' ∧ KeepsWalks W W') ∨ (e = .returned (.bool false) ∧ Jx (pre ++ [x]) W'))
    (W : World) (hJ : AbidesFrom W.heap.size J) (hm : W.cell? ⟨Bm, 0, none⟩ = some (.map (some b))) (hown : MapOf (Value.int .i64) ptr2 okI W b g) (h0 : J [] W) :
    CallsIn F n Try.prog 46 #[.func (.yield l) #[] #[], .pointer (some ⟨Bm, 0, none⟩)] W fun e W' => (∃ v, e = .returned v) ∧
      ((∃ ss, (ss.Nodup ∧ ∀ x, x ∈ ss ↔ ∃ v, g x = some v) ∧ J ss W') ∨ (∃ pre, (pre.Nodup ∧ ∀ x ∈ pre, ∃ v, g x = some v) ∧ Jx pre W')) := by
  refine callsIn_of_wp Try.func46 rfl hf ?_ hro
  simp only [Try.ntmps46, List.size_toArray, List.length_cons, List.length_nil, Nat.reduceAdd, Nat.reduceSub, Array.replicate_succ, Array.replicate_zero, List.push_toArray, List.append_toArray, List.nil_append, List.cons_append]
  gi_wp2_with (first
    | (gi_at_range; refine wpListIn_range_map rfl _ 60 rfl Try.underlying60 rfl hown ?_; intro ob n0 hw0 hit0)
    | gi_in)
  go_frame
  gi_loopg [3] n0 (fun gg _ wr => ∃ (ss : List Int) (left : Nat), left ≤ gg ∧ Iter (Value.int .i64) ptr2 okI wr b W.heap.size g ss left ∧ J ss wr)
  case atStart =>
    exact ⟨[], n0, Nat.le_refl _, hit0, hJ [] W _ none h0 (World.grownBy_alloc W ob none) (fun r e => by cases e)⟩
  case round =>
    obtain ⟨ss, left, hle, hit, hJs⟩ := hrel
    gi_wp2_with (first
      | (gi_at_next; refine wpListIn_next_iter rfl _ rfl rfl hit keyInt.inj ?_ ?_)
      | gi_in)
    · intro hall
      gi_wp2
      go_end0
      exact ⟨⟨_, rfl⟩, .inl ⟨ss, ⟨hit.nodup, fun x => by simpa using hall x⟩, hJs⟩⟩
    · intro x1 v1 v2 w2 left2 hlt hg hox hnx hit2 hen hg2 hs2
      have hJ2 : J ss w2 := hJ ss wr w2 (some W.heap.size) hJs hg2 (fun r e => by cases e; exact ⟨Nat.le_refl _, hit.walk⟩)
      have hlen := hN (ss ++ [x1]) hit2.nodup hit2.there
      simp only [List.length_append, List.length_singleton] at hlen
      clear hs2
      obtain ⟨fn, tmps, assign, body, hy, hR⟩ := hY ss x1 _ hJ2 (by omega)
      clear hJ2
      gi_wp2
      refine hR.mono ?_
      rintro e W3 (⟨rfl, hJ4, hk4⟩ | ⟨rfl, hJx4⟩)
      · have hit4 := hit2.of_walks hk4
        clear hy
        gi_wp2
        go_roundg left2
        case measure => omega
        case rel => exact ⟨ss ++ [x1], left2, Nat.le_refl _, hit4, hJ4⟩
      · gi_wp2
        refine bodyPost_ret (results_none rfl _ _ _) rfl ?_
        exact ⟨⟨_, rfl⟩, .inr ⟨ss ++ [x1], ⟨hit2.nodup, hit2.there⟩, hJx4⟩⟩

theorem keysT_stops (F : Fence) (n : Nat) (hf : F.fn 46) (hro : F.round = none) (hn : 1 ≤ n) (Bm b N : Nat) (g : Int → Option (Nat × Nat))
    (hN : ∀ ss : List Int, ss.Nodup → (∀ x ∈ ss, ∃ v, g x = some v) → ss.length ≤ N) (w : World) (hm : w.cell? ⟨Bm, 0, none⟩ = some (.map (some b))) (hown : MapOf (Value.int .i64) ptr2 okI w b g) :
    SeqStops F n Try.prog 46 #[.pointer (some ⟨Bm, 0, none⟩)] encZ (fun ss => ss.Nodup ∧ ∀ x, x ∈ ss ↔ ∃ v, g x = some v) (fun pre => pre.Nodup ∧ ∀ x ∈ pre, ∃ v, g x = some v) N w := fun l J Jx W hW hJ _ hY h0 =>
  keysT1_in F n hf hro hn l Bm b N g J Jx hN hY W hJ ((hW.cell (p := ⟨Bm, 0, none⟩) (World.block_lt_of_cell? w _ hm)).trans hm) (hown.move (hW.block b hown.lt)) h0

theorem keysT_calls (mb : Option Nat) (w : World) : Calls Try.prog 24 #[.map mb] w fun e w' =>
    e = .returned (.func (.func 46) #[] #[.pointer (some ⟨w.heap.size, 0, none⟩)]) ∧ w' = w.alloc (.cells #[.map mb] 60) := by
  go_enter Try.func24, Try.ntmps24
  go_wp2
  go_ret
  exact ⟨rfl, rfl⟩

set_option maxRecDepth 100000 in
set_option maxHeartbeats 2000000 in
theorem keysR1_in (F : Fence) (n : Nat) (hf : F.fn 69) (hro : F.round = none) (hn : 1 ≤ n) (l Bm b N : Nat) (g : Int → Option Value) (J Jx : List Int → World → Prop)
    (hN : ∀ ss : List Int, ss.Nodup → (∀ x ∈ ss, ∃ v, g x = some v) → ss.length ≤ N)
    (hY : ∀ pre x W, J pre W → pre.length < N → YieldAt F (n - 1) Try.prog l #[.int .i64 x] W fun e W' =>
      (e = .returned (.bool true) ∧ J (pre ++ [x]) W' ∧ KeepsWalks W W') ∨ (e = .returned (.bool false) ∧ Jx (pre ++ [x]) W'))
    (W : World) (hJ : AbidesFrom W.heap.size J) (hm : W.cell? ⟨Bm, 0, none⟩ = some (.map (some b))) (hown : MapOf (Value.int .i64) id okI W b g) (h0 : J [] W) :
    CallsIn F n Try.prog 69 #[.func (.yield l) #[] #[], .pointer (some ⟨Bm, 0, none⟩)] W fun e W' => (∃ v, e = .returned v) ∧
      ((∃ ss, (ss.Nodup ∧ ∀ x, x ∈ ss ↔ ∃ v, g x = some v) ∧ J ss W') ∨ (∃ pre, (pre.Nodup ∧ ∀ x ∈ pre, ∃ v, g x = some v) ∧ Jx pre W')) := by
  refine callsIn_of_wp Try.func69 rfl hf ?_ hro
  simp only [Try.ntmps69, List.size_toArray, List.length_cons, List.length_nil, Nat.reduceAdd, Nat.reduceSub, Array.replicate_succ, Array.replicate_zero, List.push_toArray, List.append_toArray, List.nil_append, List.cons_append]
  gi_wp2_with (first
    | (gi_at_range; refine wpListIn_range_map rfl _ 57 rfl Try.underlying57 rfl hown ?_; intro ob n0 hw0 hit0)
    | gi_in)
  go_frame
  gi_loopg [3] n0 (fun gg _ wr => ∃ (ss : List Int) (left : Nat), left ≤ gg ∧ Iter (Value.int .i64) id okI wr b W.heap.size g ss left ∧ J ss wr)
  case atStart =>
    exact ⟨[], n0, Nat.le_refl _, hit0, hJ [] W _ none h0 (World.grownBy_alloc W ob none) (fun r e => by cases e)⟩
  case round =>
    obtain ⟨ss, left, hle, hit, hJs⟩ := hrel
    gi_wp2_with (first
      | (gi_at_next; refine wpListIn_next_iter rfl _ rfl rfl hit keyInt.inj ?_ ?_)
      | gi_in)
    · intro hall
      gi_wp2
      go_end0
      exact ⟨⟨_, rfl⟩, .inl ⟨ss, ⟨hit.nodup, hall⟩, hJs⟩⟩
    · intro x1 v w2 left2 hlt hg hox hnx hit2 hen hg2 hs2
      have hJ2 : J ss w2 := hJ ss wr w2 (some W.heap.size) hJs hg2 (fun r e => by cases e; exact ⟨Nat.le_refl _, hit.walk⟩)
      have hlen := hN (ss ++ [x1]) hit2.nodup hit2.there
      simp only [List.length_append, List.length_singleton] at hlen
      clear hs2
      obtain ⟨fn, tmps, assign, body, hy, hR⟩ := hY ss x1 _ hJ2 (by omega)
      clear hJ2
      gi_wp2
      refine hR.mono ?_
      rintro e W3 (⟨rfl, hJ4, hk4⟩ | ⟨rfl, hJx4⟩)
      · have hit4 := hit2.of_walks hk4
        clear hy
        gi_wp2
        go_roundg left2
        case measure => omega
        case rel => exact ⟨ss ++ [x1], left2, Nat.le_refl _, hit4, hJ4⟩
      · gi_wp2
        refine bodyPost_ret (results_none rfl _ _ _) rfl ?_
        exact ⟨⟨_, rfl⟩, .inr ⟨ss ++ [x1], ⟨hit2.nodup, hit2.there⟩, hJx4⟩⟩

theorem keysR_stops (F : Fence) (n : Nat) (hf : F.fn 69) (hro : F.round = none) (hn : 1 ≤ n) (Bm b N : Nat) (g : Int → Option Value)
    (hN : ∀ ss : List Int, ss.Nodup → (∀ x ∈ ss, ∃ v, g x = some v) → ss.length ≤ N) (w : World) (hm : w.cell? ⟨Bm, 0, none⟩ = some (.map (some b))) (hown : MapOf (Value.int .i64) id okI w b g) :
    SeqStops F n Try.prog 69 #[.pointer (some ⟨Bm, 0, none⟩)] encZ (fun ss => ss.Nodup ∧ ∀ x, x ∈ ss ↔ ∃ v, g x = some v) (fun pre => pre.Nodup ∧ ∀ x ∈ pre, ∃ v, g x = some v) N w := fun l J Jx W hW hJ _ hY h0 =>
  keysR1_in F n hf hro hn l Bm b N g J Jx hN hY W hJ ((hW.cell (p := ⟨Bm, 0, none⟩) (World.block_lt_of_cell? w _ hm)).trans hm) (hown.move (hW.block b hown.lt)) h0

theorem keysR_calls (mb : Option Nat) (w : World) : Calls Try.prog 49 #[.map mb] w fun e w' =>
    e = .returned (.func (.func 69) #[] #[.pointer (some ⟨w.heap.size, 0, none⟩)]) ∧ w' = w.alloc (.cells #[.map mb] 57) := by
  go_enter Try.func49, Try.ntmps49
  go_wp2
  go_ret
  exact ⟨rfl, rfl⟩

/-- slices.Sort's two contracts at this dump, at the fence that asks nothing. -/
theorem sortsW (m : Nat) : AnyZI.SortsIn Try.prog Try.laysSorted_ren Fence.wide m :=
  ⟨fun blk off cap ss W hH hblk hsz => callsIn_wide.2 (AnyM.slices_Sort_int Try.laysSort blk off cap ss W hH hblk hsz),
   fun p cap W => callsIn_wide.2 (AnyM.slices_Sort_int_none Try.laysSort p cap W)⟩

/-- slices.Sorted, of the keys of a map of ints. -/
theorem sortedKeysT (Bm b N : Nat) (g : Int → Option (Nat × Nat)) (hN : ∀ ss : List Int, ss.Nodup → (∀ x ∈ ss, ∃ v, g x = some v) → ss.length ≤ N) (hN2 : N ≤ 1000000) (w : World) (hm : w.cell? ⟨Bm, 0, none⟩ = some (.map (some b))) (hown : MapOf (Value.int .i64) ptr2 okI w b g) :
    Calls Try.prog 23 #[.func (.func 46) #[] #[.pointer (some ⟨Bm, 0, none⟩)]] w fun e w' => ∃ v l, e = .returned v ∧ l.Pairwise (· < ·) ∧ (∀ x, x ∈ l ↔ ∃ v, g x = some v) ∧
      Kd.R kInt 3 w' w.heap.size (fun _ => True) v l ∧ Below w.heap.size w w' := by
  have hseq : SeqGives Fence.wide 2 Try.prog 46 #[.pointer (some ⟨Bm, 0, none⟩)] encZ (fun ss => ss.Nodup ∧ ∀ x, x ∈ ss ↔ ∃ v, g x = some v) N w :=
    (keysT_stops Fence.wide 2 trivial rfl (by omega) Bm b N g hN w hm hown).gives
  have cS := AnyZI.sorted_in Try.laysSorted Fence.wide 5 trivial trivial trivial trivial rfl (by omega) (sortsW _) (enters_of Try.func45 (by kernel_rfl) rfl) 46 #[.pointer (some ⟨Bm, 0, none⟩)] trivial (enters_of Try.func46 (by kernel_rfl) rfl) _ N (by unfold maxLen; omega) (by omega) w hseq
  change CallsIn _ _ Try.prog 23 _ _ _ at cS
  refine (callsIn_wide.1 cS).mono ?_
  rintro e w' ⟨v, ss, rfl, ⟨h1, h2⟩, hrow, _, hb⟩
  refine ⟨v, srt ss, rfl, srt_rise h1, fun x => by rw [(srt_perm ss).mem_iff, h2], ?_, hb⟩
  refine Kd.R_of_own ?_ (fun _ _ => trivial)
  rw [(srt_perm ss).length_eq]
  exact hrow
/-- slices.Sorted, of the keys of a map of ints. -/
theorem sortedKeysR (Bm b N : Nat) (g : Int → Option Value) (hN : ∀ ss : List Int, ss.Nodup → (∀ x ∈ ss, ∃ v, g x = some v) → ss.length ≤ N) (hN2 : N ≤ 1000000) (w : World) (hm : w.cell? ⟨Bm, 0, none⟩ = some (.map (some b))) (hown : MapOf (Value.int .i64) id okI w b g) :
    Calls Try.prog 23 #[.func (.func 69) #[] #[.pointer (some ⟨Bm, 0, none⟩)]] w fun e w' => ∃ v l, e = .returned v ∧ l.Pairwise (· < ·) ∧ (∀ x, x ∈ l ↔ ∃ v, g x = some v) ∧
      Kd.R kInt 3 w' w.heap.size (fun _ => True) v l ∧ Below w.heap.size w w' := by
  have hseq : SeqGives Fence.wide 2 Try.prog 69 #[.pointer (some ⟨Bm, 0, none⟩)] encZ (fun ss => ss.Nodup ∧ ∀ x, x ∈ ss ↔ ∃ v, g x = some v) N w :=
    (keysR_stops Fence.wide 2 trivial rfl (by omega) Bm b N g hN w hm hown).gives
  have cS := AnyZI.sorted_in Try.laysSorted Fence.wide 5 trivial trivial trivial trivial rfl (by omega) (sortsW _) (enters_of Try.func45 (by kernel_rfl) rfl) 69 #[.pointer (some ⟨Bm, 0, none⟩)] trivial (enters_of Try.func69 (by kernel_rfl) rfl) _ N (by unfold maxLen; omega) (by omega) w hseq
  change CallsIn _ _ Try.prog 23 _ _ _ at cS
  refine (callsIn_wide.1 cS).mono ?_
  rintro e w' ⟨v, ss, rfl, ⟨h1, h2⟩, hrow, _, hb⟩
  refine ⟨v, srt ss, rfl, srt_rise h1, fun x => by rw [(srt_perm ss).mem_iff, h2], ?_, hb⟩
  refine Kd.R_of_own ?_ (fun _ _ => trivial)
  rw [(srt_perm ss).length_eq]
  exact hrow
end Go.Proofs.Ytdammjolkcjogaa

import Derived.Test.YtljahhgankcalaaG3
import Derived.Test.YtljahhgankcalaaIt
import Derived.Test.YtljahhgankcalaaGF
import Derived.WalkKit
import Derived.Test.YtljahhgankcalaaG2
import Derived.BigRegion
import Derived.Deep.RegionHeld3
import Derived.Deep.RegionLaw
/-! maps.Copy into a map that was just made. -/
namespace Go.Proofs.Ytljahhgankcalaa
open Go.RowKit Go.Maps Go.MapKept Go.WideMaps Go.Shelf
open Go.Proofs.YtljahhgankcalaaW.PrintWords Go.Proofs.YtljahhgankcalaaW.PrintLast Go.Proofs.YtljahhgankcalaaW.PrintMore
open PHeapThere
set_option linter.unusedVariables false
set_option linter.unusedSimpArgs false

/-- g, of what is in l. -/
def part {α β : Type} [DecidableEq α] (g : α → Option β) (l : List α) : α → Option β := fun a => if a ∈ l then g a else none
theorem part_nil {α β : Type} [DecidableEq α] (g : α → Option β) : part g [] = fun _ => none := by funext a; simp [part]
theorem part_snoc {α β : Type} [DecidableEq α] {g : α → Option β} {l : List α} {a : α} {v : β} (h : g a = some v) : part g (l ++ [a]) = upd (part g l) a (some v) := by
  funext x
  by_cases e : x = a
  · subst e; simp [part, upd, h]
  · simp [part, upd, e]
theorem part_all {α β : Type} [DecidableEq α] {g : α → Option β} {l : List α} (h : ∀ a, a ∈ l ↔ ∃ v, g a = some v) : part g l = g := by
  funext x
  unfold part
  by_cases e : x ∈ l
  · rw [if_pos e]
  · rw [if_neg e]
    cases hg : g x with
    | none => rfl
    | some v => exact absurd ((h x).2 ⟨v, hg⟩) e
structure CopySt (w wr : World) (d s r : Nat) (gs : Int → Option Int) (done : List Int) (left : Nat) : Prop where
  iter : Iter (Value.int .i64) (Value.int .i64) okI wr s r gs done left
  dst : MapOf (Value.int .i64) (Value.int .i64) okI wr d (part gs done)
  chg : Chg w wr (fun k => k = d)
  hr : w.heap.size ≤ r
set_option maxRecDepth 100000 in
set_option maxHeartbeats 1000000 in
theorem mapcopy_calls (d s : Nat) (hne : d ≠ s) (gs : Int → Option Int) (w : World) (hs : MapOf (Value.int .i64) (Value.int .i64) okI w s gs) (hd : MapOf (Value.int .i64) (Value.int .i64) okI w d (fun _ => none)) :
    Calls Try.prog 84 #[.map (some d), .map (some s)] w fun e w' => e = .returned (.tuple #[]) ∧ MapOf (Value.int .i64) (Value.int .i64) okI w' d gs ∧ Chg w w' (fun k => k = d) := by
  go_enter Try.func84, Try.ntmps84
  go_wp2_with (at_range; refine wpList_range_map rfl _ 27 rfl Try.underlying27 rfl hs ?_; intro ob n0 hw0 hit0)
  have hS0 : CopySt w (w.alloc ob) d s w.heap.size gs [] n0 := ⟨hit0, by rw [part_nil]; exact hd.alloc ob, (Chg.refl w _).alloc ob, Nat.le_refl _⟩
  generalize w.heap.size = r at hS0 ⊢
  replace hS0 := Aside0.mk hS0
  clear hit0 hs hd hw0
  go_frame
  go_loopg [] n0 (fun gg wr => ∃ (done : List Int) (left : Nat), left ≤ gg ∧ Aside0 (CopySt w wr d s r gs done left))
  case atStart => exact ⟨[], n0, Nat.le_refl _, hS0⟩
  case round =>
    clear hS0
    obtain ⟨done, left, hle, HS⟩ := hrel
    have hit := HS.out.iter
    go_wp2_with (at_next; refine wpList_next_iter rfl _ rfl rfl hit keyInt.inj ?_ ?_)
    · intro hall
      have hd := HS.out.dst
      rw [part_all hall] at hd
      have HD := Aside0.mk (And.intro hd HS.out.chg)
      clear hall hit hd
      go_wp2
      go_end0
      exact ⟨rfl, HD.out.1, HD.out.2⟩
    · intro x v w2 left2 hlt hg hox hnx hit2 hen hg2 hs2
      have hdr : d ≠ r := fun e => by
        obtain ⟨es, cl, h1⟩ := HS.out.dst.isMap
        obtain ⟨_, _, _, _, _, _, _, _, _, h2, _⟩ := HS.out.iter
        rw [e, h2] at h1
        cases h1
      have hc2 : Chg wr w2 (fun k => some k = some r) := Chg.of_grown hg2
      have hd2 := HS.out.dst.chg hc2 (fun e => hdr (Option.some.inj e))
      obtain ⟨w3, hrun, hd3, hc3, hz3⟩ := hd2.store keyInt Try.underlying27 hox v
      have hS3 : CopySt w w3 d s r gs (done ++ [x]) left2 := ⟨hit2.move (hc3.block _ hit2.lt.1 (Ne.symm hne)) (hc3.block _ hit2.lt.2 (Ne.symm hdr)), by rw [part_snoc hg]; exact hd3,
        (HS.out.chg.trans hc2 (fun _ _ h => h) (fun k hk e => by
          have h1 := HS.out.hr
          have h2 := Option.some.inj e
          omega)).then_ hc3 (fun _ _ h => h), HS.out.hr⟩
      replace hS3 := Aside0.mk hS3
      clear hd2 hd3 hc2 hc3 hz3 hit2 hg2 hs2 hit hnx hox hg
      go_wp2
      go_roundg left2
      case measure => omega
      case rel => exact ⟨done ++ [x], left2, Nat.le_refl _, hS3⟩
end Go.Proofs.Ytljahhgankcalaa

/-! (*Heap).Copy: what is in memory while a copy is made. -/
namespace Go.Proofs.Ytljahhgankcalaa
open Go.RowKit Go.Maps Go.MapKept Go.WideMaps Go.Shelf
open Go.Proofs.YtljahhgankcalaaW.PrintWords Go.Proofs.YtljahhgankcalaaW.PrintLast Go.Proofs.YtljahhgankcalaaW.PrintMore
open PHeapThere
set_option linter.unusedVariables false
set_option linter.unusedSimpArgs false

structure Cp (w wr : World) (A : AH) (c rb gb : Nat) (sv : Value) (l : List ATup) (rg : Int × Int → Option Value) (gg : Int → Option Int) (m : Int) : Prop where
  bel : Below w.heap.size w wr
  blk : wr.heap[c]? = some (.cells #[sv, .map (some rb), .map (some gb), .int .i64 m] 106 (0, 0))
  new : w.heap.size ≤ c ∧ w.heap.size ≤ rb ∧ w.heap.size ≤ gb
  ne : rb ≠ gb
  slots : Kd.R kTup 39 wr w.heap.size (fun _ => True) sv l
  rmap : MapOf kvW id okW wr rb rg
  gmap : MapOf (Value.int .i64) (Value.int .i64) okI wr gb gg
  rowv : ∀ p v, rg p = some v → Kd.R kInt 3 wr w.heap.size (fun _ => True) v (A.rows p)
  apart : ∀ p q u v b, rg p = some u → rg q = some v → u.ownBlock = some b → v.ownBlock = some b → p = q
section
variable {w wr w' w1 : World} {A : AH} {c rb gb : Nat} {sv v1 : Value} {l : List ATup} {rg : Int × Int → Option Value} {gg : Int → Option Int} {m : Int}
theorem Cp.move (H : Cp w wr A c rb gb sv l rg gg m) (hm : ∀ k, w.heap.size ≤ k → k < wr.heap.size → w'.heap[k]? = wr.heap[k]?) (hb : Below w.heap.size w w') : Cp w w' A c rb gb sv l rg gg m where
  bel := hb
  blk := (hm c H.new.1 (blk_lt H.blk)).trans H.blk
  new := H.new
  ne := H.ne
  slots := Kd.R_mono (Kd.R_step (Kd.R_bound H.slots) (fun k hk hlt => hm k hk.2.1 hlt)) (fun _ _ => trivial)
  rmap := H.rmap.move (hm rb H.new.2.1 H.rmap.lt)
  gmap := H.gmap.move (hm gb H.new.2.2 H.gmap.lt)
  rowv := fun p v hp => Kd.R_mono (Kd.R_step (Kd.R_bound (H.rowv p v hp)) (fun k hk hlt => hm k hk.2.1 hlt)) (fun _ _ => trivial)
  apart := H.apart
theorem Cp.below (H : Cp w wr A c rb gb sv l rg gg m) (hb : Below wr.heap.size wr w') : Cp w w' A c rb gb sv l rg gg m := H.move (fun k _ hk => hb.block k hk) (H.bel.trans (hb.mono H.bel.size))
theorem Cp.c_ne (H : Cp w wr A c rb gb sv l rg gg m) : c ≠ rb ∧ c ≠ gb := by
  obtain ⟨_, _, h1⟩ := H.rmap.isMap
  obtain ⟨_, _, h2⟩ := H.gmap.isMap
  have h3 := H.blk
  exact ⟨(fun e => by rw [e, h1] at h3; cases h3), (fun e => by rw [e, h2] at h3; cases h3)⟩
/-- What a row's blocks are not. -/
theorem R_not {α : Type} {d : Kd α} {e : Nat} {base : Nat} {ok : Nat → Prop} {v : Value} {xs : List α} (h : d.R e wr base ok v xs) {g : Nat} {o : Obj} (hg : wr.heap[g]? = some o) (ho : ∀ q cells, q ∈ e :: d.E → o ≠ .cells cells q (0, 0)) :
    d.R e wr base (fun k => (ok k ∧ base ≤ k ∧ k < wr.heap.size) ∧ k ≠ g) v xs := Kd.R_mono (Kd.R_bound h) (fun k hk => by
  obtain ⟨h1, h2, h3, q, h4, cells, h5⟩ := hk
  refine ⟨⟨h1, h2, h3⟩, fun e => ?_⟩
  subst e
  rw [hg] at h5
  exact ho q cells h4 (Option.some.inj h5))
theorem Cp.own (H : Cp w wr A c rb gb sv l rg gg m) {b : Nat} (hb : sv.ownBlock = some b) : w.heap.size ≤ b ∧ b ≠ c ∧ b ≠ rb ∧ b ≠ gb ∧ ∃ cells, wr.heap[b]? = some (.cells cells 39 (0, 0)) := by
  obtain ⟨h0, cells, h1⟩ := R_block (Kd.R_bound H.slots) hb
  obtain ⟨_, _, h2⟩ := H.rmap.isMap
  obtain ⟨_, _, h3⟩ := H.gmap.isMap
  have h4 := H.blk
  exact ⟨h0.2.1, (fun e => by rw [e, h4] at h1; cases h1), (fun e => by rw [e, h2] at h1; cases h1), (fun e => by rw [e, h3] at h1; cases h1), cells, h1⟩
theorem E_int : (kInt : Kd Int).E = [] := rfl
theorem Cp.push (H : Cp w wr A c rb gb sv l rg gg m) {l' : List ATup} (ho : Kd.R kTup 39 w1 w.heap.size (fun _ => True) v1 l') (hg : wr.grownBy w1 sv.ownBlock) :
    Cp w (w1.setCell ⟨c, 0, none⟩ v1) A c rb gb v1 l' rg gg m := by
  have hch : Chg wr w1 (fun k => some k = sv.ownBlock) := Chg.of_grown hg
  have hnc : ¬ some c = sv.ownBlock := fun e => (H.own e.symm).2.1 rfl
  have hnr : ¬ some rb = sv.ownBlock := fun e => (H.own e.symm).2.2.1 rfl
  have hng : ¬ some gb = sv.ownBlock := fun e => (H.own e.symm).2.2.2.1 rfl
  have hb1 := hch.obj H.blk hnc
  have hset : Chg w1 (w1.setCell ⟨c, 0, none⟩ v1) (fun k => k = c) := (Chg.refl w1 (fun k => k = c)).setCell (p := ⟨c, 0, none⟩) (.inl rfl) _
  have hb2 : (w1.setCell ⟨c, 0, none⟩ v1).heap[c]? = some (.cells #[v1, .map (some rb), .map (some gb), .int .i64 m] 106 (0, 0)) := by rw [blk_set hb1]; rfl
  have hfar := Kd.R_far (p := ⟨c, 0, none⟩) (R_not ho hb1 (fun q cells hq e => by
    injection e with _ e2 _
    subst e2
    revert hq
    decide)) (fun k hk => hk.2) v1
  have hall : Chg wr (w1.setCell ⟨c, 0, none⟩ v1) (fun k => some k = sv.ownBlock ∨ k = c) := hch.trans hset (fun _ _ h => .inl h) (fun _ _ h => .inr h)
  generalize w1.setCell ⟨c, 0, none⟩ v1 = w2 at hset hb2 hfar hall ⊢
  refine ⟨?_, hb2, H.new, H.ne, Kd.R_mono hfar (fun _ _ => trivial), H.rmap.chg hall (fun e => ?_), H.gmap.chg hall (fun e => ?_), fun p v hp => ?_, H.apart⟩
  · refine H.bel.trans ⟨hall.os, hall.tape, hall.output, hall.size, fun k hk => hall.block k (Nat.lt_of_lt_of_le hk H.bel.size) (fun e => ?_)⟩
    rcases e with e | e
    · have := (H.own e.symm).1; omega
    · have := H.new.1; omega
  · rcases e with e | e
    · exact hnr e
    · exact H.c_ne.1 e.symm
  · rcases e with e | e
    · exact hng e
    · exact H.c_ne.2 e.symm
  · refine Kd.R_mono (Kd.R_move (Kd.R_bound (H.rowv p v hp)) (fun k hk => hall.block k hk.2.2.1 (fun e => ?_))) (fun _ _ => trivial)
    obtain ⟨_, _, _, q, hq, cells, hkk⟩ := hk
    rw [E_int, List.mem_singleton] at hq
    subst hq
    rcases e with e | e
    · obtain ⟨_, _, _, _, cs, h5⟩ := H.own e.symm
      rw [hkk] at h5
      cases h5
    · rw [e, H.blk] at hkk
      cases hkk
/-- A map of the copy has changed, by one that was there. -/
theorem Cp.row (H : Cp w wr A c rb gb sv l rg gg m) {p : Int × Int} {N : Nat} (hv : Kd.R kInt 3 wr N (fun _ => True) v1 (A.rows p)) (hN : w.heap.size ≤ N) (hold : ∀ q u b, rg q = some u → u.ownBlock = some b → b < N)
    (hm : MapOf kvW id okW w1 rb (upd rg p (some v1))) (hc : Chg wr w1 (fun k => k = rb)) : Cp w w1 A c rb gb sv l (upd rg p (some v1)) gg m := by
  obtain ⟨_, _, hmb⟩ := H.rmap.isMap
  have hmv : ∀ {α : Type} {d : Kd α} {e base : Nat} {v : Value} {xs : List α}, d.R e wr base (fun _ => True) v xs → d.R e w1 base (fun _ => True) v xs := fun h =>
    Kd.R_mono (Kd.R_move (R_not h hmb (fun q cells _ e => by cases e)) (fun k hk => hc.block k hk.1.2.2 hk.2)) (fun _ _ => trivial)
  have hnew : ∀ b, v1.ownBlock = some b → N ≤ b := fun b hb => (R_block (Kd.R_bound hv) hb).1.2.1
  refine ⟨?_, hc.obj H.blk H.c_ne.1, H.new, H.ne, hmv H.slots, hm, H.gmap.chg hc (Ne.symm H.ne), fun q u hq => ?_, fun q q' u u' b h1 h2 h3 h4 => ?_⟩
  · exact H.bel.trans ⟨hc.os, hc.tape, hc.output, hc.size, fun k hk => hc.block k (Nat.lt_of_lt_of_le hk H.bel.size) (fun e => by have := H.new.2.1; omega)⟩
  · by_cases e : q = p
    · subst e
      rw [upd_same] at hq
      cases hq
      exact Kd.R_lower (hmv hv) hN
    · rw [upd_other _ _ e] at hq
      exact hmv (H.rowv q u hq)
  · by_cases e : q = p <;> by_cases e' : q' = p
    · rw [e, e']
    · subst e
      rw [upd_same] at h1
      cases h1
      rw [upd_other _ _ e'] at h2
      have := hnew b h3
      have := hold q' u' b h2 h4
      omega
    · subst e'
      rw [upd_same] at h2
      cases h2
      rw [upd_other _ _ e] at h1
      have := hnew b h4
      have := hold q u b h1 h3
      omega
    · rw [upd_other _ _ e] at h1
      rw [upd_other _ _ e'] at h2
      exact H.apart q q' u u' b h1 h2 h3 h4
theorem Cp.old (H : Cp w wr A c rb gb sv l rg gg m) : ∀ q u b, rg q = some u → u.ownBlock = some b → b < wr.heap.size := fun q u b hq hb => (R_block (Kd.R_bound (H.rowv q u hq)) hb).1.2.2.1
theorem Cp.givens (H : Cp w wr A c rb gb sv l rg gg m) {gg' : Int → Option Int} (hm : MapOf (Value.int .i64) (Value.int .i64) okI w1 gb gg') (hc : Chg wr w1 (fun k => k = gb)) : Cp w w1 A c rb gb sv l rg gg' m := by
  obtain ⟨_, _, hmb⟩ := H.gmap.isMap
  have hmv : ∀ {α : Type} {d : Kd α} {e base : Nat} {v : Value} {xs : List α}, d.R e wr base (fun _ => True) v xs → d.R e w1 base (fun _ => True) v xs := fun h =>
    Kd.R_mono (Kd.R_move (R_not h hmb (fun q cells _ e => by cases e)) (fun k hk => hc.block k hk.1.2.2 hk.2)) (fun _ _ => trivial)
  refine ⟨?_, hc.obj H.blk H.c_ne.2, H.new, H.ne, hmv H.slots, H.rmap.chg hc H.ne, hm, fun q u hq => hmv (H.rowv q u hq), H.apart⟩
  exact H.bel.trans ⟨hc.os, hc.tape, hc.output, hc.size, fun k hk => hc.block k (Nat.lt_of_lt_of_le hk H.bel.size) (fun e => by have := H.new.2.2; omega)⟩
theorem Cp.many (H : Cp w wr A c rb gb sv l rg gg m) (m' : Int) : Cp w (wr.setCell ⟨c, 3, none⟩ (.int .i64 m')) A c rb gb sv l rg gg m' := by
  have hc : Chg wr (wr.setCell ⟨c, 3, none⟩ (.int .i64 m')) (fun k => k = c) := (Chg.refl wr (fun k => k = c)).setCell (p := ⟨c, 3, none⟩) (.inl rfl) _
  have hb2 : (wr.setCell ⟨c, 3, none⟩ (.int .i64 m')).heap[c]? = some (.cells #[sv, .map (some rb), .map (some gb), .int .i64 m'] 106 (0, 0)) := by rw [blk_set H.blk]; rfl
  generalize wr.setCell ⟨c, 3, none⟩ (.int .i64 m') = w2 at hc hb2 ⊢
  have hcb := H.blk
  refine ⟨?_, hb2, H.new, H.ne, Kd.R_mono (Kd.R_move (R_not H.slots hcb (fun q cells hq e => by
    injection e with _ e2 _
    subst e2
    revert hq
    decide)) (fun k hk => hc.block k hk.1.2.2 hk.2)) (fun _ _ => trivial), H.rmap.chg hc (Ne.symm H.c_ne.1), H.gmap.chg hc (Ne.symm H.c_ne.2), fun q u hq => Kd.R_mono (Kd.R_move (R_not (H.rowv q u hq) hcb (fun q cells hq e => by
    injection e with _ e2 _
    subst e2
    revert hq
    decide)) (fun k hk => hc.block k hk.1.2.2 hk.2)) (fun _ _ => trivial), H.apart⟩
  exact H.bel.trans ⟨hc.os, hc.tape, hc.output, hc.size, fun k hk => hc.block k (Nat.lt_of_lt_of_le hk H.bel.size) (fun e => by have := H.new.1; omega)⟩
/-- A copy that is done is a heap. -/
theorem Cp.heap (H : Cp w wr A c rb gb sv A.slots rg gg A.many) (h1 : ∀ p, rg p = none → A.rows p = []) (h2 : ∀ p v, rg p = some v → A.rows p ≠ []) (h3 : ∀ no, (gg no).getD 0 = A.given no) : HeapIs wr c A (ext (fun _ => False) w wr) := by
  refine ⟨sv, rb, gb, rg, gg, ⟨H.blk, Kd.R_lower (Kd.R_mono (Kd.R_bound H.slots) (fun k hk => .inr ⟨hk.2.1, hk.2.2.1⟩)) (Nat.zero_le _), H.rmap, H.gmap, fun p v hp => ⟨Kd.R_lower (Kd.R_mono (Kd.R_bound (H.rowv p v hp)) (fun k hk => .inr ⟨hk.2.1, hk.2.2.1⟩)) (Nat.zero_le _), h2 p v hp⟩, h1, H.apart, h3, .inr ⟨H.new.1, blk_lt H.blk⟩, .inr ⟨H.new.2.1, H.rmap.lt⟩, .inr ⟨H.new.2.2, H.gmap.lt⟩, H.ne, fun k hk => ?_⟩⟩
  rcases hk with hk | hk
  · exact hk.elim
  · exact hk.2
end
/-- While the rows are copied. -/
structure RowSt (w wr : World) (A : AH) (c rb gb rb0 r : Nat) (sv : Value) (rg0 : Int × Int → Option Value) (done : List (Int × Int)) (left : Nat) (rg : Int × Int → Option Value) : Prop where
  iter : Iter kvW id okW wr rb0 r rg0 done left
  cp : Cp w wr A c rb gb sv A.slots rg (fun _ => none) 0
  dom : ∀ p, (p ∈ done → ∃ v, rg p = some v) ∧ (p ∉ done → rg p = none)
  r0 : w.heap.size ≤ r
  old : rb0 < w.heap.size
theorem RowSt.rne {w wr : World} {A : AH} {c rb gb rb0 r : Nat} {sv : Value} {rg0 : Int × Int → Option Value} {done : List (Int × Int)} {left : Nat} {rg : Int × Int → Option Value} (H : RowSt w wr A c rb gb rb0 r sv rg0 done left rg) :
    ∃ o : Obj, wr.heap[r]? = some o ∧ (∀ cs t fr, o ≠ .cells cs t fr) ∧ r ≠ c ∧ r ≠ rb ∧ r ≠ gb := by
  obtain ⟨_, _, _, _, _, _, _, _, _, h2, _⟩ := H.iter
  obtain ⟨_, _, h3⟩ := H.cp.rmap.isMap
  obtain ⟨_, _, h4⟩ := H.cp.gmap.isMap
  have h5 := H.cp.blk
  exact ⟨_, h2, (fun _ _ _ e => by cases e), (fun e => by rw [e, h5] at h2; cases h2), (fun e => by rw [e, h3] at h2; cases h2), (fun e => by rw [e, h4] at h2; cases h2)⟩
/-- The iterator has gone on. -/
theorem Cp.iter {w wr w' : World} {A : AH} {c rb gb r : Nat} {sv : Value} {l : List ATup} {rg : Int × Int → Option Value} {gg : Int → Option Int} {m : Int} (H : Cp w wr A c rb gb sv l rg gg m) {o : Obj} (ho : wr.heap[r]? = some o) (hn : ∀ cs t fr, o ≠ .cells cs t fr) (h1 : r ≠ c ∧ r ≠ rb ∧ r ≠ gb) (h0 : w.heap.size ≤ r) (hg : wr.grownBy w' (some r)) : Cp w w' A c rb gb sv l rg gg m := by
  have hc : Chg wr w' (fun k => some k = some r) := Chg.of_grown hg
  have hne : ∀ k, k ≠ r → ¬ some k = some r := fun k h e => h (Option.some.inj e)
  have hmv : ∀ {α : Type} {d : Kd α} {e base : Nat} {v : Value} {xs : List α}, d.R e wr base (fun _ => True) v xs → d.R e w' base (fun _ => True) v xs := fun h =>
    Kd.R_mono (Kd.R_move (R_not h ho (fun q cells _ e => hn _ _ _ e)) (fun k hk => hc.block k hk.1.2.2 (hne k hk.2))) (fun _ _ => trivial)
  refine ⟨?_, hc.obj H.blk (hne _ (Ne.symm h1.1)), H.new, H.ne, hmv H.slots, H.rmap.chg hc (hne _ (Ne.symm h1.2.1)), H.gmap.chg hc (hne _ (Ne.symm h1.2.2)), fun q u hq => hmv (H.rowv q u hq), H.apart⟩
  exact H.bel.trans ⟨hc.os, hc.tape, hc.output, hc.size, fun k hk => hc.block k (Nat.lt_of_lt_of_le hk H.bel.size) (hne k (by omega))⟩
theorem RowSt.step {w wr w2 W1 : World} {A : AH} {c rb gb rb0 r : Nat} {sv : Value} {rg0 : Int × Int → Option Value} {done : List (Int × Int)} {left left2 : Nat} {rg : Int × Int → Option Value} (H : RowSt w wr A c rb gb rb0 r sv rg0 done left rg)
    {x : Int × Int} (hox : okW x) (hit2 : Iter kvW id okW w2 rb0 r rg0 (done ++ [x]) left2) (hg2 : wr.grownBy w2 (some r)) (hB : Below w2.heap.size w2 W1) {N : Nat} (hN : w2.heap.size ≤ N) {v1 : Value} (hv : Kd.R kInt 3 W1 N (fun _ => True) v1 (A.rows x)) :
    ∃ w3, (Instr.mapUpdate 103 (.map (some rb)) (kvW x) v1).run Try.prog W1 = .ok () w3 ∧ Chg W1 w3 (fun k => k = rb) ∧ RowSt w w3 A c rb gb rb0 r sv rg0 (done ++ [x]) left2 (upd rg x (some v1)) := by
  obtain ⟨o, ho, hon, hr⟩ := H.rne
  have hC2 := H.cp.iter ho hon hr H.r0 hg2
  have hC1 := hC2.below hB
  obtain ⟨w3, hrun, hm3, hc3, hz3⟩ := hC1.rmap.store keyWhere Try.underlying103 hox v1
  have hn1 : rb0 ≠ rb := fun e => by have := H.old; have := hC1.new.2.1; omega
  refine ⟨w3, hrun, hc3, ⟨hit2.move ((hc3.block rb0 (Nat.lt_of_lt_of_le H.old hC1.bel.size) hn1).trans (hB.block rb0 (Nat.lt_of_lt_of_le H.old hC2.bel.size))) ((hc3.block r (Nat.lt_of_lt_of_le hit2.lt.2 hB.size) hr.2.1).trans (hB.block r hit2.lt.2)),
    hC1.row hv (Nat.le_trans hC2.bel.size hN) (fun q u b hq hb => Nat.lt_of_lt_of_le (hC2.old q u b hq hb) hN) hm3 hc3, fun p => ⟨fun hp => ?_, fun hp => ?_⟩, H.r0, H.old⟩⟩
  · by_cases e : p = x
    · subst e
      exact ⟨v1, upd_same _ _ _⟩
    · rw [upd_other _ _ e]
      refine (H.dom p).1 ?_
      rcases List.mem_append.1 hp with hp | hp
      · exact hp
      · exact absurd (List.mem_singleton.1 hp) e
  · have e : p ≠ x := fun e => hp (by rw [e]; simp)
    rw [upd_other _ _ e]
    exact (H.dom p).2 (fun h => hp (by simp [h]))
theorem new_cp (A : AH) (w : World) : Calls Try.prog 15 #[] w fun e w' => ∃ c rb gb, e = .returned (.pointer (some ⟨c, 0, none⟩)) ∧ Cp w w' A c rb gb (.slice none 0 0) [] (fun _ => none) (fun _ => none) 0 := by
  have hmm := @run_makeMap Try.prog
  go_enter Try.func15, Try.ntmps15
  go_wp2
  go_ret
  have h1 := MapOf.made w kvW (id : Value → Value) okW
  have h2 := MapOf.made (w.alloc (.map #[] 0)) (Value.int .i64) (Value.int .i64) okI
  rw [World.size_alloc] at h2
  refine ⟨w.heap.size + 1 + 1, w.heap.size, w.heap.size + 1, by simp, (((Below.refl _ w).alloc (Nat.le_refl _) _).alloc (by simp) _).alloc (by simp; omega) _, ?_, ⟨by omega, by omega, by omega⟩, by omega, Kd.R_nil _ _ _ _ _, (h1.alloc _).alloc _, h2.alloc _, (fun p v hp => by cases hp), (fun p q u v b hp => by cases hp)⟩
  simpa using blk_new ((w.alloc (.map #[] 0)).alloc (.map #[] 0)) _
end Go.Proofs.Ytljahhgankcalaa

/-! (*Heap).Copy: its walk. -/
namespace Go.Proofs.Ytljahhgankcalaa
open Go.RowKit Go.Maps Go.MapKept Go.WideMaps Go.Shelf
open Go.Proofs.YtljahhgankcalaaW.PrintWords Go.Proofs.YtljahhgankcalaaW.PrintLast Go.Proofs.YtljahhgankcalaaW.PrintMore
open PHeapThere
set_option linter.unusedVariables false
set_option linter.unusedSimpArgs false

set_option maxRecDepth 100000 in
set_option maxHeartbeats 4000000 in
theorem copy_calls (h : Nat) (A : AH) (F : Nat → Prop) (w : World) (H : HeapIs w h A F) (hl : A.slots.length < 2147483648) (hx : ∀ i : Nat, (A.slots.getD i zTup).f6.length < 3518437208883) (hrw : ∀ p, (A.rows p).length < 17592186044000) :
    Calls Try.prog 43 #[.pointer (some ⟨h, 0, none⟩)] w fun e w' => ∃ c, e = .returned (.pointer (some ⟨c, 0, none⟩)) ∧ HeapIs w' c A (ext (fun _ => False) w w') ∧ Below w.heap.size w w' := by
  obtain ⟨sv0, rb0, gb0, rg0, gg0, H⟩ := H
  obtain ⟨a0, c0, hsv⟩ := Kd.R_slice H.slots
  subst hsv
  have HL := Aside0.mk (And.intro hl (And.intro hx hrw))
  replace H := Aside0.mk H
  clear hl hx hrw
  go_enter Try.func43, Try.ntmps43
  go_wp2_with fail
  refine (new_cp A w).mono ?_
  rintro e w1 ⟨c, rb, gb, rfl, hcp⟩
  have H1 := H.out.chg (Chg.of_below hcp.bel (fun _ => False)) (fun _ _ h => h)
  have k0 := H1.cell 0
  have k1 := H1.cell 1
  simp at k0 k1
  have hlen : (A.slots.length : Int) < 2147483648 := by have := HL.out.1; omega
  replace hcp := Aside0.mk hcp
  clear H1
  go_wp2
  go_loopg [16] A.slots.length (fun gg v16 wr => ∃ (i : Nat) (sv : Value), i + gg = A.slots.length ∧ v16 = .int .i64 i ∧ Aside0 (Cp w wr A c rb gb sv (A.slots.take i) (fun _ => none) (fun _ => none) 0))
  case atStart => exact ⟨0, _, by omega, rfl, hcp⟩
  case round =>
    clear hcp k0 k1
    obtain ⟨i, sv, hi, rfl, HS⟩ := hrel
    replace hi := Aside0.mk hi
    by_cases hlt : i < A.slots.length
    · have d1 : decide (i < A.slots.length) = true := decide_eq_true hlt
      have d2 : decide ((i : Int) < (A.slots.length : Int)) = true := decide_eq_true (by omega)
      have b1 : (0 : Int) ≤ (i : Int) := by omega
      have b2 : (i : Int) < (A.slots.length : Int) := by omega
      have H1 := H.out.chg (Chg.of_below HS.out.bel (fun _ => False)) (fun _ _ h => h)
      obtain ⟨g, cap, cur, u6, hsv, hn, hm, hgF, hg, hsz, h6, x0, x1, x2, x3, x4, x5, x6⟩ := slot_cells H1.slots hlt
      injection hsv with hs1 _ hs2
      subst hs1
      subst hs2
      obtain ⟨A6, c6, e6⟩ := Kd.R_slice h6
      subst e6
      have y0 := (blk_cell hg (i * 7)).trans x0
      have y1 := (blk_cell hg (i * 7 + 1)).trans x1
      have y2 := (blk_cell hg (i * 7 + 2)).trans x2
      have y3 := (blk_cell hg (i * 7 + 3)).trans x3
      have y4 := (blk_cell hg (i * 7 + 4)).trans x4
      have y5 := (blk_cell hg (i * 7 + 5)).trans x5
      have y6 := (blk_cell hg (i * 7 + 6)).trans x6
      have HR := Aside0.mk h6
      have HT : Aside0 (A.slots.take (i + 1) = A.slots.take i ++ [A.slots[i]] ∧ A.slots[i].f6.length < 3518437208883) := ⟨List.take_succ_eq_append_getElem hlt, by
        have := HL.out.2.1 i
        rwa [List.getD_eq_getElem?_getD, List.getElem?_eq_getElem hlt] at this⟩
      have HLT := Aside0.mk hlt
      generalize A.slots[i] = T at *
      clear H1 hn hm hgF hg hsz h6 x0 x1 x2 x3 x4 x5 x6 hlt
      obtain ⟨a1, c1, hs1⟩ := Kd.R_slice HS.out.slots
      rw [List.length_take, Nat.min_eq_left (Nat.le_of_lt HLT.out)] at hs1
      subst hs1
      obtain ⟨ob, hob⟩ : ∃ ob, Obj.cells #[.int .i64 T.f0, .int .i64 T.f1, .int .i64 T.f2, .int .i64 T.f3, .int .i64 T.f4, .int .i64 T.f5, .slice A6 T.f6.length c6] 39 (0, 0) = ob := ⟨_, rfl⟩
      have hfar : ∀ W : World, W.heap[c]? = wr.heap[c]? → W.heap[wr.heap.size]? = some ob → (W.cell? ⟨c, 0, none⟩ = some (.slice a1 i c1) ∧ W.cell? ⟨wr.heap.size, 0, none⟩ = some (.int .i64 T.f0) ∧ W.cell? ⟨wr.heap.size, 1, none⟩ = some (.int .i64 T.f1) ∧ W.cell? ⟨wr.heap.size, 2, none⟩ = some (.int .i64 T.f2) ∧ W.cell? ⟨wr.heap.size, 3, none⟩ = some (.int .i64 T.f3) ∧ W.cell? ⟨wr.heap.size, 4, none⟩ = some (.int .i64 T.f4) ∧ W.cell? ⟨wr.heap.size, 5, none⟩ = some (.int .i64 T.f5) ∧ W.cell? ⟨wr.heap.size, 6, none⟩ = some (.slice A6 T.f6.length c6)) := fun W h1 h2 => by
        rw [HS.out.blk] at h1
        rw [← hob] at h2
        exact ⟨blk_cell h1 0, blk_cell h2 0, blk_cell h2 1, blk_cell h2 2, blk_cell h2 3, blk_cell h2 4, blk_cell h2 5, blk_cell h2 6⟩
      have hkeep : ∀ W : World, Below (wr.alloc ob).heap.size (wr.alloc ob) W → (W.cell? ⟨c, 0, none⟩ = some (.slice a1 i c1) ∧ W.cell? ⟨wr.heap.size, 0, none⟩ = some (.int .i64 T.f0) ∧ W.cell? ⟨wr.heap.size, 1, none⟩ = some (.int .i64 T.f1) ∧ W.cell? ⟨wr.heap.size, 2, none⟩ = some (.int .i64 T.f2) ∧ W.cell? ⟨wr.heap.size, 3, none⟩ = some (.int .i64 T.f3) ∧ W.cell? ⟨wr.heap.size, 4, none⟩ = some (.int .i64 T.f4) ∧ W.cell? ⟨wr.heap.size, 5, none⟩ = some (.int .i64 T.f5) ∧ W.cell? ⟨wr.heap.size, 6, none⟩ = some (.slice A6 T.f6.length c6)) := fun W hb => hfar W
        ((hb.block c (by have := blk_lt HS.out.blk; simp; omega)).trans (Below.heap_alloc wr ob c (blk_lt HS.out.blk))) ((hb.block wr.heap.size (by simp)).trans (heap_alloc_new wr ob))
      have hgrow : ∀ W w5 : World, Below (wr.alloc ob).heap.size (wr.alloc ob) W → W.grownBy w5 (Value.slice a1 i c1).ownBlock → (w5.cell? ⟨c, 0, none⟩ = some (.slice a1 i c1) ∧ w5.cell? ⟨wr.heap.size, 0, none⟩ = some (.int .i64 T.f0) ∧ w5.cell? ⟨wr.heap.size, 1, none⟩ = some (.int .i64 T.f1) ∧ w5.cell? ⟨wr.heap.size, 2, none⟩ = some (.int .i64 T.f2) ∧ w5.cell? ⟨wr.heap.size, 3, none⟩ = some (.int .i64 T.f3) ∧ w5.cell? ⟨wr.heap.size, 4, none⟩ = some (.int .i64 T.f4) ∧ w5.cell? ⟨wr.heap.size, 5, none⟩ = some (.int .i64 T.f5) ∧ w5.cell? ⟨wr.heap.size, 6, none⟩ = some (.slice A6 T.f6.length c6)) ∧ w5.frozen? ⟨c, 0, none⟩ = false := fun W w5 hb hg => by
        have h1 := (hb.block c (by have := blk_lt HS.out.blk; simp; omega)).trans (Below.heap_alloc wr ob c (blk_lt HS.out.blk))
        have h2 := (hb.block wr.heap.size (by simp)).trans (heap_alloc_new wr ob)
        have hc := Chg.of_grown hg
        have n1 : ¬ some c = (Value.slice a1 i c1).ownBlock := fun e => (HS.out.own e.symm).2.1 rfl
        have n2 : ¬ some wr.heap.size = (Value.slice a1 i c1).ownBlock := fun e => by
          obtain ⟨_, _, _, _, cs, h3⟩ := HS.out.own e.symm
          have := blk_lt h3
          omega
        have h3 := hc.obj (h1.trans HS.out.blk) n1
        exact ⟨hfar w5 (h3.trans HS.out.blk.symm) (hc.obj h2 n2), blk_frozen h3 0⟩
      have hb0 : Aside0 (Below (wr.alloc ob).heap.size (wr.alloc ob) (wr.alloc ob).drew) := ⟨(Below.refl _ _).drew⟩
      have hfs := hkeep _ hb0.out
      have hcl := fun (W : World) (hb : Below (wr.alloc ob).heap.size (wr.alloc ob) W) => tclone_calls T.f0 T.f1 T.f2 T.f3 T.f4 T.f5 (.slice A6 T.f6.length c6) T.f6 W _ (Kd.R_below (Kd.R_below HR.out ((Below.refl _ wr).alloc (Nat.le_refl _) ob)) hb) HT.out.2
      replace hfar := Aside0.mk hfar
      replace hkeep := Aside0.mk hkeep
      replace hgrow := Aside0.mk hgrow
      replace hcl := Aside0.mk hcl
      have hHS := Aside0.mk (fun (W : World) (hb : Below (wr.alloc ob).heap.size (wr.alloc ob) W) => (HS.out.below ((Below.refl _ wr).alloc (Nat.le_refl _) ob)).below hb)
      have hln : ((A.slots.take i).length + 1) * 72 ≤ 140737488355328 := by
        rw [List.length_take, Nat.min_eq_left (Nat.le_of_lt HLT.out)]
        have := HL.out.1
        have := HLT.out
        omega
      obtain ⟨f0, f1, f2, f3, f4, f5, f6, f7⟩ := hfs
      go_upto_region 7 with (fail)
      clear hob
      have nc : ¬ wr.heap.size = c := by have := blk_lt HS.out.blk; omega
      have nc' : ¬ c = wr.heap.size := fun e => nc e.symm
      -- region 7
      refine wp_region_held_drew (S := (fun W => W.cell? ⟨wr.heap.size, 0, none⟩ = some (.int .i64 T.f0) ∧ W.cell? ⟨wr.heap.size, 1, none⟩ = some (.int .i64 T.f1) ∧ W.cell? ⟨wr.heap.size, 2, none⟩ = some (.int .i64 T.f2) ∧ W.cell? ⟨wr.heap.size, 3, none⟩ = some (.int .i64 T.f3) ∧ W.cell? ⟨wr.heap.size, 4, none⟩ = some (.int .i64 T.f4) ∧ W.cell? ⟨wr.heap.size, 5, none⟩ = some (.int .i64 T.f5) ∧ W.cell? ⟨wr.heap.size, 6, none⟩ = some (.slice A6 T.f6.length c6))) (by kernel_rfl) ?_ (fun hHeld => ?_)
      · go_keep
      refine wpAnyH_take (i := 0) (v := ?_) rfl (by kernel_rfl) (by kernel_rfl) (by kernel_rfl) (fun _ _ _ h => h) (Or.inl ⟨by rfl, ?_⟩) (by assumption) ?_
      rotate_left
      · intro w hSw
        try dsimp only at hSw
        go_simp
        try with_reducible rfl
      try simp only [Act.put, List.getElem_toArray, List.getElem_cons_zero, List.getElem_cons_succ, List.setIfInBounds_toArray, List.set_cons_zero, List.set_cons_succ]
      refine wpAnyH_take (i := 1) (v := ?_) rfl (by kernel_rfl) (by kernel_rfl) (by kernel_rfl) (fun _ _ _ h => h) (Or.inl ⟨by rfl, ?_⟩) (by assumption) ?_
      rotate_left
      · intro w hSw
        try dsimp only at hSw
        go_simp
        try with_reducible rfl
      try simp only [Act.put, List.getElem_toArray, List.getElem_cons_zero, List.getElem_cons_succ, List.setIfInBounds_toArray, List.set_cons_zero, List.set_cons_succ]
      refine wpAnyH_take (i := 5) (v := ?_) rfl (by kernel_rfl) (by kernel_rfl) (by kernel_rfl) (fun _ _ _ h => h) (Or.inl ⟨by rfl, ?_⟩) (by assumption) ?_
      rotate_left
      · intro w hSw
        try dsimp only at hSw
        go_simp
        try with_reducible rfl
      try simp only [Act.put, List.getElem_toArray, List.getElem_cons_zero, List.getElem_cons_succ, List.setIfInBounds_toArray, List.set_cons_zero, List.set_cons_succ]
      refine wpAnyH_take (i := 2) (v := ?_) rfl (by kernel_rfl) (by kernel_rfl) (by kernel_rfl) (fun _ _ _ h => h) (Or.inl ⟨by rfl, ?_⟩) (by assumption) ?_
      rotate_left
      · intro w hSw
        try dsimp only at hSw
        go_simp
        try with_reducible rfl
      try simp only [Act.put, List.getElem_toArray, List.getElem_cons_zero, List.getElem_cons_succ, List.setIfInBounds_toArray, List.set_cons_zero, List.set_cons_succ]
      refine wpAnyH_take (i := 3) (v := ?_) rfl (by kernel_rfl) (by kernel_rfl) (by kernel_rfl) (fun _ _ _ h => h) (Or.inl ⟨by rfl, ?_⟩) (by assumption) ?_
      rotate_left
      · intro w hSw
        try dsimp only at hSw
        go_simp
        try with_reducible rfl
      try simp only [Act.put, List.getElem_toArray, List.getElem_cons_zero, List.getElem_cons_succ, List.setIfInBounds_toArray, List.set_cons_zero, List.set_cons_succ]
      refine wpAnyH_ready (rs := [4, 6]) (by kernel_rfl) (by simp) ?_
      refine AllReadyH.cons rfl (fun K hK => ?_) (AllReadyH.cons rfl (fun K hK => ?_) AllReadyH.nil)
      · go_simp
        refine hK.out _ _ ?_ (fun hHeld => ?_)
        · go_keep
        clear hK K
        try simp only [Act.put, List.getElem_toArray, List.getElem_cons_zero, List.getElem_cons_succ, List.setIfInBounds_toArray, List.set_cons_zero, List.set_cons_succ]
        refine wpAnyH_ready (rs := [6]) (by kernel_rfl) (by simp) ?_
        refine AllReadyH.cons rfl (fun K hK => ?_) AllReadyH.nil
        go_simp
        go_at_call 59; refine (hcl.out _ hb0.out).mono ?_; rintro e W1 ⟨v1, rfl, ho, hB⟩; obtain ⟨A7, c7, e7⟩ := Kd.R_slice ho; subst e7; have hb2 := Aside0.mk (hb0.out.trans (hB.mono hb0.out.size)); have hO : Aside0 (Kd.R kVal 91 W1 w.heap.size (fun k => wr.heap.size ≤ k) (.slice A7 T.f6.length c7) T.f6) := ⟨Kd.R_lower (Kd.R_mono (Kd.R_bound ho) (fun k hk => Nat.le_trans (Nat.le_trans ((Below.refl wr.heap.size wr).alloc (Nat.le_refl _) ob).size hb0.out.size) hk.2.1)) (Nat.le_trans HS.out.bel.size (Nat.le_trans ((Below.refl wr.heap.size wr).alloc (Nat.le_refl _) ob).size hb0.out.size))⟩; obtain ⟨g0, g1, g2, g3, g4, g5, g6, g7⟩ := hkeep.out _ hb2.out; have gA : ∀ o, (W1.alloc o).cell? ⟨c, 0, none⟩ = some (.slice a1 i c1) := fun o => (World.cell?_alloc_some W1 _ o (by rw [g0]; rfl)).trans g0; clear ho hB
        refine hK.out _ _ ?_ (fun hHeld => ?_)
        · go_keep
        clear hK K
        try simp only [Act.put, List.getElem_toArray, List.getElem_cons_zero, List.getElem_cons_succ, List.setIfInBounds_toArray, List.set_cons_zero, List.set_cons_succ]
        refine wpAnyH_ready (rs := [7]) (by kernel_rfl) (by simp) ?_
        refine AllReadyH.cons rfl (fun K hK => ?_) AllReadyH.nil
        go_simp
        refine hK.out _ _ ?_ (fun hHeld => ?_)
        · go_keep
        clear hK K
        try simp only [Act.put, List.getElem_toArray, List.getElem_cons_zero, List.getElem_cons_succ, List.setIfInBounds_toArray, List.set_cons_zero, List.set_cons_succ]
        refine wpAnyH_ready (rs := [8]) (by kernel_rfl) (by simp) ?_
        refine AllReadyH.cons rfl (fun K hK => ?_) AllReadyH.nil
        refine Kd.R_append_step kTup (w0 := W1) w.heap.size (by rfl) (.tmp 24) (.tmp 27) 104 39 (.agg #[.int .i64 0, .int .i64 0, .int .i64 0, .int .i64 0, .int .i64 0, .int .i64 0, .slice none 0 0]) 72 (by rfl) Try.underlying104 Try.infoTuple rfl (by decide) (by omega) (.slice a1 i c1) (A.slots.take i) T [.int .i64 T.f0, .int .i64 T.f1, .int .i64 T.f2, .int .i64 T.f3, .int .i64 T.f4, .int .i64 T.f5, .slice A7 T.f6.length c7] (fun _ => True) (fun k => wr.heap.size ≤ k) (by rfl) (by rfl) (k32_mkM W1 w.heap.size (fun k => wr.heap.size ≤ k) T hO.out) (fun k hk => ⟨trivial, fun e => (by obtain ⟨_, _, _, _, cs, h3⟩ := HS.out.own e.symm; have := blk_lt h3; omega)⟩) (fun _ _ => trivial) (hHS.out W1 hb2.out).slots (Below.refl _ _) (hHS.out W1 hb2.out).bel.size hln ?_
        intro v2 w5 ho5 hb5 hg5 hat5; clear hb5 hat5; obtain ⟨⟨g8, g9, g10, g11, g12, g13, g14, g15⟩, z0⟩ := hgrow.out W1 w5 hb2.out hg5; obtain ⟨a2, c2, e2⟩ := Kd.R_slice ho5; simp only [List.length_append, List.length_cons, List.length_nil, Nat.zero_add, List.length_take] at e2; subst e2; replace ho5 := Aside0.mk ho5; replace hg5 := Aside0.mk hg5
        refine hK.out _ _ ?_ (fun hHeld => ?_)
        · go_keep
        clear hK K
        try simp only [Act.put, List.getElem_toArray, List.getElem_cons_zero, List.getElem_cons_succ, List.setIfInBounds_toArray, List.set_cons_zero, List.set_cons_succ]
        refine wpAnyH_take (i := 9) (v := ?_) rfl (by kernel_rfl) (by kernel_rfl) (by kernel_rfl) (fun _ _ _ h => h) (Or.inl ⟨by rfl, ?_⟩) (by assumption) ?_
        rotate_left
        · intro w hSw
          try dsimp only at hSw
          go_simp
          try with_reducible rfl
        try simp only [Act.put, List.getElem_toArray, List.getElem_cons_zero, List.getElem_cons_succ, List.setIfInBounds_toArray, List.set_cons_zero, List.set_cons_succ]
        refine wpAnyH_take (i := 10) (v := ?_) rfl (by kernel_rfl) (by kernel_rfl) (by kernel_rfl) (fun _ _ _ h => h) (Or.inl ⟨by rfl, ?_⟩) (by assumption) ?_
        rotate_left
        · intro w hSw
          try dsimp only at hSw
          go_simp
          try with_reducible rfl
        try simp only [Act.put, List.getElem_toArray, List.getElem_cons_zero, List.getElem_cons_succ, List.setIfInBounds_toArray, List.set_cons_zero, List.set_cons_succ]
        refine wpAnyH_ready (rs := [11]) (by kernel_rfl) (by simp) ?_
        refine AllReadyH.cons rfl (fun K hK => ?_) AllReadyH.nil
        go_simp
        refine hK.out _ _ ?_ (fun hHeld => ?_)
        · go_keep
        clear hK K
        try simp only [Act.put, List.getElem_toArray, List.getElem_cons_zero, List.getElem_cons_succ, List.setIfInBounds_toArray, List.set_cons_zero, List.set_cons_succ]
        refine wpAnyH_done (by kernel_rfl) ?_ _
        have hz := (hHS.out W1 hb2.out).push ho5.out hg5.out
        rw [← HT.out.1] at hz
        replace hz := Aside0.mk hz
        clear g0 g1 g2 g3 g4 g5 g6 g7 g8 g9 g10 g11 g12 g13 g14 g15 z0 gA f0 f1 f2 f3 f4 f5 f6 f7 y0 y1 y2 y3 y4 y5 y6
        go_wp2
        go_roundg (A.slots.length - (i + 1))
        case measure => have := hi.out; have := HLT.out; omega
        case rel => exact ⟨i + 1, _, by have := hi.out; have := HLT.out; omega, congrArg (Value.int .i64) (by omega), hz⟩
      · go_simp
        go_at_call 59; refine (hcl.out _ hb0.out).mono ?_; rintro e W1 ⟨v1, rfl, ho, hB⟩; obtain ⟨A7, c7, e7⟩ := Kd.R_slice ho; subst e7; have hb2 := Aside0.mk (hb0.out.trans (hB.mono hb0.out.size)); have hO : Aside0 (Kd.R kVal 91 W1 w.heap.size (fun k => wr.heap.size ≤ k) (.slice A7 T.f6.length c7) T.f6) := ⟨Kd.R_lower (Kd.R_mono (Kd.R_bound ho) (fun k hk => Nat.le_trans (Nat.le_trans ((Below.refl wr.heap.size wr).alloc (Nat.le_refl _) ob).size hb0.out.size) hk.2.1)) (Nat.le_trans HS.out.bel.size (Nat.le_trans ((Below.refl wr.heap.size wr).alloc (Nat.le_refl _) ob).size hb0.out.size))⟩; obtain ⟨g0, g1, g2, g3, g4, g5, g6, g7⟩ := hkeep.out _ hb2.out; have gA : ∀ o, (W1.alloc o).cell? ⟨c, 0, none⟩ = some (.slice a1 i c1) := fun o => (World.cell?_alloc_some W1 _ o (by rw [g0]; rfl)).trans g0; clear ho hB
        refine hK.out _ _ ?_ (fun hHeld => ?_)
        · go_keep
        clear hK K
        try simp only [Act.put, List.getElem_toArray, List.getElem_cons_zero, List.getElem_cons_succ, List.setIfInBounds_toArray, List.set_cons_zero, List.set_cons_succ]
        refine wpAnyH_ready (rs := [4, 7]) (by kernel_rfl) (by simp) ?_
        refine AllReadyH.cons rfl (fun K hK => ?_) (AllReadyH.cons rfl (fun K hK => ?_) AllReadyH.nil)
        · go_simp
          refine hK.out _ _ ?_ (fun hHeld => ?_)
          · go_keep
          clear hK K
          try simp only [Act.put, List.getElem_toArray, List.getElem_cons_zero, List.getElem_cons_succ, List.setIfInBounds_toArray, List.set_cons_zero, List.set_cons_succ]
          refine wpAnyH_ready (rs := [7]) (by kernel_rfl) (by simp) ?_
          refine AllReadyH.cons rfl (fun K hK => ?_) AllReadyH.nil
          go_simp
          refine hK.out _ _ ?_ (fun hHeld => ?_)
          · go_keep
          clear hK K
          try simp only [Act.put, List.getElem_toArray, List.getElem_cons_zero, List.getElem_cons_succ, List.setIfInBounds_toArray, List.set_cons_zero, List.set_cons_succ]
          refine wpAnyH_ready (rs := [8]) (by kernel_rfl) (by simp) ?_
          refine AllReadyH.cons rfl (fun K hK => ?_) AllReadyH.nil
          refine Kd.R_append_step kTup (w0 := W1) w.heap.size (by rfl) (.tmp 24) (.tmp 27) 104 39 (.agg #[.int .i64 0, .int .i64 0, .int .i64 0, .int .i64 0, .int .i64 0, .int .i64 0, .slice none 0 0]) 72 (by rfl) Try.underlying104 Try.infoTuple rfl (by decide) (by omega) (.slice a1 i c1) (A.slots.take i) T [.int .i64 T.f0, .int .i64 T.f1, .int .i64 T.f2, .int .i64 T.f3, .int .i64 T.f4, .int .i64 T.f5, .slice A7 T.f6.length c7] (fun _ => True) (fun k => wr.heap.size ≤ k) (by rfl) (by rfl) (k32_mkM W1 w.heap.size (fun k => wr.heap.size ≤ k) T hO.out) (fun k hk => ⟨trivial, fun e => (by obtain ⟨_, _, _, _, cs, h3⟩ := HS.out.own e.symm; have := blk_lt h3; omega)⟩) (fun _ _ => trivial) (hHS.out W1 hb2.out).slots (Below.refl _ _) (hHS.out W1 hb2.out).bel.size hln ?_
          intro v2 w5 ho5 hb5 hg5 hat5; clear hb5 hat5; obtain ⟨⟨g8, g9, g10, g11, g12, g13, g14, g15⟩, z0⟩ := hgrow.out W1 w5 hb2.out hg5; obtain ⟨a2, c2, e2⟩ := Kd.R_slice ho5; simp only [List.length_append, List.length_cons, List.length_nil, Nat.zero_add, List.length_take] at e2; subst e2; replace ho5 := Aside0.mk ho5; replace hg5 := Aside0.mk hg5
          refine hK.out _ _ ?_ (fun hHeld => ?_)
          · go_keep
          clear hK K
          try simp only [Act.put, List.getElem_toArray, List.getElem_cons_zero, List.getElem_cons_succ, List.setIfInBounds_toArray, List.set_cons_zero, List.set_cons_succ]
          refine wpAnyH_take (i := 9) (v := ?_) rfl (by kernel_rfl) (by kernel_rfl) (by kernel_rfl) (fun _ _ _ h => h) (Or.inl ⟨by rfl, ?_⟩) (by assumption) ?_
          rotate_left
          · intro w hSw
            try dsimp only at hSw
            go_simp
            try with_reducible rfl
          try simp only [Act.put, List.getElem_toArray, List.getElem_cons_zero, List.getElem_cons_succ, List.setIfInBounds_toArray, List.set_cons_zero, List.set_cons_succ]
          refine wpAnyH_take (i := 10) (v := ?_) rfl (by kernel_rfl) (by kernel_rfl) (by kernel_rfl) (fun _ _ _ h => h) (Or.inl ⟨by rfl, ?_⟩) (by assumption) ?_
          rotate_left
          · intro w hSw
            try dsimp only at hSw
            go_simp
            try with_reducible rfl
          try simp only [Act.put, List.getElem_toArray, List.getElem_cons_zero, List.getElem_cons_succ, List.setIfInBounds_toArray, List.set_cons_zero, List.set_cons_succ]
          refine wpAnyH_ready (rs := [11]) (by kernel_rfl) (by simp) ?_
          refine AllReadyH.cons rfl (fun K hK => ?_) AllReadyH.nil
          go_simp
          refine hK.out _ _ ?_ (fun hHeld => ?_)
          · go_keep
          clear hK K
          try simp only [Act.put, List.getElem_toArray, List.getElem_cons_zero, List.getElem_cons_succ, List.setIfInBounds_toArray, List.set_cons_zero, List.set_cons_succ]
          refine wpAnyH_done (by kernel_rfl) ?_ _
          have hz := (hHS.out W1 hb2.out).push ho5.out hg5.out
          rw [← HT.out.1] at hz
          replace hz := Aside0.mk hz
          clear g0 g1 g2 g3 g4 g5 g6 g7 g8 g9 g10 g11 g12 g13 g14 g15 z0 gA f0 f1 f2 f3 f4 f5 f6 f7 y0 y1 y2 y3 y4 y5 y6
          go_wp2
          go_roundg (A.slots.length - (i + 1))
          case measure => have := hi.out; have := HLT.out; omega
          case rel => exact ⟨i + 1, _, by have := hi.out; have := HLT.out; omega, congrArg (Value.int .i64) (by omega), hz⟩
        · go_simp
          refine hK.out _ _ ?_ (fun hHeld => ?_)
          · go_keep
          clear hK K
          try simp only [Act.put, List.getElem_toArray, List.getElem_cons_zero, List.getElem_cons_succ, List.setIfInBounds_toArray, List.set_cons_zero, List.set_cons_succ]
          refine wpAnyH_ready (rs := [4]) (by kernel_rfl) (by simp) ?_
          refine AllReadyH.cons rfl (fun K hK => ?_) AllReadyH.nil
          go_simp
          refine hK.out _ _ ?_ (fun hHeld => ?_)
          · go_keep
          clear hK K
          try simp only [Act.put, List.getElem_toArray, List.getElem_cons_zero, List.getElem_cons_succ, List.setIfInBounds_toArray, List.set_cons_zero, List.set_cons_succ]
          refine wpAnyH_ready (rs := [8]) (by kernel_rfl) (by simp) ?_
          refine AllReadyH.cons rfl (fun K hK => ?_) AllReadyH.nil
          refine Kd.R_append_step kTup (w0 := W1) w.heap.size (by rfl) (.tmp 24) (.tmp 27) 104 39 (.agg #[.int .i64 0, .int .i64 0, .int .i64 0, .int .i64 0, .int .i64 0, .int .i64 0, .slice none 0 0]) 72 (by rfl) Try.underlying104 Try.infoTuple rfl (by decide) (by omega) (.slice a1 i c1) (A.slots.take i) T [.int .i64 T.f0, .int .i64 T.f1, .int .i64 T.f2, .int .i64 T.f3, .int .i64 T.f4, .int .i64 T.f5, .slice A7 T.f6.length c7] (fun _ => True) (fun k => wr.heap.size ≤ k) (by rfl) (by rfl) (k32_mkM W1 w.heap.size (fun k => wr.heap.size ≤ k) T hO.out) (fun k hk => ⟨trivial, fun e => (by obtain ⟨_, _, _, _, cs, h3⟩ := HS.out.own e.symm; have := blk_lt h3; omega)⟩) (fun _ _ => trivial) (hHS.out W1 hb2.out).slots (Below.refl _ _) (hHS.out W1 hb2.out).bel.size hln ?_
          intro v2 w5 ho5 hb5 hg5 hat5; clear hb5 hat5; obtain ⟨⟨g8, g9, g10, g11, g12, g13, g14, g15⟩, z0⟩ := hgrow.out W1 w5 hb2.out hg5; obtain ⟨a2, c2, e2⟩ := Kd.R_slice ho5; simp only [List.length_append, List.length_cons, List.length_nil, Nat.zero_add, List.length_take] at e2; subst e2; replace ho5 := Aside0.mk ho5; replace hg5 := Aside0.mk hg5
          refine hK.out _ _ ?_ (fun hHeld => ?_)
          · go_keep
          clear hK K
          try simp only [Act.put, List.getElem_toArray, List.getElem_cons_zero, List.getElem_cons_succ, List.setIfInBounds_toArray, List.set_cons_zero, List.set_cons_succ]
          refine wpAnyH_take (i := 9) (v := ?_) rfl (by kernel_rfl) (by kernel_rfl) (by kernel_rfl) (fun _ _ _ h => h) (Or.inl ⟨by rfl, ?_⟩) (by assumption) ?_
          rotate_left
          · intro w hSw
            try dsimp only at hSw
            go_simp
            try with_reducible rfl
          try simp only [Act.put, List.getElem_toArray, List.getElem_cons_zero, List.getElem_cons_succ, List.setIfInBounds_toArray, List.set_cons_zero, List.set_cons_succ]
          refine wpAnyH_take (i := 10) (v := ?_) rfl (by kernel_rfl) (by kernel_rfl) (by kernel_rfl) (fun _ _ _ h => h) (Or.inl ⟨by rfl, ?_⟩) (by assumption) ?_
          rotate_left
          · intro w hSw
            try dsimp only at hSw
            go_simp
            try with_reducible rfl
          try simp only [Act.put, List.getElem_toArray, List.getElem_cons_zero, List.getElem_cons_succ, List.setIfInBounds_toArray, List.set_cons_zero, List.set_cons_succ]
          refine wpAnyH_ready (rs := [11]) (by kernel_rfl) (by simp) ?_
          refine AllReadyH.cons rfl (fun K hK => ?_) AllReadyH.nil
          go_simp
          refine hK.out _ _ ?_ (fun hHeld => ?_)
          · go_keep
          clear hK K
          try simp only [Act.put, List.getElem_toArray, List.getElem_cons_zero, List.getElem_cons_succ, List.setIfInBounds_toArray, List.set_cons_zero, List.set_cons_succ]
          refine wpAnyH_done (by kernel_rfl) ?_ _
          have hz := (hHS.out W1 hb2.out).push ho5.out hg5.out
          rw [← HT.out.1] at hz
          replace hz := Aside0.mk hz
          clear g0 g1 g2 g3 g4 g5 g6 g7 g8 g9 g10 g11 g12 g13 g14 g15 z0 gA f0 f1 f2 f3 f4 f5 f6 f7 y0 y1 y2 y3 y4 y5 y6
          go_wp2
          go_roundg (A.slots.length - (i + 1))
          case measure => have := hi.out; have := HLT.out; omega
          case rel => exact ⟨i + 1, _, by have := hi.out; have := HLT.out; omega, congrArg (Value.int .i64) (by omega), hz⟩
      -- region 7 ends
    · have d1 : decide (i < A.slots.length) = false := decide_eq_false hlt
      have d2 : decide ((i : Int) < (A.slots.length : Int)) = false := decide_eq_false (by omega)
      have H1 := H.out.chg (Chg.of_below HS.out.bel (fun _ => False)) (fun _ _ h => h)
      have k1 := H1.cell 1
      simp at k1
      have hC : Aside0 (Cp w wr A c rb gb sv A.slots (fun _ => none) (fun _ => none) 0) := ⟨by
        have := HS.out
        rwa [List.take_of_length_le (by omega)] at this⟩
      have hrm := H1.rmap
      have hold : rb0 < w.heap.size := H.out.rmap.lt
      replace hold := Aside0.mk hold
      clear HS H1
      go_wp2_with (at_range; refine wpList_range_map rfl _ 103 rfl Try.underlying103 rfl hrm ?_; intro ob n0 hw0 hit0)
      have hS0 : RowSt w (wr.alloc ob) A c rb gb rb0 wr.heap.size sv rg0 [] n0 (fun _ => none) := ⟨hit0, hC.out.below ((Below.refl _ wr).alloc (Nat.le_refl _) ob), fun p => ⟨fun h => by simp at h, fun _ => rfl⟩, hC.out.bel.size, hold.out⟩
      generalize wr.heap.size = r at hS0 ⊢
      replace hS0 := Aside0.mk hS0
      clear hit0 hrm hw0 k1 hC d1 d2
      go_frame
      go_loopg [] n0 (fun gg wr => ∃ (done : List (Int × Int)) (left : Nat) (rg : Int × Int → Option Value), left ≤ gg ∧ Aside0 (RowSt w wr A c rb gb rb0 r sv rg0 done left rg))
      case atStart => exact ⟨[], n0, _, Nat.le_refl _, hS0⟩
      case round =>
        clear hS0
        obtain ⟨done, left, rg, hle, HS⟩ := hrel
        have hit := HS.out.iter
        go_wp2_with (at_next; refine wpList_next_iter rfl _ rfl rfl hit keyWhere.inj ?_ ?_)
        · intro hall
          have HC := HS.out.cp
          have H1 := H.out.chg (Chg.of_below HC.bel (fun _ => False)) (fun _ _ h => h)
          have k2 := H1.cell 2
          have c2 := blk_cell HC.blk 2
          simp at k2 c2
          have hgb : gb ≠ gb0 := fun e => by have := HC.new.2.2; have := H.out.gmap.lt; omega
          have hmc := mapcopy_calls gb gb0 hgb gg0 wr.drew H1.gmap.drew HC.gmap.drew
          have hdom : Aside0 ((∀ p, rg p = none → A.rows p = []) ∧ (∀ p v, rg p = some v → A.rows p ≠ [])) := ⟨(fun p hp => by
            cases hg : rg0 p with
            | none => exact H.out.rown p hg
            | some v =>
              obtain ⟨u, hu⟩ := (HS.out.dom p).1 ((hall p.1 p.2).2 ⟨v, hg⟩)
              rw [hp] at hu
              cases hu), (fun p v hp => by
            by_cases hm : p ∈ done
            · obtain ⟨u, hu⟩ := (hall p.1 p.2).1 hm
              exact (H.out.rowv p u hu).2
            · rw [(HS.out.dom p).2 hm] at hp
              cases hp)⟩
          have hnx : Aside0 (∀ W, MapOf (Value.int .i64) (Value.int .i64) okI W gb gg0 → Chg wr.drew W (fun k => k = gb) → Cp w W A c rb gb sv A.slots rg gg0 0 ∧ W.cell? ⟨h, 3, none⟩ = some (.int .i64 A.many) ∧ W.cell? ⟨c, 3, none⟩ = some (.int .i64 0) ∧ W.frozen? ⟨c, 3, none⟩ = false ∧ W.cell? ⟨c, 2, none⟩ = some (.map (some gb)) ∧ W.cell? ⟨h, 2, none⟩ = some (.map (some gb0))) := ⟨fun W h1 h2 => by
            have h3 : Chg wr W (fun k => k = gb) := ((Chg.refl wr (fun k => k = gb)).drew).then_ h2 (fun _ _ h => h)
            have h4 := HS.out.cp.givens h1 h3
            have h5 := H.out.chg (Chg.of_below h4.bel (fun _ => False)) (fun _ _ h => h)
            exact ⟨h4, h5.cell 3, blk_cell h4.blk 3, blk_frozen h4.blk 3, blk_cell h4.blk 2, h5.cell 2⟩⟩
          clear hall hit HC H1
          go_upto_region 13 with (fail)
          go_region_held3 (fun W => W.cell? ⟨c, 2, none⟩ = some (.map (some gb)) ∧ W.cell? ⟨h, 2, none⟩ = some (.map (some gb0))) (go_keep) ((go_at_call 84; refine hmc.mono ?_; clear hmc; rintro e W1 ⟨rfl, h1, h2⟩; obtain ⟨h3, r0, r1, r2, r3, r4⟩ := hnx.out _ h1 h2; replace h3 := Aside0.mk h3; clear h1 h2))
          have h3 : Aside0 (Cp w W1 A c rb gb sv A.slots rg gg0 0) := by assumption
          clear k2 c2 hnx
          go_wp2
          go_ret
          have h4 := h3.out.many A.many
          exact ⟨c, rfl, h4.heap hdom.out.1 hdom.out.2 H.out.givn, h4.bel⟩
        · intro x1 x2 v w2 left2 hlt2 hg hox hnx hit2 hen hg2 hs2
          have HX := Aside0.mk (And.intro hit2 (And.intro hg2 hox))
          have hlt3 := Aside0.mk hlt2
          obtain ⟨av, cv, ev⟩ := Kd.R_slice (H.out.rowv (x1, x2) v hg).1
          subst ev
          obtain ⟨ob2, hob2⟩ : ∃ ob2, Obj.cells #[.int .i64 x1, .int .i64 x2] 128 (0, 0) = ob2 := ⟨_, rfl⟩
          obtain ⟨o, ho, hon, hr⟩ := HS.out.rne
          have hC2 := HS.out.cp.iter ho hon hr HS.out.r0 hg2
          have hb0 : Aside0 (Below w2.heap.size w2 (w2.alloc ob2).drew) := ⟨((Below.refl _ w2).alloc (Nat.le_refl _) ob2).drew⟩
          have hcl : Aside0 (∀ W, Below w2.heap.size w2 W → Calls Try.prog 79 #[.slice av (A.rows (x1, x2)).length cv] W fun e w' => ∃ v1, e = .returned v1 ∧ Kd.R kInt 3 w' W.heap.size (fun _ => True) v1 (A.rows (x1, x2)) ∧ Below W.heap.size W w') := ⟨fun W hb => cloneInts _ _ W 0 F
            (Kd.R_below (H.out.rowv (x1, x2) _ hg).1 ((hC2.below hb).bel)) (HL.out.2.2 (x1, x2))⟩
          have hfar : Aside0 (∀ W, Below (w2.alloc ob2).heap.size (w2.alloc ob2) W → W.cell? ⟨c, 1, none⟩ = some (.map (some rb)) ∧ W.cell? ⟨w2.heap.size, 0, none⟩ = some (.int .i64 x1) ∧ W.cell? ⟨w2.heap.size, 1, none⟩ = some (.int .i64 x2)) := ⟨fun W hb => by
            have h1 := (hb.block w2.heap.size (by simp)).trans (heap_alloc_new w2 ob2)
            rw [← hob2] at h1
            have h2 := ((hC2.below ((Below.refl _ w2).alloc (Nat.le_refl _) ob2)).below hb).blk
            exact ⟨blk_cell h2 1, blk_cell h1 0, blk_cell h1 1⟩⟩
          have hfar2 : Aside0 (∀ W w3, Below (w2.alloc ob2).heap.size (w2.alloc ob2) W → Chg W w3 (fun k => k = rb) → w3.cell? ⟨c, 1, none⟩ = some (.map (some rb)) ∧ w3.cell? ⟨w2.heap.size, 0, none⟩ = some (.int .i64 x1) ∧ w3.cell? ⟨w2.heap.size, 1, none⟩ = some (.int .i64 x2)) := ⟨fun W w3 hb hc => by
            have h1 := (hb.block w2.heap.size (by simp)).trans (heap_alloc_new w2 ob2)
            rw [← hob2] at h1
            have h2 := (hC2.below ((Below.refl _ w2).alloc (Nat.le_refl _) ob2)).below hb
            have h3 := hc.obj h2.blk h2.c_ne.1
            have h4 := hc.obj h1 (fun e => by have := hC2.rmap.lt; omega)
            exact ⟨blk_cell h3 1, blk_cell h4 0, blk_cell h4 1⟩⟩
          obtain ⟨f0, f1, f2⟩ := hfar.out _ ((Below.refl _ (w2.alloc ob2)).drew)
          simp only [kvW] at hen
          clear hit hit2 hg2 hs2 hg hox hnx hC2 hon ho hr hlt2
          go_upto_region 12 with (fail)
          clear hob2
          go_region_held3 (fun W => W.cell? ⟨c, 1, none⟩ = some (.map (some rb)) ∧ W.cell? ⟨w2.heap.size, 0, none⟩ = some (.int .i64 x1) ∧ W.cell? ⟨w2.heap.size, 1, none⟩ = some (.int .i64 x2)) (go_keep) ((go_at_call 79; refine (hcl.out _ hb0.out).mono ?_; rintro e W1 ⟨v1, rfl, ho1, hB1⟩; have hb1 := Aside0.mk (hb0.out.trans (hB1.mono hb0.out.size)); have hb2 : Aside0 (Below (w2.alloc ob2).heap.size (w2.alloc ob2) W1) := ⟨((Below.refl _ (w2.alloc ob2)).drew).trans hB1⟩; obtain ⟨w3, hrun, hc3, hS3⟩ := HS.out.step HX.out.2.2 HX.out.1 HX.out.2.1 hb1.out hb0.out.size ho1; obtain ⟨g0, g1, g2⟩ := hfar.out _ hb2.out; obtain ⟨g3, g4, g5⟩ := hfar2.out _ _ hb2.out hc3; simp only [kvW] at hrun; replace hS3 := Aside0.mk hS3; clear ho1 hB1 hc3))
          go_wp2
          go_roundg left2
          case measure => have := hlt3.out; omega
          case rel => exact ⟨done ++ [(x1, x2)], left2, _, Nat.le_refl _, by assumption⟩
end Go.Proofs.Ytljahhgankcalaa

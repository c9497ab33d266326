import Derived.Test.YtljahhgankcalaaGC
import Derived.Test.YtljahhgankcalaaHtbM
import Derived.Test.YtljahhgankcalaaHrwM
import Derived.BigRegion
import Derived.Deep.CutBlock
import Derived.Deep.RegionHeld3
import Derived.Test.YtljahhgankcalaaHtpM
/-! told: what a heap holds, as a list: a plain word; it is one list alone. -/
namespace Go.Proofs.Ytljahhgankcalaa
open Go.RowKit Go.Maps Go.MapKept Go.WideMaps Go.Shelf
open Go.Proofs.YtljahhgankcalaaW.PrintWords Go.Proofs.YtljahhgankcalaaW.PrintLast Go.Proofs.YtljahhgankcalaaW.PrintMore
open PHeapThere
set_option linter.unusedVariables false
set_option linter.unusedSimpArgs false

structure PL where
  f0 : Int
  f1 : ATup
def kPl : Kd PL := Kd.iso (Kd.pair (Kd.int .i64) kTup) (fun p : PL => (p.f0, p.f1))
def plCells (x : PL) (v6 : Value) : List Value := [.int .i64 x.f0, .int .i64 x.f1.f0, .int .i64 x.f1.f1, .int .i64 x.f1.f2, .int .i64 x.f1.f3, .int .i64 x.f1.f4, .int .i64 x.f1.f5, v6]
theorem kPl_mkM (w : World) (base : Nat) (ok : Nat → Prop) (x : PL) {v6 : Value} (g6 : Kd.R kVal 91 w base ok v6 x.f1.f6) : kPl.M w base ok x (plCells x v6) :=
  ⟨[.int .i64 x.f0], [.int .i64 x.f1.f0, .int .i64 x.f1.f1, .int .i64 x.f1.f2, .int .i64 x.f1.f3, .int .i64 x.f1.f4, .int .i64 x.f1.f5, v6], rfl, rfl, k32_mkM w base ok x.f1 g6⟩
theorem kPl_openM {w : World} {base : Nat} {ok : Nat → Prop} {x : PL} {cs : List Value} (h : kPl.M w base ok x cs) : ∃ v6, cs = plCells x v6 ∧ Kd.R kVal 91 w base ok v6 x.f1.f6 := by
  obtain ⟨_, _, rfl, rfl, ⟨_, _, rfl, rfl, ⟨_, _, rfl, rfl, ⟨_, _, rfl, rfl, ⟨_, _, rfl, rfl, ⟨_, _, rfl, rfl, ⟨_, _, rfl, rfl, v6, rfl, h6⟩⟩⟩⟩⟩⟩⟩ := h
  exact ⟨v6, rfl, h6⟩
theorem Try.infoPl : (Try.prog.info? 38).map (fun i => (i.zero, i.size, i.bytes)) = some (some (.agg #[.int .i64 0, .int .i64 0, .int .i64 0, .int .i64 0, .int .i64 0, .int .i64 0, .int .i64 0, .slice none 0 0]), 8, 80) := by kernel_rfl

theorem rise_ext : ∀ (l l' : List Int), l.Pairwise (· < ·) → l'.Pairwise (· < ·) → (∀ x, x ∈ l ↔ x ∈ l') → l = l'
  | [], [], _, _, _ => rfl
  | [], b :: l', _, _, h => absurd ((h b).2 (by simp)) (by simp)
  | a :: l, [], _, _, h => absurd ((h a).1 (by simp)) (by simp)
  | a :: l, b :: l', h1, h2, h => by
    rw [List.pairwise_cons] at h1 h2
    have e : a = b := by
      have ha := (h a).1 (by simp)
      have hb := (h b).2 (by simp)
      rcases List.mem_cons.1 ha with e | ha
      · exact e
      · rcases List.mem_cons.1 hb with e | hb
        · exact e.symm
        · have := h2.1 a ha
          have := h1.1 b hb
          omega
    subst e
    congr 1
    refine rise_ext l l' h1.2 h2.2 (fun x => ⟨fun hx => ?_, fun hx => ?_⟩)
    · rcases List.mem_cons.1 ((h x).1 (by simp [hx])) with e | hx'
      · subst e
        exact absurd (h1.1 x hx) (by omega)
      · exact hx'
    · rcases List.mem_cons.1 ((h x).2 (by simp [hx])) with e | hx'
      · subst e
        exact absurd (h2.1 x hx) (by omega)
      · exact hx'
theorem AH.IsTabs.one {A : AH} {l l' : List Int} (h : A.IsTabs l) (h' : A.IsTabs l') : l = l' := rise_ext l l' h.1 h'.1 (fun x => (h.2 x).trans (h'.2 x).symm)
theorem AH.IsIDs.one {A : AH} {no : Int} {l l' : List Int} (h : A.IsIDs no l) (h' : A.IsIDs no l') : l = l' := rise_ext l l' h.1 h'.1 (fun x => (h.2 x).trans (h'.2 x).symm)
def AH.places (A : AH) (t id : Int) : List PL := (A.rows (t, id)).map (fun s => ⟨s, A.atE s⟩)
/-- What Next tells of the tables 1 to n, one behind the other. -/
def AH.nexts (A : AH) : Nat → List PL × AH
  | 0 => ([], A)
  | n + 1 => ((A.nexts n).1 ++ [⟨((A.nexts n).2.next (n + 1 : Int)).1, zTup⟩], ((A.nexts n).2.next (n + 1 : Int)).2)
/-- The places of the tables l. -/
def AH.PlacesOf (A : AH) (l : List Int) (L : List PL) : Prop := ∃ Is : Int → List Int, (∀ t ∈ l, A.IsIDs t (Is t)) ∧ L = l.flatMap (fun t => (Is t).flatMap (A.places t))
def AH.IsTold (A : AH) (L : List PL) : Prop := ∃ T L0, A.IsTabs T ∧ A.PlacesOf T L0 ∧ L = L0 ++ (A.nexts 4).1
theorem flatMap_congr {α β : Type} {f g : α → List β} : ∀ {l : List α}, (∀ x ∈ l, f x = g x) → l.flatMap f = l.flatMap g
  | [], _ => rfl
  | a :: l, h => by rw [List.flatMap_cons, List.flatMap_cons, h a (by simp), flatMap_congr (fun x hx => h x (by simp [hx]))]
theorem AH.IsTold.one {A : AH} {L L' : List PL} (h : A.IsTold L) (h' : A.IsTold L') : L = L' := by
  obtain ⟨T, L0, h1, ⟨Is, h2, h3⟩, h4⟩ := h
  obtain ⟨T', L0', h1', ⟨Is', h2', h3'⟩, h4'⟩ := h'
  obtain rfl := h1.one h1'
  rw [h4, h4', h3, h3']
  congr 1
  exact flatMap_congr (fun t ht => by rw [(h2 t ht).one (h2' t ht)])
theorem AH.PlacesOf.nil (A : AH) : A.PlacesOf [] [] := ⟨fun _ => [], fun _ h => by simp at h, rfl⟩
theorem AH.PlacesOf.more {A : AH} {l : List Int} {L : List PL} (h : A.PlacesOf l L) {t : Int} {I : List Int} (hI : A.IsIDs t I) : A.PlacesOf (l ++ [t]) (L ++ I.flatMap (A.places t)) := by
  obtain ⟨Is, h1, h2⟩ := h
  by_cases hm : t ∈ l
  · refine ⟨Is, fun x hx => ?_, ?_⟩
    · rcases List.mem_append.1 hx with hx | hx
      · exact h1 x hx
      · rw [List.mem_singleton.1 hx]; exact h1 t hm
    · rw [List.flatMap_append, ← h2, List.flatMap_cons, List.flatMap_nil, List.append_nil, (h1 t hm).one hI]
  · refine ⟨fun x => if x = t then I else Is x, fun x hx => ?_, ?_⟩
    · by_cases e : x = t
      · simp only [if_pos e]; rw [e]; exact hI
      · simp only [if_neg e]
        rcases List.mem_append.1 hx with hx | hx
        · exact h1 x hx
        · exact absurd (List.mem_singleton.1 hx) e
    · rw [List.flatMap_append, List.flatMap_cons, List.flatMap_nil, List.append_nil]
      show L ++ _ = _ ++ List.flatMap (A.places t) (if t = t then I else Is t)
      rw [if_pos rfl, h2]
      congr 1
      exact flatMap_congr (fun x hx => by
        show _ = List.flatMap (A.places x) (if x = t then I else Is x)
        rw [if_neg (fun e => hm (by rw [← e]; exact hx))])
theorem AH.nexts_len (A : AH) : ∀ n, (A.nexts n).1.length = n
  | 0 => rfl
  | n + 1 => by simp [AH.nexts, A.nexts_len n]
theorem AH.Ok.nexts {A : AH} (hA : A.Ok) : ∀ n, (A.nexts n).2.Ok
  | 0 => hA
  | n + 1 => by rw [AH.nexts]; exact (hA.nexts n).next _
/-- How many places a heap has. -/
theorem AH.PlacesOf.rows {A : AH} {l : List Int} {L : List PL} (h : A.PlacesOf l L) (hl : l.Pairwise (· < ·)) : ∃ vp : List (Int × Int), vp.Nodup ∧ (∀ p, p ∈ vp → p.1 ∈ l) ∧ L = vp.flatMap (fun p => A.places p.1 p.2) := by
  obtain ⟨Is, h1, h2⟩ := h
  refine ⟨l.flatMap (fun t => (Is t).map (fun id => (t, id))), ?_, fun p hp => ?_, ?_⟩
  · clear h2
    induction l with
    | nil => simp
    | cons a l ih =>
      rw [List.pairwise_cons] at hl
      rw [List.flatMap_cons, List.nodup_append]
      refine ⟨?_, ih hl.2 (fun t ht => h1 t (by simp [ht])), fun x hx y hy e => ?_⟩
      · have := (h1 a (by simp)).1
        exact (List.Pairwise.map _ (fun x y hxy e => by injection e with _ e2; omega) this)
      · obtain ⟨i, _, rfl⟩ := List.mem_map.1 hx
        obtain ⟨t, ht, hy⟩ := List.mem_flatMap.1 hy
        obtain ⟨j, _, rfl⟩ := List.mem_map.1 hy
        injection e with e1 _
        have := hl.1 t ht
        omega
  · obtain ⟨t, ht, hp⟩ := List.mem_flatMap.1 hp
    obtain ⟨j, _, rfl⟩ := List.mem_map.1 hp
    exact ht
  · rw [h2, List.flatMap_assoc]
    exact flatMap_congr (fun t ht => by rw [List.flatMap_map])
theorem AH.PlacesOf.len {A : AH} (hA : A.Ok) {l : List Int} {L : List PL} (h : A.PlacesOf l L) (hl : l.Pairwise (· < ·)) : L.length ≤ A.slots.length := by
  obtain ⟨vp, h1, _, h3⟩ := h.rows hl
  have h4 := A.flat_le hA h1
  have h5 : L.length = (A.flat vp).length := by
    rw [h3]
    unfold AH.flat AH.places
    rw [List.length_flatMap, List.length_flatMap]
    congr 1
    exact List.map_congr_left (fun p _ => by simp)
  omega
theorem len_le_flat (A : AH) : ∀ {vp : List (Int × Int)}, (∀ p ∈ vp, A.rows p ≠ []) → vp.length ≤ (A.flat vp).length
  | [], _ => by simp
  | p :: vp, h => by
    have h1 := len_le_flat A (vp := vp) (fun q hq => h q (by simp [hq]))
    have h2 := List.length_pos_iff.2 (h p (by simp))
    unfold AH.flat at h1 ⊢
    rw [List.flatMap_cons, List.length_append, List.length_cons]
    omega
theorem AH.IsIDs.len {A : AH} (hA : A.Ok) {no : Int} {l : List Int} (h : A.IsIDs no l) : l.length ≤ A.slots.length := by
  have hn : (l.map (fun id => (no, id))).Nodup := List.Pairwise.map _ (fun x y hxy e => by injection e with _ e2; omega) h.1
  have h1 := A.flat_le hA hn
  have h2 := len_le_flat A (vp := l.map (fun id => (no, id))) (fun p hp => by
    obtain ⟨i, hi, rfl⟩ := List.mem_map.1 hp
    exact (h.2 i).1 hi)
  rw [List.length_map] at h2
  omega
theorem AH.IsTabs.len {A : AH} (hA : A.Ok) {l : List Int} (h : A.IsTabs l) : l.length ≤ A.slots.length := by
  have hc : ∀ t : Int, ∃ i : Int, t ∈ l → A.rows (t, i) ≠ [] := fun t => by
    by_cases ht : t ∈ l
    · obtain ⟨i, hi⟩ := (h.2 t).1 ht
      exact ⟨i, fun _ => hi⟩
    · exact ⟨0, fun e => absurd e ht⟩
  obtain ⟨f, hf⟩ := Classical.axiomOfChoice hc
  have hn : (l.map (fun t => (t, f t))).Nodup := List.Pairwise.map _ (fun x y hxy e => by injection e with e1 _; omega) h.1
  have h1 := A.flat_le hA hn
  have h2 := len_le_flat A (vp := l.map (fun t => (t, f t))) (fun p hp => by
    obtain ⟨t, ht, rfl⟩ := List.mem_map.1 hp
    exact hf t ht)
  rw [List.length_map] at h2
  omega
theorem AH.places_len (A : AH) (t id : Int) : (A.places t id).length = (A.rows (t, id)).length := by simp [AH.places]
end Go.Proofs.Ytljahhgankcalaa

/-! told: the walk. Printed by gence.py. -/
namespace Go.Proofs.Ytljahhgankcalaa
open Go.RowKit Go.Maps Go.MapKept Go.WideMaps Go.Shelf
open Go.Proofs.YtljahhgankcalaaW.PrintWords Go.Proofs.YtljahhgankcalaaW.PrintLast Go.Proofs.YtljahhgankcalaaW.PrintMore
open PHeapThere
set_option linter.unusedVariables false
set_option linter.unusedSimpArgs false

/-- The block n of a piece of code. -/
def pcBlk (n : Nat) : Code → Option Code
  | .block m c => if m = n then some (.block m c) else pcBlk n c
  | .seq a b => match pcBlk n a with
    | some c => some c
    | none => pcBlk n b
  | .cond _ a b => match pcBlk n a with
    | some c => some c
    | none => pcBlk n b
  | .loop c => pcBlk n c
  | .scope c => pcBlk n c
  | _ => none
noncomputable def tblk (n : Nat) : Code := ((Try.f55.body.bind (pcBlk n)).getD .skip)
/-- What a piece of code comes to. -/
def Pc (c : Code) (R : Act → World → Prop) (a : Act) (w : World) : Prop :=
  ∀ (J K' : Act → World → Prop), (∀ a' w', R a' w' → J a' w') → (∀ a' w', Met J a' w' → K' a' w') → c.wp Try.prog (Exit.then K' (fun _ _ _ => False)) a w
theorem Pc.use {c : Code} {R : Act → World → Prop} {a : Act} {w : World} {Q : Exit → Act → World → Prop} (h : Pc c R a w) (rest : ∀ a' w', R a' w' → Q .normal a' w') : c.wp Try.prog Q a w := by
  refine wp_mono (h R R (fun _ _ q => q) (fun _ _ q => q)) ?_
  intro e a' w' hq
  cases e with
  | normal => exact rest _ _ hq
  | exit id => exact hq.elim
  | goto l => exact hq.elim
  | ret => exact hq.elim
  | panic ch => exact hq.elim
  | outgrown => exact hq.elim
theorem arr_tabC {a : Array Value} {n : Nat} (h : a.size = n) : a = ((List.range n).map (fun i => a.getD i undef)).toArray := by
  apply Array.ext
  · simp [h]
  · intro i h1 h2
    simp [h1]
set_option maxRecDepth 100000 in
theorem tab_lit82 (u : Nat → Value) : ((List.range 82).map u).toArray = #[u 0, u 1, u 2, u 3, u 4, u 5, u 6, u 7, u 8, u 9, u 10, u 11, u 12, u 13, u 14, u 15, u 16, u 17, u 18, u 19, u 20, u 21, u 22, u 23, u 24, u 25, u 26, u 27, u 28, u 29, u 30, u 31, u 32, u 33, u 34, u 35, u 36, u 37, u 38, u 39, u 40, u 41, u 42, u 43, u 44, u 45, u 46, u 47, u 48, u 49, u 50, u 51, u 52, u 53, u 54, u 55, u 56, u 57, u 58, u 59, u 60, u 61, u 62, u 63, u 64, u 65, u 66, u 67, u 68, u 69, u 70, u 71, u 72, u 73, u 74, u 75, u 76, u 77, u 78, u 79, u 80, u 81] := by kernel_rfl
structure FrT (a : Act) (h : Nat) (ov v4 v5 v6 v7 v8 : Value) : Prop where
  size : a.tmps.size = 82
  defers : a.defers = []
  e0 : a.tmps.getD 0 undef = .pointer (some ⟨h, 0, none⟩)
  e3 : a.tmps.getD 3 undef = ov
  e4 : a.tmps.getD 4 undef = v4
  e5 : a.tmps.getD 5 undef = v5
  e6 : a.tmps.getD 6 undef = v6
  e7 : a.tmps.getD 7 undef = v7
  e8 : a.tmps.getD 8 undef = v8
set_option maxRecDepth 100000 in
set_option maxHeartbeats 4000000 in
theorem FrT.open {a : Act} {h : Nat} {ov v4 v5 v6 v7 v8 : Value} (H : FrT a h ov v4 v5 v6 v7 v8) : ∃ u : Nat → Value, (∀ i, u i = a.tmps.getD i undef) ∧ a = { tmps := #[.pointer (some ⟨h, 0, none⟩), u 1, u 2, ov, v4, v5, v6, v7, v8, u 9, u 10, u 11, u 12, u 13, u 14, u 15, u 16, u 17, u 18, u 19, u 20, u 21, u 22, u 23, u 24, u 25, u 26, u 27, u 28, u 29, u 30, u 31, u 32, u 33, u 34, u 35, u 36, u 37, u 38, u 39, u 40, u 41, u 42, u 43, u 44, u 45, u 46, u 47, u 48, u 49, u 50, u 51, u 52, u 53, u 54, u 55, u 56, u 57, u 58, u 59, u 60, u 61, u 62, u 63, u 64, u 65, u 66, u 67, u 68, u 69, u 70, u 71, u 72, u 73, u 74, u 75, u 76, u 77, u 78, u 79, u 80, u 81], defers := [] } := by
  obtain ⟨tmps, defers⟩ := a
  obtain ⟨hs, hd, e0, e3, e4, e5, e6, e7, e8⟩ := H
  have h1 := (arr_tabC hs).trans (tab_lit82 _)
  obtain ⟨u, hu⟩ : ∃ u : Nat → Value, (fun i => tmps.getD i undef) = u := ⟨_, rfl⟩
  have hu' : ∀ i, u i = tmps.getD i undef := fun i => by rw [← hu]
  refine ⟨u, hu', ?_⟩
  dsimp only at hd h1 e0 e3 e4 e5 e6 e7 e8
  simp only [← hu'] at h1 e0 e3 e4 e5 e6 e7 e8
  simp only [e0, e3, e4, e5, e6, e7, e8] at h1
  rw [hd, h1]

structure TldSt (w w1 wr : World) (h : Nat) (A : AH) (F : Nat → Prop) (k base : Nat) (ov : Value) (L : List PL) : Prop where
  inv : Inv w wr h A F k
  out : Kd.R kPl 38 wr 0 (fun b => base ≤ b) ov L
  foot : ∀ b, F b → b < base
  low : w.heap.size ≤ base
  size : base ≤ wr.heap.size
  keep : Below base w1 wr
/-- Rows of numbers, behind base. -/
def IntRows (wr : World) (base : Nat) (l : List (Value × List Int)) : Prop := ∀ p ∈ l, Kd.R kInt 3 wr 0 (fun b => base ≤ b) p.1 p.2
section
variable {w w1 wr w' : World} {h : Nat} {A : AH} {F : Nat → Prop} {k base : Nat} {ov v1 : Value} {L L' : List PL} {l : List (Value × List Int)}
theorem TldSt.below (H : TldSt w w1 wr h A F k base ov L) (hB : Below wr.heap.size wr w') : TldSt w w1 w' h A F k base ov L := ⟨H.inv.below hB, Kd.R_below H.out hB, H.foot, H.low, Nat.le_trans H.size hB.size, H.keep.trans (hB.mono H.size)⟩
theorem IntRows.below (H : IntRows wr base l) (hB : Below wr.heap.size wr w') : IntRows w' base l := fun p hp => Kd.R_below (H p hp) hB
theorem TldSt.own (H : TldSt w w1 wr h A F k base ov L) {b : Nat} (hb : ov.ownBlock = some b) : base ≤ b ∧ ∃ cells, wr.heap[b]? = some (.cells cells 38 (0, 0)) := by
  obtain ⟨h0, cells, h1⟩ := R_block H.out hb
  exact ⟨h0, cells, h1⟩
theorem TldSt.push (H : TldSt w w1 wr h A F k base ov L) (ho : Kd.R kPl 38 w' 0 (fun b => base ≤ b) v1 L') (hg : wr.grownBy w' ov.ownBlock) : TldSt w w1 w' h A F k base v1 L' :=
  ⟨H.inv.other (Chg.of_grown hg) (fun b hb e => by have := H.foot b hb; have := (H.own e.symm).1; omega) (fun b hb => by have := (H.own hb.symm).1; have := H.low; omega), ho, H.foot, H.low, Nat.le_trans H.size (Chg.of_grown hg).size, H.keep.grown hg H.size (fun b hb => (H.own hb).1)⟩
theorem IntRows.grown (H : IntRows wr base l) (HT : TldSt w w1 wr h A F k base ov L) (hg : wr.grownBy w' ov.ownBlock) : IntRows w' base l := fun p hp => by
  refine Kd.R_mono (Kd.R_move (Kd.R_bound (H p hp)) (fun k hk => (Chg.of_grown hg).block k hk.2.2.1 (fun e => ?_))) (fun k hk => hk.1)
  obtain ⟨_, _, _, q, hq, cells, hkk⟩ := hk
  rw [E_int, List.mem_singleton] at hq
  subst hq
  obtain ⟨_, cs, h5⟩ := HT.own e.symm
  rw [hkk] at h5
  cases h5
theorem IntRows.cell (H : IntRows wr base l) {v : Value} {xs : List Int} (hm : (v, xs) ∈ l) {i : Nat} (hi : i < xs.length) : ∃ g cap, v = .slice (some ⟨g, 0, none⟩) xs.length cap ∧ xs.length ≤ cap ∧ cap ≤ maxLen ∧ wr.cell? ⟨g, i, none⟩ = some (.int .i64 xs[i]) := by
  obtain ⟨g, cap, h1, h2, h3, h4, _⟩ := int_cells (H _ hm) hi
  exact ⟨g, cap, h1, h2, h3, h4⟩
end
section
variable {w w1 wr : World} {h : Nat} {A : AH} {F : Nat → Prop} {k base : Nat} {ov v4 v5 v6 v7 v8 : Value} {L : List PL} {T I Sl : List Int} {a : Act}
set_option maxRecDepth 100000 in
set_option maxHeartbeats 4000000 in
/-- The slots of a row. -/
theorem told_slots (hk : k ≤ 1000) (HF : FrT a h ov v4 v5 v6 v7 v8) (e9 : a.tmps.getD 9 undef = .int .i64 0) (HS : TldSt w w1 wr h A F k base ov L) (HR : IntRows wr base [(v4, T), (v6, I), (v8, Sl)]) (hL : L.length ≤ 1100000000) (hSl : Sl.length ≤ 1000) :
    Pc (tblk 4) (fun a' w' => ∃ ov', FrT a' h ov' v4 v5 v6 v7 v8 ∧ TldSt w w1 w' h A F k base ov' (L ++ Sl.map (fun s => ⟨s, A.atE s⟩)) ∧ IntRows w' base [(v4, T), (v6, I), (v8, Sl)]) a wr := by
  intro J K' hJ hK
  obtain ⟨u, hu, ha⟩ := HF.open
  have u9 := (hu 9).trans e9
  subst ha
  rw [u9]
  clear hu HF e9 u9
  conv => arg 2; whnf
  go_wp2
  refine wp_loop_ghost_k (fun m a' w' => ∃ n ov, m + n = Sl.length ∧ FrT a' h ov v4 v5 v6 v7 v8 ∧ a'.tmps.getD 9 undef = .int .i64 n ∧ TldSt w w1 w' h A F k base ov (L ++ (Sl.take n).map (fun s => ⟨s, A.atE s⟩)) ∧ IntRows w' base [(v4, T), (v6, I), (v8, Sl)]) Sl.length ⟨0, ov, by omega, ⟨rfl, rfl, rfl, rfl, rfl, rfl, rfl, rfl, rfl⟩, rfl, by simpa using HS, HR⟩ ?_
  clear HS HR
  rintro gk a' wr ⟨n, ov, hn, HF, e9, HS, HR⟩
  obtain ⟨u, hu, ha⟩ := HF.open
  have u9 := (hu 9).trans e9
  subst ha
  rw [u9]
  clear hu HF e9 u9
  intro J2 K2 hJ2 hK2
  replace hn := Aside0.mk hn
  by_cases hlt : n < Sl.length
  · have d1 : decide (n < Sl.length) = true := decide_eq_true hlt
    have d2 : decide ((n : Int) < (Sl.length : Int)) = true := decide_eq_true (by omega)
    have i1 : (0 : Int) ≤ (n : Int) := by omega
    have i2 : (n : Int) < (Sl.length : Int) := by omega
    obtain ⟨g, cap, hv8, hcap, hmax, y0⟩ := HR.cell (v := v8) (xs := Sl) (by simp) hlt
    have i3 : (Sl.length : Int) ≤ (cap : Int) := by omega
    have i4 : (Sl.length : Int) ≤ 1000 := by omega
    obtain ⟨oa, oc, hov⟩ := Kd.R_slice HS.out
    have hol : (L ++ (Sl.take n).map (fun s => (⟨s, A.atE s⟩ : PL))).length = L.length + n := by simp; omega
    rw [hol] at hov
    have HT : Aside0 (Sl.take (n + 1) = Sl.take n ++ [Sl[n]]) := ⟨List.take_succ_eq_append_getElem hlt⟩
    generalize Sl[n] = s at y0 HT
    have hat := at_calls h s A F wr HS.inv.is (by
      have h1 := HS.inv.lim s.toNat
      have h2 : A.at s = A.slots.getD s.toNat zTup := rfl
      rw [h2]; omega)
    have hbd := HS.inv.is.bound
    subst hov
    subst hv8
    have HLN := Aside0.mk (And.intro hlt (And.intro hL hSl))
    replace HS := Aside0.mk HS
    replace HR := Aside0.mk HR
    clear hlt hL hSl hbd hcap hmax hol
    go_wp2_with fail
    refine hat.mono ?_
    clear hat
    rintro e w7 ⟨v, rfl, hv, hB⟩
    obtain ⟨va, vc, ev⟩ := Kd.R_slice hv
    subst ev
    obtain ⟨t, ht⟩ : ∃ t, A.atE s = t := ⟨_, rfl⟩
    rw [ht] at hv ⊢
    replace ht := Aside0.mk ht
    obtain ⟨ob, hob⟩ : ∃ ob, Obj.cells #[.int .i64 t.f0, .int .i64 t.f1, .int .i64 t.f2, .int .i64 t.f3, .int .i64 t.f4, .int .i64 t.f5, .slice va t.f6.length vc] 39 (0, 0) = ob := ⟨_, rfl⟩
    have hBa : Below wr.heap.size wr (w7.alloc ob) := hB.trans (((Below.refl _ w7).alloc (Nat.le_refl _) ob).mono hB.size)
    have hn7 := heap_alloc_new w7 ob
    have hs7 : w7.heap.size < (w7.alloc ob).heap.size := by simp
    have hvA := Kd.R_below hv ((Below.refl _ w7).alloc (Nat.le_refl _) ob)
    obtain ⟨w8, hw8⟩ : ∃ w8, w7.alloc ob = w8 := ⟨_, rfl⟩
    rw [hw8] at hBa hn7 hs7 hvA
    have hS7 := HS.out.below hBa
    have hR7 := HR.out.below hBa
    have hfar : ∀ W : World, IntRows W base [(v4, T), (v6, I), (.slice (some ⟨g, 0, none⟩) Sl.length cap, Sl)] → W.heap[w7.heap.size]? = some ob → (W.cell? ⟨g, n, none⟩ = some (.int .i64 s) ∧ W.cell? ⟨w7.heap.size, 0, none⟩ = some (.int .i64 t.f0) ∧ W.cell? ⟨w7.heap.size, 1, none⟩ = some (.int .i64 t.f1) ∧ W.cell? ⟨w7.heap.size, 2, none⟩ = some (.int .i64 t.f2) ∧ W.cell? ⟨w7.heap.size, 3, none⟩ = some (.int .i64 t.f3) ∧ W.cell? ⟨w7.heap.size, 4, none⟩ = some (.int .i64 t.f4) ∧ W.cell? ⟨w7.heap.size, 5, none⟩ = some (.int .i64 t.f5) ∧ W.cell? ⟨w7.heap.size, 6, none⟩ = some (.slice va t.f6.length vc)) := fun W h1 h2 => by
      obtain ⟨g', cap', e1, _, _, h3⟩ := h1.cell (v := .slice (some ⟨g, 0, none⟩) Sl.length cap) (xs := Sl) (by simp) HLN.out.1
      cases e1
      have h4 := HT.out
      rw [List.take_succ_eq_append_getElem HLN.out.1] at h4
      have h5 := List.append_cancel_left h4
      injection h5 with h5 _
      rw [h5] at h3
      rw [← hob] at h2
      exact ⟨h3, blk_cell h2 0, blk_cell h2 1, blk_cell h2 2, blk_cell h2 3, blk_cell h2 4, blk_cell h2 5, blk_cell h2 6⟩
    have hgrow : ∀ w5 : World, w8.drew.grownBy w5 (Value.slice oa (L.length + n) oc).ownBlock → (w5.cell? ⟨g, n, none⟩ = some (.int .i64 s) ∧ w5.cell? ⟨w7.heap.size, 0, none⟩ = some (.int .i64 t.f0) ∧ w5.cell? ⟨w7.heap.size, 1, none⟩ = some (.int .i64 t.f1) ∧ w5.cell? ⟨w7.heap.size, 2, none⟩ = some (.int .i64 t.f2) ∧ w5.cell? ⟨w7.heap.size, 3, none⟩ = some (.int .i64 t.f3) ∧ w5.cell? ⟨w7.heap.size, 4, none⟩ = some (.int .i64 t.f4) ∧ w5.cell? ⟨w7.heap.size, 5, none⟩ = some (.int .i64 t.f5) ∧ w5.cell? ⟨w7.heap.size, 6, none⟩ = some (.slice va t.f6.length vc)) := fun w5 hg => by
      refine hfar w5 ((show IntRows w8.drew base _ from hR7.below (Below.refl _ w8).drew).grown (hS7.below (Below.refl _ w8).drew) hg) (((Chg.of_grown hg).block w7.heap.size hs7 (fun e => ?_)).trans hn7)
      obtain ⟨_, cs, h3⟩ := HS.out.own e.symm
      have := blk_lt h3
      have := hB.size
      omega
    obtain ⟨f0, f1, f2, f3, f4, f5, f6, f7⟩ := hfar _ hR7 hn7
    have hln : ((L ++ (Sl.take n).map (fun s => (⟨s, A.atE s⟩ : PL))).length + 1) * 80 ≤ 140737488355328 := by
      have := HLN.out
      simp
      omega
    have hg6 : Kd.R kVal 91 w8.drew 0 (fun b => wr.heap.size ≤ b) (.slice va t.f6.length vc) t.f6 := Kd.R_lower (Kd.R_mono (Kd.R_bound (Kd.R_below hvA (Below.refl _ w8).drew)) (fun b hb => hb.2.1)) (Nat.zero_le _)
    have hS := Aside0.mk (And.intro hS7 (And.intro hR7 (And.intro hln (And.intro hg6 hgrow))))
    clear hS7 hR7 hfar hgrow hln hg6 hv hB hBa y0 hn7 hs7 hvA
    go_upto_region 15 with (fail)
    clear hob hw8
    go_region_held3 (fun W => (W.cell? ⟨g, n, none⟩ = some (.int .i64 s) ∧ W.cell? ⟨w7.heap.size, 0, none⟩ = some (.int .i64 t.f0) ∧ W.cell? ⟨w7.heap.size, 1, none⟩ = some (.int .i64 t.f1) ∧ W.cell? ⟨w7.heap.size, 2, none⟩ = some (.int .i64 t.f2) ∧ W.cell? ⟨w7.heap.size, 3, none⟩ = some (.int .i64 t.f3) ∧ W.cell? ⟨w7.heap.size, 4, none⟩ = some (.int .i64 t.f4) ∧ W.cell? ⟨w7.heap.size, 5, none⟩ = some (.int .i64 t.f5) ∧ W.cell? ⟨w7.heap.size, 6, none⟩ = some (.slice va t.f6.length vc))) (go_keep) ((refine Kd.R_append_step kPl (w0 := w8.drew) (W := w8.drew) 0 (by rfl) (.tmp 59) (.tmp 66) 36 38 (.agg #[.int .i64 0, .int .i64 0, .int .i64 0, .int .i64 0, .int .i64 0, .int .i64 0, .int .i64 0, .slice none 0 0]) 80 (by rfl) Try.underlying36 Try.infoPl rfl (by decide) (by omega) (.slice oa (L.length + n) oc) (L ++ (Sl.take n).map (fun s => (⟨s, A.atE s⟩ : PL))) ⟨s, t⟩ (plCells ⟨s, t⟩ (.slice va t.f6.length vc)) (fun b => base ≤ b) (fun b => wr.heap.size ≤ b) (by rfl) (by rfl) (kPl_mkM _ 0 _ ⟨s, t⟩ hS.out.2.2.2.1) (fun b hb => ⟨Nat.le_trans HS.out.size hb, fun e => (by obtain ⟨_, cs, h3⟩ := HS.out.own e.symm; have := blk_lt h3; omega)⟩) (fun b hb => Nat.le_trans hS.out.1.size hb) (Kd.R_below hS.out.1.out (Below.refl _ w8).drew) (Below.refl 0 _) (Nat.zero_le _) hS.out.2.2.1 ?_; intro v2 w5 ho5 hb5 hg5 hat5; clear hb5 hat5; obtain ⟨g8, g9, g10, g11, g12, g13, g14, g15⟩ := hS.out.2.2.2.2 w5 hg5; replace ho5 := Aside0.mk ho5; replace hg5 := Aside0.mk hg5))
    have hS5 := (hS.out.1.below (Below.refl _ w8).drew).push ho5.out hg5.out
    have hR5 := (show IntRows w8.drew base _ from hS.out.2.1.below (Below.refl _ w8).drew).grown (hS.out.1.below (Below.refl _ w8).drew) hg5.out
    have hL5 : L ++ (Sl.take (n + 1)).map (fun s => (⟨s, A.atE s⟩ : PL)) = (L ++ (Sl.take n).map (fun s => (⟨s, A.atE s⟩ : PL))) ++ [⟨s, t⟩] := by rw [HT.out, List.map_append, ← List.append_assoc, ← ht.out]; rfl
    rw [← hL5] at hS5
    replace hS5 := Aside0.mk hS5
    replace hR5 := Aside0.mk hR5
    clear hL5 g8 g9 g10 g11 g12 g13 g14 g15 f0 f1 f2 f3 f4 f5 f6 f7 hS
    go_wp2
    exact Handed.intro (gk - 1) (by have := hn.out; have := HLN.out.1; omega) (hJ2 _ _ _ ⟨n + 1, _, by have := hn.out; have := HLN.out.1; omega, ⟨rfl, rfl, rfl, rfl, rfl, rfl, rfl, rfl, rfl⟩, congrArg (Value.int .i64) (by omega), hS5.out, hR5.out⟩)
  · have d1 : decide (n < Sl.length) = false := decide_eq_false hlt
    have d2 : decide ((n : Int) < (Sl.length : Int)) = false := decide_eq_false (by omega)
    obtain ⟨sa, sc, hv8⟩ := Kd.R_slice (HR (v8, Sl) (by simp))
    have hv8' : v8 = .slice sa Sl.length sc := hv8
    subst hv8'
    replace HS := Aside0.mk HS
    replace HR := Aside0.mk HR
    replace hlt := Aside0.mk hlt
    clear hv8
    go_wp2
    obtain rfl : n = Sl.length := by have := hn.out; have := hlt.out; omega
    have h1 := HS.out
    rw [List.take_length] at h1
    exact Met.intro (hJ _ _ ⟨_, ⟨rfl, rfl, rfl, rfl, rfl, rfl, rfl, rfl, rfl⟩, h1, HR.out⟩)
set_option maxRecDepth 100000 in
set_option maxHeartbeats 4000000 in
/-- The rows of a table. -/
theorem told_ids (hk : k ≤ 1000) {i : Nat} {t : Int} (HF : FrT a h ov v4 v5 v6 v7 v8) (hv5 : v5 = .int .i64 i) (hv7 : v7 = .int .i64 0) (HS : TldSt w w1 wr h A F k base ov L) (HR : IntRows wr base [(v4, T), (v6, I)]) (hi : T[i]? = some t) (hI : A.IsIDs t I) (hL : L.length ≤ 1000000000) :
    Pc (tblk 2) (fun a' w' => ∃ ov' v7' v8', FrT a' h ov' v4 v5 v6 v7' v8' ∧ TldSt w w1 w' h A F k base ov' (L ++ I.flatMap (A.places t)) ∧ IntRows w' base [(v4, T), (v6, I)]) a wr := by
  subst hv5
  subst hv7
  obtain ⟨hil, hit⟩ := List.getElem?_eq_some_iff.1 hi
  intro J K' hJ hK
  obtain ⟨u, hu, ha⟩ := HF.open
  subst ha
  clear hu HF
  conv => arg 2; whnf
  go_wp2
  have hIl := hI.len HS.inv.ok
  have hsl := HS.inv.len
  refine wp_loop_ghost_k (fun m a' w' => ∃ j ov v8, m + j = I.length ∧ FrT a' h ov v4 (.int .i64 i) v6 (.int .i64 (j : Nat)) v8 ∧ TldSt w w1 w' h A F k base ov (L ++ (I.take j).flatMap (A.places t)) ∧ IntRows w' base [(v4, T), (v6, I)] ∧ ((I.take j).flatMap (A.places t)).length ≤ j * 1000) I.length ⟨0, ov, v8, by omega, ⟨rfl, rfl, rfl, rfl, rfl, rfl, rfl, rfl, rfl⟩, by simpa using HS, HR, by simp⟩ ?_
  clear HS HR
  rintro gk a' wr ⟨j, ov, v8, hn, HF, HS, HR, hlen⟩
  obtain ⟨u, hu, ha⟩ := HF.open
  subst ha
  clear hu HF
  intro J2 K2 hJ2 hK2
  replace hn := Aside0.mk hn
  by_cases hlt : j < I.length
  · have d1 : decide (j < I.length) = true := decide_eq_true hlt
    have d2 : decide ((j : Int) < (I.length : Int)) = true := decide_eq_true (by omega)
    have i1 : (0 : Int) ≤ (j : Int) := by omega
    have i2 : (j : Int) < (I.length : Int) := by omega
    have i5 : (0 : Int) ≤ (i : Int) := by omega
    have i6 : (i : Int) < (T.length : Int) := by omega
    obtain ⟨gT, cT, hv4, hcT, hmT, y0⟩ := HR.cell (v := v4) (xs := T) (by simp) hil
    rw [hit] at y0
    obtain ⟨gI, cI, hv6, hcI, hmI, y1⟩ := HR.cell (v := v6) (xs := I) (by simp) hlt
    have i3 : (T.length : Int) ≤ (cT : Int) := by omega
    have i4 : (I.length : Int) ≤ (cI : Int) := by omega
    unfold maxLen at hmT hmI
    have i7 : (T.length : Int) ≤ 9223372036854775807 := by omega
    have i8 : (I.length : Int) ≤ 1000 := by omega
    have HT : Aside0 (I.take (j + 1) = I.take j ++ [I[j]]) := ⟨List.take_succ_eq_append_getElem hlt⟩
    have hne : A.rows (t, I[j]) ≠ [] := (hI.2 _).1 (List.getElem_mem hlt)
    generalize I[j] = id at y1 HT hne
    have hrl := HS.inv.ok.rows_len (t, id)
    have hslt := HS.inv.slots (by omega) t id (HS.inv.is.okRow _ hne)
    have hsl2 : Aside0 (∀ W, Below wr.heap.size wr W → Calls Try.prog 37 #[.pointer (some ⟨h, 0, none⟩), .int .i64 t, .int .i64 id] W fun e w' => ∃ v, e = .returned v ∧ Kd.R kInt 3 w' W.heap.size (fun _ => True) v (A.rows (t, id)) ∧ Below W.heap.size W w') := ⟨fun W hb => (HS.inv.below hb).slots (by omega) t id (HS.inv.is.okRow _ hne)⟩
    subst hv4
    subst hv6
    have HLN := Aside0.mk (And.intro hlt (And.intro hlen (And.intro hL (And.intro hk (And.intro hi (And.intro hI (And.intro hIl (And.intro hsl hrl))))))))
    replace HS := Aside0.mk HS
    replace HR := Aside0.mk HR
    clear hlt hlen hL hk hi hit hil hI hcT hcI hmT hmI hne hIl hsl hrl hslt
    go_upto_region 10 with (fail)
    go_region_held3 (fun W => W.cell? ⟨gT, i, none⟩ = some (.int .i64 t) ∧ W.cell? ⟨gI, j, none⟩ = some (.int .i64 id)) (go_keep) ((go_at_call 37; refine (hsl2.out _ (Below.refl _ _).drew).mono ?_; rintro e w7 ⟨v, rfl, hv, hB⟩; have r0 := (hB.cell (p := ⟨gT, i, none⟩) (World.block_lt_of_cell? wr _ y0)).trans y0; have r1 := (hB.cell (p := ⟨gI, j, none⟩) (World.block_lt_of_cell? wr _ y1)).trans y1; replace hv := Aside0.mk hv; replace hB := Aside0.mk hB))
    have hB7 : Below wr.heap.size wr w7 := ((Below.refl _ wr).drew).trans hB.out
    have hS7 := HS.out.below hB7
    have hR7 : IntRows w7 base [((.slice (some ⟨gT, 0, none⟩) T.length cT), T), ((.slice (some ⟨gI, 0, none⟩) I.length cI), I), (v, A.rows (t, id))] := fun p hp => by
      have h1 := HR.out.below hB7
      rcases List.mem_cons.1 hp with e | hp
      · exact h1 p (by simp [e])
      · rcases List.mem_cons.1 hp with e | hp
        · exact h1 p (by simp [e])
        · rw [List.mem_singleton.1 hp]
          exact Kd.R_lower (Kd.R_mono (Kd.R_bound hv.out) (fun b hb => Nat.le_trans HS.out.size hb.2.1)) (Nat.zero_le _)
    replace hS7 := Aside0.mk hS7
    replace hR7 := Aside0.mk hR7
    clear hB7 y0 y1 r0 r1 hsl2
    go_upto_block 4 with (fail)
    refine Pc.use (c := tblk 4) (told_slots (I := I) (T := T) (Sl := A.rows (t, id)) (v4 := .slice (some ⟨gT, 0, none⟩) T.length cT) (v5 := .int .i64 i) (v6 := .slice (some ⟨gI, 0, none⟩) I.length cI) (v7 := .int .i64 j) (v8 := v) (ov := ov) HLN.out.2.2.2.1 ?f1 ?f2 hS7.out hR7.out ?f3 ?f4) ?rest
    case f1 => exact ⟨rfl, rfl, rfl, rfl, rfl, rfl, rfl, rfl, rfl⟩
    case f2 => rfl
    case f3 => have := HLN.out; rw [List.length_append]; omega
    case f4 => have := HLN.out; omega
    rintro a' wr' ⟨ov', HF, HS8, HR8⟩
    obtain ⟨u, hu, ha⟩ := HF.open
    subst ha
    clear hu HF
    have hpl : (A.rows (t, id)).map (fun s => (⟨s, A.atE s⟩ : PL)) = A.places t id := rfl
    have hL8 : L ++ (I.take (j + 1)).flatMap (A.places t) = (L ++ (I.take j).flatMap (A.places t)) ++ A.places t id := by rw [HT.out, List.flatMap_append, ← List.append_assoc]; simp
    rw [hpl, ← hL8] at HS8
    have hlen8 : ((I.take (j + 1)).flatMap (A.places t)).length ≤ (j + 1) * 1000 := by
      have := HLN.out
      have h2 := A.places_len t id
      rw [HT.out, List.flatMap_append, List.length_append]
      simp only [List.flatMap_cons, List.flatMap_nil, List.append_nil]
      omega
    have hR8 : IntRows wr' base [((.slice (some ⟨gT, 0, none⟩) T.length cT), T), ((.slice (some ⟨gI, 0, none⟩) I.length cI), I)] := fun p hp => HR8 p (by
      rcases List.mem_cons.1 hp with e | hp
      · simp [e]
      · rw [List.mem_singleton.1 hp]; simp)
    replace HS8 := Aside0.mk HS8
    replace hR8 := Aside0.mk hR8
    replace hlen8 := Aside0.mk hlen8
    clear hL8 HR8 hpl
    go_wp2
    exact Handed.intro (gk - 1) (by have := hn.out; have := HLN.out.1; omega) (hJ2 _ _ _ ⟨j + 1, _, _, by have := hn.out; have := HLN.out.1; omega, ⟨rfl, rfl, rfl, rfl, rfl, rfl, rfl, congrArg (Value.int .i64) (by omega), rfl⟩, HS8.out, hR8.out, hlen8.out⟩)
  · have d1 : decide (j < I.length) = false := decide_eq_false hlt
    have d2 : decide ((j : Int) < (I.length : Int)) = false := decide_eq_false (by omega)
    obtain ⟨sa, sc, hv6⟩ := Kd.R_slice (HR (v6, I) (by simp))
    have hv6' : v6 = .slice sa I.length sc := hv6
    subst hv6'
    replace HS := Aside0.mk HS
    replace HR := Aside0.mk HR
    replace hlt := Aside0.mk hlt
    clear hv6 hlen hL hk hI hIl hsl hi hit hil
    go_wp2
    obtain rfl : j = I.length := by have := hn.out; have := hlt.out; omega
    have h1 := HS.out
    rw [List.take_length] at h1
    exact Met.intro (hJ _ _ ⟨_, _, _, ⟨rfl, rfl, rfl, rfl, rfl, rfl, rfl, rfl, rfl⟩, h1, HR.out⟩)
set_option maxRecDepth 100000 in
set_option maxHeartbeats 4000000 in
/-- The tables. -/
theorem told_tabs (hk : k ≤ 1000) (HF : FrT a h ov v4 v5 v6 v7 v8) (hv5 : v5 = .int .i64 0) (HS : TldSt w w1 wr h A F k base ov []) (HR : IntRows wr base [(v4, T)]) (hT : A.IsTabs T) :
    Pc (tblk 0) (fun a' w' => ∃ ov' v5' v6' v7' v8' L', FrT a' h ov' v4 v5' v6' v7' v8' ∧ TldSt w w1 w' h A F k base ov' L' ∧ A.PlacesOf T L') a wr := by
  subst hv5
  intro J K' hJ hK
  obtain ⟨u, hu, ha⟩ := HF.open
  subst ha
  clear hu HF
  conv => arg 2; whnf
  go_wp2
  have hTl := hT.len HS.inv.ok
  have hsl := HS.inv.len
  refine wp_loop_ghost_k (fun m a' w' => ∃ i ov v6 v7 v8 L, m + i = T.length ∧ FrT a' h ov v4 (.int .i64 (i : Nat)) v6 v7 v8 ∧ TldSt w w1 w' h A F k base ov L ∧ IntRows w' base [(v4, T)] ∧ A.PlacesOf (T.take i) L) T.length ⟨0, ov, v6, v7, v8, [], by omega, ⟨rfl, rfl, rfl, rfl, rfl, rfl, rfl, rfl, rfl⟩, HS, HR, AH.PlacesOf.nil A⟩ ?_
  clear HS HR
  rintro gk a' wr ⟨i, ov, v6, v7, v8, L, hn, HF, HS, HR, hP⟩
  obtain ⟨u, hu, ha⟩ := HF.open
  subst ha
  clear hu HF
  intro J2 K2 hJ2 hK2
  replace hn := Aside0.mk hn
  by_cases hlt : i < T.length
  · have d1 : decide (i < T.length) = true := decide_eq_true hlt
    have d2 : decide ((i : Int) < (T.length : Int)) = true := decide_eq_true (by omega)
    have i5 : (0 : Int) ≤ (i : Int) := by omega
    have i6 : (i : Int) < (T.length : Int) := by omega
    obtain ⟨gT, cT, hv4, hcT, hmT, y0⟩ := HR.cell (v := v4) (xs := T) (by simp) hlt
    have i3 : (T.length : Int) ≤ (cT : Int) := by omega
    have i8 : (T.length : Int) ≤ 1000 := by omega
    have HT : Aside0 (T.take (i + 1) = T.take i ++ [T[i]] ∧ T[i]? = some T[i]) := ⟨List.take_succ_eq_append_getElem hlt, List.getElem?_eq_getElem hlt⟩
    have hPl := hP.len HS.inv.ok (List.Pairwise.sublist (List.take_sublist _ _) hT.1)
    generalize T[i] = t at y0 HT
    have hids := HS.inv.ids (by omega) t
    subst hv4
    have HLN := Aside0.mk (And.intro hlt (And.intro hP (And.intro hk (And.intro hPl (And.intro hsl hTl)))))
    replace HS := Aside0.mk HS
    replace HR := Aside0.mk HR
    clear hlt hP hk hcT hmT hPl hsl hTl
    go_wp2_with fail
    refine hids.mono ?_
    clear hids
    rintro e w7 ⟨v, I, rfl, hI, hIs, hB⟩
    have hS7 := HS.out.below hB
    have hR7 : IntRows w7 base [((.slice (some ⟨gT, 0, none⟩) T.length cT), T), (v, I)] := fun p hp => by
      have h1 := HR.out.below hB
      rcases List.mem_cons.1 hp with e | hp
      · exact h1 p (by simp [e])
      · rw [List.mem_singleton.1 hp]
        exact Kd.R_mono hI (fun b hb => Nat.le_trans HS.out.size hb)
    replace hS7 := Aside0.mk hS7
    replace hR7 := Aside0.mk hR7
    replace hIs := Aside0.mk hIs
    clear hB hI y0
    go_upto_block 2 with (fail)
    refine Pc.use (c := tblk 2) (told_ids (I := I) (T := T) (t := t) (i := i) (v4 := .slice (some ⟨gT, 0, none⟩) T.length cT) (v6 := v) (v8 := v8) (ov := ov) HLN.out.2.2.1 ?f1 rfl rfl hS7.out hR7.out HT.out.2 hIs.out ?f2) ?rest
    case f1 => exact ⟨rfl, rfl, rfl, rfl, rfl, rfl, rfl, rfl, rfl⟩
    case f2 => have := HLN.out; omega
    rintro a' wr' ⟨ov', v7', v8', HF, HS8, HR8⟩
    obtain ⟨u, hu, ha⟩ := HF.open
    subst ha
    clear hu HF
    have hP8 := HLN.out.2.1.more hIs.out
    rw [← HT.out.1] at hP8
    have hR8 : IntRows wr' base [((.slice (some ⟨gT, 0, none⟩) T.length cT), T)] := fun p hp => HR8 p (by rw [List.mem_singleton.1 hp]; simp)
    replace HS8 := Aside0.mk HS8
    replace hR8 := Aside0.mk hR8
    replace hP8 := Aside0.mk hP8
    clear HR8
    go_wp2
    exact Handed.intro (gk - 1) (by have := hn.out; have := HLN.out.1; omega) (hJ2 _ _ _ ⟨i + 1, _, _, _, _, _, by have := hn.out; have := HLN.out.1; omega, ⟨rfl, rfl, rfl, rfl, rfl, congrArg (Value.int .i64) (by omega), rfl, rfl, rfl⟩, HS8.out, hR8.out, hP8.out⟩)
  · have d1 : decide (i < T.length) = false := decide_eq_false hlt
    have d2 : decide ((i : Int) < (T.length : Int)) = false := decide_eq_false (by omega)
    obtain ⟨sa, sc, hv4⟩ := Kd.R_slice (HR (v4, T) (by simp))
    have hv4' : v4 = .slice sa T.length sc := hv4
    subst hv4'
    replace HS := Aside0.mk HS
    replace HR := Aside0.mk HR
    replace hlt := Aside0.mk hlt
    replace hP := Aside0.mk hP
    clear hv4 hk hT hTl hsl
    go_wp2
    obtain rfl : i = T.length := by have := hn.out; have := hlt.out; omega
    have h1 := hP.out
    rw [List.take_length] at h1
    exact Met.intro (hJ _ _ ⟨_, _, _, _, _, _, ⟨rfl, rfl, rfl, rfl, rfl, rfl, rfl, rfl, rfl⟩, HS.out, h1⟩)
end
end Go.Proofs.Ytljahhgankcalaa

/-! told: what Next tells of a copy; told itself. -/
namespace Go.Proofs.Ytljahhgankcalaa
open Go.RowKit Go.Maps Go.MapKept Go.WideMaps Go.Shelf
open Go.Proofs.YtljahhgankcalaaW.PrintWords Go.Proofs.YtljahhgankcalaaW.PrintLast Go.Proofs.YtljahhgankcalaaW.PrintMore
open PHeapThere
set_option linter.unusedVariables false
set_option linter.unusedSimpArgs false

structure NxSt (w w1 wr : World) (h c : Nat) (A B : AH) (F Fc : Nat → Prop) (k : Nat) (ov : Value) (L : List PL) : Prop where
  inv : Inv w wr h A F k
  cp : HeapIs wr c B Fc
  cok : B.Ok
  out : Kd.R kPl 38 wr 0 (fun b => w1.heap.size ≤ b ∧ ¬ Fc b) ov L
  foot : ∀ b, F b → b < w1.heap.size
  cfoot : ∀ b, Fc b → w1.heap.size ≤ b
  low : w.heap.size ≤ w1.heap.size
  keep : Below w1.heap.size w1 wr
section
variable {w w1 wr w' : World} {h c : Nat} {A B B' : AH} {F Fc : Nat → Prop} {k : Nat} {ov v1 : Value} {L L' : List PL}
theorem NxSt.next (H : NxSt w w1 wr h c A B F Fc k ov L) (hcp : HeapIs w' c B' Fc) (hok : B'.Ok) (hc : Chg wr w' Fc) : NxSt w w1 w' h c A B' F Fc k ov L :=
  ⟨H.inv.other hc (fun b hb e => by have := H.foot b hb; have := H.cfoot b e; omega) (fun b hb => Nat.le_trans H.low (H.cfoot b hb)), hcp, hok, Kd.R_mono (Kd.R_move (Kd.R_bound H.out) (fun b hb => hc.block b hb.2.2.1 hb.1.2)) (fun b hb => hb.1), H.foot, H.cfoot, H.low, H.keep.trans (hc.below H.keep.size H.cfoot)⟩
theorem NxSt.push (H : NxSt w w1 wr h c A B F Fc k ov L) (ho : Kd.R kPl 38 w' 0 (fun b => w1.heap.size ≤ b ∧ ¬ Fc b) v1 L') (hg : wr.grownBy w' ov.ownBlock) : NxSt w w1 w' h c A B F Fc k v1 L' := by
  have hown : ∀ b, ov.ownBlock = some b → w1.heap.size ≤ b ∧ ¬ Fc b := fun b hb => (R_block H.out hb).1
  exact ⟨H.inv.other (Chg.of_grown hg) (fun b hb e => by have := H.foot b hb; have := (hown b e.symm).1; omega) (fun b hb => Nat.le_trans H.low (hown b hb.symm).1), H.cp.chg (Chg.of_grown hg) (fun b hb e => (hown b e.symm).2 hb), H.cok, ho, H.foot, H.cfoot, H.low, H.keep.grown hg H.keep.size (fun b hb => (hown b hb).1)⟩
end
section
variable {w w1 wr : World} {h c : Nat} {A : AH} {F Fc : Nat → Prop} {k : Nat} {ov v4 v5 v6 v7 v8 : Value} {L : List PL} {a : Act}
set_option maxRecDepth 100000 in
set_option maxHeartbeats 4000000 in
theorem told_nexts (HF : FrT a h ov v4 v5 v6 v7 v8) (e12 : a.tmps.getD 12 undef = .pointer (some ⟨c, 0, none⟩)) (e13 : a.tmps.getD 13 undef = .int .i64 1) (HS : NxSt w w1 wr h c A A F Fc k ov L) (hL : L.length ≤ 1100000000) :
    Pc (tblk 6) (fun a' w' => ∃ ov', FrT a' h ov' v4 v5 v6 v7 v8 ∧ NxSt w w1 w' h c A (A.nexts 4).2 F Fc k ov' (L ++ (A.nexts 4).1)) a wr := by
  intro J K' hJ hK
  obtain ⟨u, hu, ha⟩ := HF.open
  have u12 := (hu 12).trans e12
  have u13 := (hu 13).trans e13
  subst ha
  rw [u12, u13]
  clear hu HF e12 e13 u12 u13
  conv => arg 2; whnf
  go_wp2
  refine wp_loop_ghost_k (fun m a' w' => ∃ j ov, m + j = 4 ∧ FrT a' h ov v4 v5 v6 v7 v8 ∧ a'.tmps.getD 12 undef = .pointer (some ⟨c, 0, none⟩) ∧ a'.tmps.getD 13 undef = .int .i64 ((j : Int) + 1) ∧ NxSt w w1 w' h c A (A.nexts j).2 F Fc k ov (L ++ (A.nexts j).1)) 4 ⟨0, ov, by omega, ⟨rfl, rfl, rfl, rfl, rfl, rfl, rfl, rfl, rfl⟩, rfl, rfl, by simpa [AH.nexts] using HS⟩ ?_
  clear HS
  rintro gk a' wr ⟨j, ov, hn, HF, e12, e13, HS⟩
  obtain ⟨u, hu, ha⟩ := HF.open
  have u12 := (hu 12).trans e12
  have u13 := (hu 13).trans e13
  subst ha
  rw [u12, u13]
  clear hu HF e12 e13 u12 u13
  intro J2 K2 hJ2 hK2
  replace hn := Aside0.mk hn
  by_cases hlt : j < 4
  · have d1 : decide ((j : Int) + 1 < 5) = true := decide_eq_true (by omega)
    have hnx := next_calls c ((j : Int) + 1) _ Fc wr HS.cp HS.cok
    obtain ⟨oa, oc, hov⟩ := Kd.R_slice HS.out
    have hol : (L ++ (A.nexts j).1).length = L.length + j := by rw [List.length_append, A.nexts_len]
    rw [hol] at hov
    subst hov
    have HLN := Aside0.mk (And.intro hlt hL)
    replace HS := Aside0.mk HS
    have i4 : (j : Int) < 4 := by omega
    clear hlt hL hol
    go_wp2_with fail
    refine hnx.mono ?_
    clear hnx
    rintro e w7 ⟨rfl, hcp, hch⟩
    have hS7 := HS.out.next hcp (HS.out.cok.next _) hch
    have hbd := hcp.bound
    have hln : ((L ++ (A.nexts j).1).length + 1) * 80 ≤ 140737488355328 := by
      have := HLN.out
      rw [List.length_append, A.nexts_len]
      omega
    obtain ⟨no, hno⟩ : ∃ no, ((A.nexts j).2.next ((j : Int) + 1)).1 = no := ⟨_, rfl⟩
    rw [hno]
    have hS := Aside0.mk (And.intro hS7 (And.intro hbd (And.intro hln hno)))
    clear hcp hch hS7 hbd hln hno
    go_wp2_with (at_builtin; go_loud (refine Kd.R_append kPl (w0 := w7) 0 rfl (.tmp 74) (.tmp 79) 36 38 (.agg #[.int .i64 0, .int .i64 0, .int .i64 0, .int .i64 0, .int .i64 0, .int .i64 0, .int .i64 0, .slice none 0 0]) 80 rfl Try.underlying36 Try.infoPl rfl (by decide) (by omega) (.slice oa (L.length + j) oc) (L ++ (A.nexts j).1) ⟨no, zTup⟩ (plCells ⟨no, zTup⟩ (.slice none 0 0)) (fun b => w1.heap.size ≤ b ∧ ¬ Fc b) (fun _ => False) rfl rfl (kPl_mkM _ 0 _ ⟨no, zTup⟩ (Kd.R_nil _ _ _ _ _)) (fun _ h => h.elim) (fun b hb => ⟨Nat.le_trans hS.out.1.keep.size hb, fun hf => Nat.lt_irrefl _ (Nat.lt_of_lt_of_le (hS.out.2.1 b hf) hb)⟩) hS.out.1.out (Below.refl 0 _) (Nat.zero_le _) hS.out.2.2.1 ?_); intro v2 w5 ho5 hb5 hg5 hat5; clear hb5 hat5; replace ho5 := Aside0.mk ho5; replace hg5 := Aside0.mk hg5)
    have hS5 := hS.out.1.push ho5.out hg5.out
    have hL5 : L ++ (A.nexts (j + 1)).1 = (L ++ (A.nexts j).1) ++ [⟨no, zTup⟩] := by rw [AH.nexts, ← hS.out.2.2.2, List.append_assoc]
    rw [← hL5] at hS5
    exact Handed.intro (gk - 1) (by have := hn.out; have := HLN.out.1; omega) (hJ2 _ _ _ ⟨j + 1, _, by have := hn.out; have := HLN.out.1; omega, ⟨rfl, rfl, rfl, rfl, rfl, rfl, rfl, rfl, rfl⟩, rfl, congrArg (Value.int .i64) (by omega), hS5⟩)
  · have d1 : decide ((j : Int) + 1 < 5) = false := decide_eq_false (by omega)
    replace HS := Aside0.mk HS
    replace hlt := Aside0.mk hlt
    clear hL
    go_wp2
    obtain rfl : j = 4 := by have := hn.out; have := hlt.out; omega
    exact Met.intro (hJ _ _ ⟨_, ⟨rfl, rfl, rfl, rfl, rfl, rfl, rfl, rfl, rfl⟩, HS.out⟩)
set_option maxRecDepth 100000 in
set_option maxHeartbeats 4000000 in
theorem told_calls (HI : Inv w w1 h A F k) (hk : k ≤ 1000) : Calls Try.prog 55 #[.pointer (some ⟨h, 0, none⟩)] w1 fun e w' =>
    ∃ v L, e = .returned v ∧ A.IsTold L ∧ L.length ≤ 1100000000 ∧ Kd.R kPl 38 w' 0 (fun b => w1.heap.size ≤ b) v L ∧ Below w1.heap.size w1 w' := by
  have htab := HI.tabs (by omega)
  replace HI := Aside0.mk HI
  have HK := Aside0.mk hk
  clear hk
  go_enter Try.func55, Try.ntmps55
  go_wp2_with fail
  refine htab.mono ?_
  clear htab
  rintro e w2 ⟨tv, T, rfl, hT, hTs, hB⟩
  have hS2 : TldSt w w1 w2 h A F k w1.heap.size (.slice none 0 0) [] := ⟨HI.out.below hB, Kd.R_nil _ _ _ _ _, HI.out.is.bound, HI.out.bel.size, hB.size, hB⟩
  have hR2 : IntRows w2 w1.heap.size [(tv, T)] := fun p hp => by rw [List.mem_singleton.1 hp]; exact hT
  replace hS2 := Aside0.mk hS2
  replace hR2 := Aside0.mk hR2
  replace hTs := Aside0.mk hTs
  clear hT hB
  go_upto_block 0 with (fail)
  refine Pc.use (c := tblk 0) (told_tabs (h := h) (v4 := tv) (v5 := .int .i64 0) (v6 := undef) (v7 := undef) (v8 := undef) (ov := .slice none 0 0) HK.out ?f1 rfl hS2.out hR2.out hTs.out) ?rest
  case f1 => exact ⟨rfl, rfl, rfl, rfl, rfl, rfl, rfl, rfl, rfl⟩
  rintro a' wr ⟨ov, v5, v6, v7, v8, L, HF, HS, hP⟩
  obtain ⟨u, hu, ha⟩ := HF.open
  subst ha
  clear hu HF
  have hcpy := copy_calls h A F wr HS.inv.is (by have := HS.inv.len; have := HK.out; omega) (fun i => by have := HS.inv.lim i; omega) (fun p => by have := HS.inv.ok.rows_len p; have := HS.inv.len; have := HK.out; omega)
  replace HS := Aside0.mk HS
  replace hP := Aside0.mk hP
  go_wp2_with fail
  refine hcpy.mono ?_
  clear hcpy
  rintro e w7 ⟨c, rfl, hc, hB⟩
  have hS7 : NxSt w w1 w7 h c A A F (ext (fun _ => False) wr w7) k ov L := ⟨HS.out.inv.below hB, hc, HS.out.inv.ok, Kd.R_mono (Kd.R_below (Kd.R_bound HS.out.out) hB) (fun b hb => ⟨hb.1, fun e => by
    rcases e with e | e
    · exact e
    · have := hb.2.2.1; omega⟩), HS.out.foot, (fun b hb => by
    rcases hb with hb | hb
    · exact hb.elim
    · exact Nat.le_trans HS.out.size hb.1), HS.out.low, HS.out.keep.trans (hB.mono HS.out.size)⟩
  have hPl := hP.out.len HS.out.inv.ok hTs.out.1
  have hlk := HS.out.inv.len
  have hL : L.length ≤ 1100000000 := by have := HK.out; omega
  replace hS7 := Aside0.mk hS7
  replace hL := Aside0.mk (And.intro hL (show L.length ≤ 1000 by have := HK.out; omega))
  clear hc hB hPl hlk
  go_upto_block 6 with (fail)
  refine Pc.use (c := tblk 6) (told_nexts (h := h) (v4 := tv) (v5 := v5) (v6 := v6) (v7 := v7) (v8 := v8) ?g1 ?g2 ?g3 hS7.out hL.out.1) ?rest2
  case g1 => exact ⟨rfl, rfl, rfl, rfl, rfl, rfl, rfl, rfl, rfl⟩
  case g2 => rfl
  case g3 => rfl
  rintro a' w8 ⟨ov', HF, HS8⟩
  obtain ⟨u, hu, ha⟩ := HF.open
  subst ha
  clear hu HF
  replace HS8 := Aside0.mk HS8
  go_wp2
  go_ret
  refine ⟨ov', _, rfl, ⟨T, L, hTs.out, hP.out, rfl⟩, ?_, Kd.R_mono HS8.out.out (fun b hb => hb.1), HS8.out.keep⟩
  rw [List.length_append, A.nexts_len]
  have := hL.out.2
  omega
end
end Go.Proofs.Ytljahhgankcalaa

/-! alike: two lists of the same places. -/
namespace Go.Proofs.Ytljahhgankcalaa
open Go.RowKit Go.Maps Go.MapKept Go.WideMaps Go.Shelf
open Go.Proofs.YtljahhgankcalaaW.PrintWords Go.Proofs.YtljahhgankcalaaW.PrintLast Go.Proofs.YtljahhgankcalaaW.PrintMore
open PHeapThere
set_option linter.unusedVariables false
set_option linter.unusedSimpArgs false

/-- A place's cells. -/
theorem pl_cells {w : World} {base : Nat} {ok : Nat → Prop} {v : Value} {L : List PL} (h : Kd.R kPl 38 w base ok v L) {i : Nat} (hi : i < L.length) : ∃ g cap a6 c6, v = .slice (some ⟨g, 0, none⟩) L.length cap ∧ L.length ≤ cap ∧ cap ≤ maxLen ∧
    Kd.C kVal w a6 (L[i]).f1.f6.length (L[i]).f1.f6 ∧ (L[i]).f1.f6.length ≤ c6 ∧ w.cell? ⟨g, i * 8, none⟩ = some (.int .i64 (L[i]).f0) ∧ w.cell? ⟨g, i * 8 + 1, none⟩ = some (.int .i64 (L[i]).f1.f0) ∧ w.cell? ⟨g, i * 8 + 2, none⟩ = some (.int .i64 (L[i]).f1.f1) ∧ w.cell? ⟨g, i * 8 + 3, none⟩ = some (.int .i64 (L[i]).f1.f2) ∧
    w.cell? ⟨g, i * 8 + 4, none⟩ = some (.int .i64 (L[i]).f1.f3) ∧ w.cell? ⟨g, i * 8 + 5, none⟩ = some (.int .i64 (L[i]).f1.f4) ∧ w.cell? ⟨g, i * 8 + 6, none⟩ = some (.int .i64 (L[i]).f1.f5) ∧ w.cell? ⟨g, i * 8 + 7, none⟩ = some (.slice a6 (L[i]).f1.f6.length c6) := by
  obtain ⟨g, cap, cur, c, hv, hG, _, hb, h2, h3, h4, hM, h5, h6⟩ := R_elem h hi
  obtain ⟨v6, hc, hr⟩ := kPl_openM hM
  obtain ⟨a6, c6, e6⟩ := Kd.R_slice hr
  subst e6
  have hrd := Kd.R_reads' hr
  have hsz : kPl.sz = 8 := rfl
  rw [hsz] at h6
  have get : ∀ j u, (plCells L[i] (.slice a6 (L[i]).f1.f6.length c6))[j]? = some u → w.cell? ⟨g, i * 8 + j, none⟩ = some u := fun j u hj => (blk_cell hb (i * 8 + j)).trans (h6 j u (by rw [hc]; exact hj))
  exact ⟨g, cap, a6, c6, hv, h2, h3, hrd.2.2, hrd.2.1, get 0 _ rfl, get 1 _ rfl, get 2 _ rfl, get 3 _ rfl, get 4 _ rfl, get 5 _ rfl, get 6 _ rfl, get 7 _ rfl⟩
set_option maxRecDepth 100000 in
set_option maxHeartbeats 4000000 in
theorem alike_calls (w : World) (va vb : Value) (L : List PL) {b1 b2 : Nat} {ok1 ok2 : Nat → Prop} (ha : Kd.R kPl 38 w b1 ok1 va L) (hb : Kd.R kPl 38 w b2 ok2 vb L) (hl : L.length ≤ 1100000000) (hf : ∀ p ∈ L, p.f1.f6.length ≤ 140737488351232) :
    Calls Try.prog 56 #[va, vb] w fun e w' => e = .returned (.bool true) ∧ Below w.heap.size w w' := by
  obtain ⟨a0, c0, e0⟩ := Kd.R_slice ha
  obtain ⟨a1, c1, e1⟩ := Kd.R_slice hb
  subst e0
  subst e1
  have HA := Aside0.mk (And.intro ha (And.intro hb hf))
  have n0 : (L.length != L.length) = false := bne_self_eq_false _
  have n1 : ((L.length : Int) != (L.length : Int)) = false := bne_self_eq_false _
  have hl2 : (L.length : Int) ≤ 1100000000 := by omega
  clear ha hb hf hl
  go_enter Try.func56, Try.ntmps56
  go_wp2
  go_loopw [5] (fun v5 wr => ∃ i : Nat, i ≤ L.length ∧ v5 = .int .i64 i ∧ Aside0 (Below w.heap.size w wr)) (fun v5 _ => L.length - (intOf v5).toNat)
  case atStart => exact ⟨0, Nat.zero_le _, rfl, ⟨Below.refl _ _⟩⟩
  case round =>
    obtain ⟨i, hi, rfl, HB⟩ := hrel
    by_cases hlt : i < L.length
    · have d1 : decide (i < L.length) = true := decide_eq_true hlt
      have d2 : decide ((i : Int) < (L.length : Int)) = true := decide_eq_true (by omega)
      have i1 : (0 : Int) ≤ (i : Int) := by omega
      have i2 : (i : Int) < (L.length : Int) := by omega
      have hA1 := Kd.R_below HA.out.1 HB.out
      have hA2 := Kd.R_below HA.out.2.1 HB.out
      obtain ⟨g, cap, a6, c6, hv, hcap, hmax, hC, hc6, x0, x1, x2, x3, x4, x5, x6, x7⟩ := pl_cells hA1 hlt
      obtain ⟨g2, cap2, a7, c7, hv2, hcap2, hmax2, hC2, hc7, y0, y1, y2, y3, y4, y5, y6, y7⟩ := pl_cells hA2 hlt
      injection hv with hv _ hvc
      injection hv2 with hv2 _ hvc2
      subst hv
      subst hvc
      subst hv2
      subst hvc2
      have hfp := HA.out.2.2 L[i] (List.getElem_mem hlt)
      generalize L[i] = p at hC hc6 x0 x1 x2 x3 x4 x5 x6 x7 hC2 hc7 y0 y1 y2 y3 y4 y5 y6 y7 hfp
      obtain ⟨ks, hks⟩ := tup_same p.f1 hfp
      have i3 : (L.length : Int) ≤ (c0 : Int) := by omega
      have i4 : (L.length : Int) ≤ (c1 : Int) := by omega
      have hsm : Aside0 (∀ W, Below wr.heap.size wr W → Calls Try.prog 18 #[.agg #[.int .i64 p.f1.f0, .int .i64 p.f1.f1, .int .i64 p.f1.f2, .int .i64 p.f1.f3, .int .i64 p.f1.f4, .int .i64 p.f1.f5, .slice a6 p.f1.f6.length c6], .agg #[.int .i64 p.f1.f0, .int .i64 p.f1.f1, .int .i64 p.f1.f2, .int .i64 p.f1.f3, .int .i64 p.f1.f4, .int .i64 p.f1.f5, .slice a7 p.f1.f6.length c7]] W fun e w' => e = .returned (.bool true) ∧ Below W.heap.size W w') := ⟨fun W hb => covenantref11_Same.calls ks _ _ _ _ _ _ a6 c6 p.f1.f6 _ _ _ _ _ _ a7 c7 p.f1.f6 true W (Kd.C_below hC hb) hc6 (Kd.C_below hC2 hb) hc7 hks⟩
      have hmv : Aside0 (∀ W : World, Below wr.heap.size wr W → (W.cell? ⟨g, i * 8, none⟩ = some (.int .i64 p.f0) ∧ W.cell? ⟨g, i * 8 + 1, none⟩ = some (.int .i64 p.f1.f0) ∧ W.cell? ⟨g, i * 8 + 2, none⟩ = some (.int .i64 p.f1.f1) ∧ W.cell? ⟨g, i * 8 + 3, none⟩ = some (.int .i64 p.f1.f2) ∧ W.cell? ⟨g, i * 8 + 4, none⟩ = some (.int .i64 p.f1.f3) ∧ W.cell? ⟨g, i * 8 + 5, none⟩ = some (.int .i64 p.f1.f4) ∧ W.cell? ⟨g, i * 8 + 6, none⟩ = some (.int .i64 p.f1.f5) ∧ W.cell? ⟨g, i * 8 + 7, none⟩ = some (.slice a6 p.f1.f6.length c6) ∧ W.cell? ⟨g2, i * 8, none⟩ = some (.int .i64 p.f0) ∧ W.cell? ⟨g2, i * 8 + 1, none⟩ = some (.int .i64 p.f1.f0) ∧ W.cell? ⟨g2, i * 8 + 2, none⟩ = some (.int .i64 p.f1.f1) ∧ W.cell? ⟨g2, i * 8 + 3, none⟩ = some (.int .i64 p.f1.f2) ∧ W.cell? ⟨g2, i * 8 + 4, none⟩ = some (.int .i64 p.f1.f3) ∧ W.cell? ⟨g2, i * 8 + 5, none⟩ = some (.int .i64 p.f1.f4) ∧ W.cell? ⟨g2, i * 8 + 6, none⟩ = some (.int .i64 p.f1.f5) ∧ W.cell? ⟨g2, i * 8 + 7, none⟩ = some (.slice a7 p.f1.f6.length c7))) := ⟨fun W hb => by
        have mv : ∀ (q : Addr) (u : Value), wr.cell? q = some u → W.cell? q = some u := fun q u hq => (hb.cell (p := q) (World.block_lt_of_cell? wr q hq)).trans hq
        exact ⟨mv _ _ x0, mv _ _ x1, mv _ _ x2, mv _ _ x3, mv _ _ x4, mv _ _ x5, mv _ _ x6, mv _ _ x7, mv _ _ y0, mv _ _ y1, mv _ _ y2, mv _ _ y3, mv _ _ y4, mv _ _ y5, mv _ _ y6, mv _ _ y7⟩⟩
      have e3 : (p.f0 != p.f0) = false := bne_self_eq_false _
      replace hlt := Aside0.mk hlt
      clear hC hC2 hc6 hc7 hcap hcap2 hmax hmax2 hA1 hA2 hfp hks
      go_upto_region 6 with (fail)
      go_region_held3 (fun W => (W.cell? ⟨g, i * 8, none⟩ = some (.int .i64 p.f0) ∧ W.cell? ⟨g, i * 8 + 1, none⟩ = some (.int .i64 p.f1.f0) ∧ W.cell? ⟨g, i * 8 + 2, none⟩ = some (.int .i64 p.f1.f1) ∧ W.cell? ⟨g, i * 8 + 3, none⟩ = some (.int .i64 p.f1.f2) ∧ W.cell? ⟨g, i * 8 + 4, none⟩ = some (.int .i64 p.f1.f3) ∧ W.cell? ⟨g, i * 8 + 5, none⟩ = some (.int .i64 p.f1.f4) ∧ W.cell? ⟨g, i * 8 + 6, none⟩ = some (.int .i64 p.f1.f5) ∧ W.cell? ⟨g, i * 8 + 7, none⟩ = some (.slice a6 p.f1.f6.length c6) ∧ W.cell? ⟨g2, i * 8, none⟩ = some (.int .i64 p.f0) ∧ W.cell? ⟨g2, i * 8 + 1, none⟩ = some (.int .i64 p.f1.f0) ∧ W.cell? ⟨g2, i * 8 + 2, none⟩ = some (.int .i64 p.f1.f1) ∧ W.cell? ⟨g2, i * 8 + 3, none⟩ = some (.int .i64 p.f1.f2) ∧ W.cell? ⟨g2, i * 8 + 4, none⟩ = some (.int .i64 p.f1.f3) ∧ W.cell? ⟨g2, i * 8 + 5, none⟩ = some (.int .i64 p.f1.f4) ∧ W.cell? ⟨g2, i * 8 + 6, none⟩ = some (.int .i64 p.f1.f5) ∧ W.cell? ⟨g2, i * 8 + 7, none⟩ = some (.slice a7 p.f1.f6.length c7))) (go_keep) ((go_at_call 18; refine (hsm.out _ (Below.refl _ _).drew).mono ?_; rintro e w7 ⟨rfl, hB⟩; obtain ⟨z0, z1, z2, z3, z4, z5, z6, z7, z8, z9, z10, z11, z12, z13, z14, z15⟩ := hmv.out _ (((Below.refl _ wr).drew).trans hB); replace hB := Aside0.mk hB))
      have hB7 : Aside0 (Below w.heap.size w w7) := ⟨HB.out.trans ((((Below.refl _ wr).drew).trans hB.out).mono HB.out.size)⟩
      go_wp2
      go_roundw
      case measure => have := hlt.out; simp [intOf]; omega
      case rel => exact ⟨i + 1, by have := hlt.out; omega, by go_num, hB7⟩
    · have d1 : decide (i < L.length) = false := decide_eq_false hlt
      have d2 : decide ((i : Int) < (L.length : Int)) = false := decide_eq_false (by omega)
      clear hlt
      go_wp2
      go_ret
      exact ⟨rfl, HB.out⟩
theorem AH.PlacesOf.lim {A : AH} {l : List Int} {L : List PL} (h : A.PlacesOf l L) (hl : A.Lim 20000) : ∀ p ∈ L, p.f1.f6.length ≤ 140737488351232 := by
  obtain ⟨Is, _, h2⟩ := h
  intro p hp
  rw [h2] at hp
  obtain ⟨t, _, hp⟩ := List.mem_flatMap.1 hp
  obtain ⟨i, _, hp⟩ := List.mem_flatMap.1 hp
  obtain ⟨s, _, rfl⟩ := List.mem_map.1 hp
  show (A.atE s).f6.length ≤ _
  unfold AH.atE
  split
  · have h1 := hl s.toNat
    have h2 : A.at s = A.slots.getD s.toNat zTup := rfl
    rw [h2]; omega
  · show ([] : List AVal).length ≤ _
    simp
theorem AH.nexts_lim (A : AH) : ∀ n, ∀ p ∈ (A.nexts n).1, p.f1.f6.length ≤ 140737488351232
  | 0, p, hp => by simp [AH.nexts] at hp
  | n + 1, p, hp => by
    rw [AH.nexts] at hp
    rcases List.mem_append.1 hp with hp | hp
    · exact A.nexts_lim n p hp
    · rw [List.mem_singleton.1 hp]
      show ([] : List AVal).length ≤ _
      simp
theorem AH.IsTold.lim {A : AH} {L : List PL} (h : A.IsTold L) (hl : A.Lim 20000) : ∀ p ∈ L, p.f1.f6.length ≤ 140737488351232 := by
  obtain ⟨T, L0, _, h2, h3⟩ := h
  intro p hp
  rw [h3] at hp
  rcases List.mem_append.1 hp with hp | hp
  · exact h2.lim hl p hp
  · exact A.nexts_lim 4 p hp
end Go.Proofs.Ytljahhgankcalaa

/-! HeapCopies: the walk. -/
namespace Go.Proofs.Ytljahhgankcalaa
open Go.RowKit Go.Maps Go.MapKept Go.WideMaps Go.Shelf
open Go.Proofs.YtljahhgankcalaaW.PrintWords Go.Proofs.YtljahhgankcalaaW.PrintLast Go.Proofs.YtljahhgankcalaaW.PrintMore
open PHeapThere
attribute [local go_sem] max2_mx min2_mn max_two min_two
set_option linter.unusedVariables false
set_option linter.unusedSimpArgs false

def AH.run (A : AH) (l : List AStep) : AH := l.foldl (fun A s => (A.step s).2.2) A
theorem AH.run_more {A : AH} {l : List AStep} {k : Nat} (hk : k < l.length) : A.run (l.take (k + 1)) = ((A.run (l.take k)).step (rd_T34 l k)).2.2 := by
  rw [List.take_succ_eq_append_getElem hk]
  unfold AH.run
  rw [List.foldl_append]
  show _ = (AH.step _ (l.getD (k : Int).toNat zStep)).2.2
  rw [Int.toNat_natCast, List.getD_eq_getElem?_getD, List.getElem?_eq_getElem hk]
  rfl
structure Two (w wr : World) (h c : Nat) (A B : AH) (F Fc : Nat → Prop) (ka kb : Nat) (rows : List (Value × List PL)) : Prop where
  ih : Inv w wr h A F ka
  ic : Inv w wr c B Fc kb
  apart : ∀ b, F b → ¬ Fc b
  rows : ∀ p ∈ rows, Kd.R kPl 38 wr 0 (fun b => ¬ F b ∧ ¬ Fc b) p.1 p.2
section
variable {w wr w' : World} {h c : Nat} {A B A' B' : AH} {F Fc : Nat → Prop} {ka kb ka' kb' : Nat} {rows : List (Value × List PL)}
theorem Two.below (H : Two w wr h c A B F Fc ka kb rows) (hB : Below wr.heap.size wr w') : Two w w' h c A B F Fc ka kb rows := ⟨H.ih.below hB, H.ic.below hB, H.apart, fun p hp => Kd.R_below (H.rows p hp) hB⟩
theorem Two.stepC (H : Two w wr h c A B F Fc ka kb rows) (hi : Inv w w' c B' (ext Fc wr w') kb') (hc : Chg wr w' Fc) : Two w w' h c A B' F (ext Fc wr w') ka kb' rows :=
  ⟨H.ih.other hc H.apart H.ic.low, hi, fun b hb e => by
    rcases e with e | e
    · exact H.apart b hb e
    · have := H.ih.is.bound b hb; omega, fun p hp => Kd.R_mono (Kd.R_move (Kd.R_bound (H.rows p hp)) (fun b hb => hc.block b hb.2.2.1 hb.1.2)) (fun b hb => ⟨hb.1.1, fun e => by
    rcases e with e | e
    · exact hb.1.2 e
    · have := hb.2.2.1; omega⟩)⟩
theorem Two.stepH (H : Two w wr h c A B F Fc ka kb rows) (hi : Inv w w' h A' (ext F wr w') ka') (hc : Chg wr w' F) : Two w w' h c A' B (ext F wr w') Fc ka' kb rows :=
  ⟨hi, H.ic.other hc (fun b hb e => H.apart b e hb) H.ih.low, fun b hb e => by
    rcases hb with hb | hb
    · exact H.apart b hb e
    · have := H.ic.is.bound b e; omega, fun p hp => Kd.R_mono (Kd.R_move (Kd.R_bound (H.rows p hp)) (fun b hb => hc.block b hb.2.2.1 hb.1.1)) (fun b hb => ⟨fun e => by
    rcases e with e | e
    · exact hb.1.1 e
    · have := hb.2.2.1; omega, hb.1.2⟩)⟩
theorem Two.more (H : Two w wr h c A B F Fc ka kb rows) {v : Value} {L : List PL} (hB : Below wr.heap.size wr w') (hr : Kd.R kPl 38 w' 0 (fun b => wr.heap.size ≤ b) v L) : Two w w' h c A B F Fc ka kb (rows ++ [(v, L)]) := by
  have H2 := H.below hB
  refine ⟨H2.ih, H2.ic, H2.apart, fun p hp => ?_⟩
  rcases List.mem_append.1 hp with hp | hp
  · exact H2.rows p hp
  · rw [List.mem_singleton.1 hp]
    exact Kd.R_mono hr (fun b hb => ⟨fun e => by have := H.ih.is.bound b e; omega, fun e => by have := H.ic.is.bound b e; omega⟩)
end
set_option maxRecDepth 100000 in
set_option maxHeartbeats 8000000 in
theorem copies_law (A0 : Option Addr) (c0 : Nat) (l : List AStep) (A1 : Option Addr) (c1 : Nat) (l1 : List AStep) (w : World) (hr : Kd.C kStep w A0 l.length l) (hc : l.length ≤ c0) (hs : Sized l) (hr1 : Kd.C kStep w A1 l1.length l1) (hc1 : l1.length ≤ c1) (hs1 : Sized l1) :
    Calls Try.prog 12 #[.slice A0 l.length c0, .slice A1 l1.length c1] w fun e w' => e = .returned (.bool true) ∧ Below w.heap.size w w' := by
  obtain ⟨kl, r, hlg, hsm⟩ := large_is l hs
  obtain ⟨kl1, r1, hlg1, hsm1⟩ := large_is l1 hs1
  have HR := Aside0.mk hr
  have HC := Aside0.mk hc
  have HLG := Aside0.mk hlg
  have HSM := Aside0.mk hsm
  have HR1 := Aside0.mk hr1
  have HC1 := Aside0.mk hc1
  have HLG1 := Aside0.mk hlg1
  have HSM1 := Aside0.mk hsm1
  clear hr hc hs hlg hsm hr1 hc1 hs1 hlg1 hsm1
  go_enter Try.func12, Try.ntmps12
  go_wp2_with fail
  refine (works_calls w).mono ?_
  rintro e w1 ⟨rfl, b1⟩
  replace b1 := Aside0.mk b1
  go_wp2_with fail
  refine (covenantlaw11_large.calls kl A0 c0 l r w1 (Kd.C_below HR.out b1.out) HC.out HLG.out).mono ?_
  rintro e w2 ⟨rfl, d2⟩
  have b2 := Aside0.mk (b1.out.trans (d2.below.mono b1.out.size))
  clear d2
  cases r with
  | true =>
    go_wp2_with fail
    refine (works_calls w2).mono ?_
    rintro e w3 ⟨rfl, b3⟩
    have b4 := Aside0.mk (b2.out.trans (b3.mono b2.out.size))
    clear b3
    go_wp2
    go_ret
    exact ⟨rfl, b4.out⟩
  | false =>
    go_wp2_with fail
    refine (covenantlaw11_large.calls kl1 A1 c1 l1 r1 w2 (Kd.C_below HR1.out b2.out) HC1.out HLG1.out).mono ?_
    rintro e w2b ⟨rfl, d3⟩
    have b3 := Aside0.mk (b2.out.trans (d3.below.mono b2.out.size))
    clear d3
    cases r1 with
    | true =>
      go_wp2_with fail
      refine (works_calls w2b).mono ?_
      rintro e w3 ⟨rfl, b4⟩
      have b5 := Aside0.mk (b3.out.trans (b4.mono b3.out.size))
      clear b4
      go_wp2
      go_ret
      exact ⟨rfl, b5.out⟩
    | false =>
      obtain ⟨hl120, hrow⟩ := HSM.out (by first | rfl | trivial)
      obtain ⟨hl1120, hrow1⟩ := HSM1.out (by first | rfl | trivial)
      have HROW := Aside0.mk hrow
      have HROW1 := Aside0.mk hrow1
      clear hrow hrow1
      go_wp2_with fail
      refine (St.start w w2b b3.out).mono ?_
      rintro e w3 ⟨h, rfl, s3⟩
      replace s3 := Aside0.mk s3
      go_wp2
      go_loopw [6] (fun v6 wr => ∃ (k : Nat) (A : AH) (F : Nat → Prop), k ≤ l.length ∧ v6 = .int .i64 k ∧ Aside0 (Inv w wr h A F k)) (fun v6 _ => l.length - (intOf v6).toNat)
      case atStart => exact ⟨0, AH.empty, newer w w3, Nat.zero_le _, rfl, ⟨Inv.of_st s3.out⟩⟩
      case round =>
        obtain ⟨k, A, F, hk, rfl, HI⟩ := hrel
        by_cases hlt : k < l.length
        · have b1 : decide ((k : Int) < (l.length : Int)) = true := decide_eq_true (by omega)
          have p0 : (0 : Int) ≤ (k : Int) := by omega
          have p1 : (k : Int) < (l.length : Int) := by omega
          have hrow := HROW.out k
          obtain ⟨ad, A7, c7, e1, hc7, hr7, hcells⟩ := stepCellsIn HR.out k p1
          have hrd : (l.getD k zStep) = rd_T34 l k := rfl
          rw [hrd] at hrow
          generalize rd_T34 l k = s at hcells hc7 hr7 hrow
          clear hrd
          cases e1
          obtain ⟨x0, x1, x2, x3, x4, x5, x6, x7, x8, x9, x10⟩ := hcells wr HI.out.bel
          have hst := HI.out.step (by omega) s A7 c7 (Kd.C_below hr7 HI.out.bel) hc7 hrow
          obtain ⟨n, e, A', hstep⟩ : ∃ n e A', A.step s = (n, e, A') := ⟨_, _, _, rfl⟩
          rw [hstep] at hst
          simp only [stepCells] at hst
          clear hstep hr7 hc7 hcells
          go_wp2_with fail
          refine hst.mono ?_
          clear hst x0 x1 x2 x3 x4 x5 x6 x7 x8 x9 x10
          rintro ee w6 ⟨rfl, HI6, hch⟩
          generalize hFF : ext F wr w6 = F6 at HI6
          replace HI6 := Aside0.mk HI6
          clear hch hFF
          go_wp2
          go_roundw
          case measure => simp [intOf]; omega
          case rel => exact ⟨k + 1, A', F6, by omega, by go_num, HI6⟩
        · have b1 : decide ((k : Int) < (l.length : Int)) = false := decide_eq_false (by omega)
          obtain rfl : k = l.length := by omega
          have hcpy := copy_calls h A F wr HI.out.is (by have := HI.out.len; omega) (fun i => by have := HI.out.lim i; omega) (fun p => by have := HI.out.ok.rows_len p; have := HI.out.len; omega)
          clear hk hlt
          go_wp2_with fail
          refine hcpy.mono ?_
          clear hcpy
          rintro ee w7 ⟨c, rfl, hcp, hB⟩
          have HT : Two w w7 h c A A F (ext (fun _ => False) wr w7) l.length l.length [] := ⟨HI.out.below hB, ⟨hcp, (fun b hb => by
            rcases hb with hb | hb
            · exact hb.elim
            · exact Nat.le_trans HI.out.bel.size hb.1), (HI.out.below hB).bel, HI.out.ok, HI.out.len, HI.out.lim⟩, (fun b hb e => by
            rcases e with e | e
            · exact e
            · have := HI.out.is.bound b hb; omega), fun p hp => by simp at hp⟩
          generalize hFc : ext (fun _ => False) wr w7 = Fc at HT
          have ht8 := told_calls HT.ih (by omega)
          replace HT := Aside0.mk HT
          clear hcp hB hFc HI
          go_wp2_with fail
          refine ht8.mono ?_
          clear ht8
          rintro ee w8 ⟨v8, L0, rfl, hL0, hl0, hr8, hB8⟩
          have HT8 := Aside0.mk (HT.out.more hB8 hr8)
          have HL0 := Aside0.mk (And.intro hL0 hl0)
          obtain ⟨a8, c8, e8⟩ := Kd.R_slice hr8
          subst e8
          clear hL0 hl0 hr8 hB8 HT
          go_wp2
          go_loopw [9] (fun v9 wr => ∃ (k : Nat) (Fc : Nat → Prop), k ≤ l1.length ∧ v9 = .int .i64 k ∧ Aside0 (Two w wr h c A (A.run (l1.take k)) F Fc l.length (l.length + k) [(.slice a8 L0.length c8, L0)])) (fun v9 _ => l1.length - (intOf v9).toNat)
          case atStart => exact ⟨0, Fc, Nat.zero_le _, rfl, ⟨by simpa [AH.run] using HT8.out⟩⟩
          case round =>
            clear HT8
            obtain ⟨k, Fc, hk, rfl, HT⟩ := hrel
            by_cases hlt : k < l1.length
            · have b1 : decide ((k : Int) < (l1.length : Int)) = true := decide_eq_true (by omega)
              have p0 : (0 : Int) ≤ (k : Int) := by omega
              have p1 : (k : Int) < (l1.length : Int) := by omega
              have hrow := HROW1.out k
              obtain ⟨ad, A7, c7, e1, hc7, hr7, hcells⟩ := stepCellsIn HR1.out k p1
              have hrd : (l1.getD k zStep) = rd_T34 l1 k := rfl
              have hmore := Aside0.mk (AH.run_more (A := A) hlt)
              rw [hrd] at hrow
              generalize rd_T34 l1 k = s at hcells hc7 hr7 hrow hmore
              clear hrd
              cases e1
              obtain ⟨x0, x1, x2, x3, x4, x5, x6, x7, x8, x9, x10⟩ := hcells wr HT.out.ih.bel
              have hst := HT.out.ic.step (by omega) s A7 c7 (Kd.C_below hr7 HT.out.ih.bel) hc7 hrow
              simp only [stepCells] at hst
              clear hr7 hc7 hcells
              go_wp2_with fail
              refine hst.mono ?_
              clear hst x0 x1 x2 x3 x4 x5 x6 x7 x8 x9 x10
              rintro ee w9 ⟨rfl, HI9, hch⟩
              have HT9 := HT.out.stepC HI9 hch
              rw [← hmore.out] at HT9
              generalize hFF : ext Fc wr w9 = F9 at HT9
              replace HT9 := Aside0.mk HT9
              clear hch hFF HI9
              go_wp2
              go_roundw
              case measure => simp [intOf]; omega
              case rel => exact ⟨k + 1, F9, by omega, by go_num, HT9⟩
            · have b1 : decide ((k : Int) < (l1.length : Int)) = false := decide_eq_false (by omega)
              obtain rfl : k = l1.length := by omega
              rw [List.take_length] at HT
              generalize hB0 : A.run l1 = B at HT
              replace hB0 := Aside0.mk hB0
              have ht10 := told_calls HT.out.ic (by omega)
              clear hk hlt
              go_wp2_with fail
              refine ht10.mono ?_
              clear ht10
              rintro ee w10 ⟨v10, Lx, rfl, hLx, hlx, hr10, hB10⟩
              have HT10 := Aside0.mk (HT.out.more hB10 hr10)
              have HLX := Aside0.mk (And.intro hLx hlx)
              obtain ⟨a10, c10, e10⟩ := Kd.R_slice hr10
              subst e10
              clear hLx hlx hr10 hB10 HT
              have ht11 := told_calls HT10.out.ih (by omega)
              go_wp2_with fail
              refine ht11.mono ?_
              clear ht11
              rintro ee w11 ⟨v11, L11, rfl, hL11, hl11, hr11, hB11⟩
              obtain rfl := hL11.one HL0.out.1
              have HT11 := Aside0.mk (HT10.out.below hB11)
              have hal := alike_calls w11 v11 (.slice a8 L11.length c8) L11 hr11 (HT11.out.rows (.slice a8 L11.length c8, L11) (by simp)) hl11 (HL0.out.1.lim HT10.out.ih.lim)
              obtain ⟨a11, c11, e11⟩ := Kd.R_slice hr11
              subst e11
              clear hL11 hl11 hr11 hB11 HT10
              go_wp2_with fail
              refine hal.mono ?_
              clear hal
              rintro ee w12 ⟨rfl, hB12⟩
              have HT12 := Aside0.mk (HT11.out.below hB12)
              clear hB12 HT11
              go_wp2
              go_loopw [11] (fun v11 wr => ∃ (k : Nat) (F : Nat → Prop), k ≤ l1.length ∧ v11 = .int .i64 k ∧ Aside0 (Two w wr h c (A.run (l1.take k)) B F Fc (l.length + k) (l.length + l1.length) [(.slice a8 L11.length c8, L11), (.slice a10 Lx.length c10, Lx)])) (fun v11 _ => l1.length - (intOf v11).toNat)
              case atStart => exact ⟨0, F, Nat.zero_le _, rfl, ⟨by simpa [AH.run] using HT12.out⟩⟩
              case round =>
                clear HT12
                obtain ⟨k, F, hk, rfl, HT⟩ := hrel
                by_cases hlt : k < l1.length
                · have b1 : decide ((k : Int) < (l1.length : Int)) = true := decide_eq_true (by omega)
                  have p0 : (0 : Int) ≤ (k : Int) := by omega
                  have p1 : (k : Int) < (l1.length : Int) := by omega
                  have hrow := HROW1.out k
                  obtain ⟨ad, A7, c7, e1, hc7, hr7, hcells⟩ := stepCellsIn HR1.out k p1
                  have hrd : (l1.getD k zStep) = rd_T34 l1 k := rfl
                  have hmore := Aside0.mk (AH.run_more (A := A) hlt)
                  rw [hrd] at hrow
                  generalize rd_T34 l1 k = s at hcells hc7 hr7 hrow hmore
                  clear hrd
                  cases e1
                  obtain ⟨x0, x1, x2, x3, x4, x5, x6, x7, x8, x9, x10⟩ := hcells wr HT.out.ih.bel
                  have hst := HT.out.ih.step (by omega) s A7 c7 (Kd.C_below hr7 HT.out.ih.bel) hc7 hrow
                  simp only [stepCells] at hst
                  clear hr7 hc7 hcells
                  go_wp2_with fail
                  refine hst.mono ?_
                  clear hst x0 x1 x2 x3 x4 x5 x6 x7 x8 x9 x10
                  rintro ee w9 ⟨rfl, HI9, hch⟩
                  have HT9 := HT.out.stepH HI9 hch
                  rw [← hmore.out] at HT9
                  generalize hFF : ext F wr w9 = F9 at HT9
                  replace HT9 := Aside0.mk HT9
                  clear hch hFF HI9
                  go_wp2
                  go_roundw
                  case measure => simp [intOf]; omega
                  case rel => exact ⟨k + 1, F9, by omega, by go_num, HT9⟩
                · have b1 : decide ((k : Int) < (l1.length : Int)) = false := decide_eq_false (by omega)
                  obtain rfl : k = l1.length := by omega
                  rw [List.take_length, hB0.out] at HT
                  have ht13 := told_calls HT.out.ih (by omega)
                  clear hk hlt
                  go_wp2_with fail
                  refine ht13.mono ?_
                  clear ht13
                  rintro ee w13 ⟨v13, L13, rfl, hL13, hl13, hr13, hB13⟩
                  obtain rfl := hL13.one HLX.out.1
                  have HT13 := Aside0.mk (HT.out.below hB13)
                  have hal := alike_calls w13 v13 (.slice a10 L13.length c10) L13 hr13 (HT13.out.rows (.slice a10 L13.length c10, L13) (by simp)) hl13 (HLX.out.1.lim HT.out.ih.lim)
                  obtain ⟨a13, c13, e13⟩ := Kd.R_slice hr13
                  subst e13
                  clear hL13 hl13 hr13 hB13 HT
                  go_wp2_with fail
                  refine hal.mono ?_
                  clear hal
                  rintro ee w14 ⟨rfl, hB14⟩
                  have HT14 := Aside0.mk (HT13.out.below hB14)
                  have ht15 := told_calls HT14.out.ic (by omega)
                  clear hB14 HT13
                  go_wp2_with fail
                  refine ht15.mono ?_
                  clear ht15
                  rintro ee w15 ⟨v15, L15, rfl, hL15, hl15, hr15, hB15⟩
                  obtain rfl := hL15.one HLX.out.1
                  have HT15 := Aside0.mk (HT14.out.below hB15)
                  have hal := alike_calls w15 v15 (.slice a10 L15.length c10) L15 hr15 (HT15.out.rows (.slice a10 L15.length c10, L15) (by simp)) hl15 (HLX.out.1.lim HT14.out.ih.lim)
                  obtain ⟨a15, c15, e15⟩ := Kd.R_slice hr15
                  subst e15
                  clear hL15 hl15 hr15 hB15 HT14
                  go_wp2_with fail
                  refine hal.mono ?_
                  clear hal
                  rintro ee w16 ⟨rfl, hB16⟩
                  have HT16 := Aside0.mk (HT15.out.below hB16)
                  clear hB16 HT15
                  go_wp2
                  go_ret
                  exact ⟨rfl, HT16.out.ih.bel⟩
end Go.Proofs.Ytljahhgankcalaa

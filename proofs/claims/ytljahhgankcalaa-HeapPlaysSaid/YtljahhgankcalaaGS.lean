import Derived.Test.YtljahhgankcalaaPfM
import Derived.Test.YtljahhgankcalaaGQ
import Derived.BigRegion
import Derived.Deep.CutBlock
import Derived.Deep.RegionHeld3
import Derived.Test.YtljahhgankcalaaHtpM
/-! same: its frame and blocks. Printed by genpi.py. -/
namespace Go.Proofs.Ytljahhgankcalaa
open Go.RowKit Go.Maps Go.MapKept Go.WideMaps Go.Shelf
open Go.Proofs.YtljahhgankcalaaW.PrintWords Go.Proofs.YtljahhgankcalaaW.PrintLast Go.Proofs.YtljahhgankcalaaW.PrintMore
open PHeapThere
set_option linter.unusedVariables false
set_option linter.unusedSimpArgs false

/-- The block n of a piece of code. -/
def pcBlk (n : Nat) : Code → Option Code
  | .block m c => if m = n then some (.block m c) else pcBlk n c
  | .seq a b => match pcBlk n a with
    | some c => some c
    | none => pcBlk n b
  | .cond _ a b => match pcBlk n a with
    | some c => some c
    | none => pcBlk n b
  | .loop c => pcBlk n c
  | .scope c => pcBlk n c
  | _ => none
noncomputable def sblk (n : Nat) : Code := ((Try.f52.body.bind (pcBlk n)).getD .skip)
/-- What a piece of code comes to. -/
def Pc (c : Code) (R : Act → World → Prop) (a : Act) (w : World) : Prop :=
  ∀ (J K' : Act → World → Prop), (∀ a' w', R a' w' → J a' w') → (∀ a' w', Met J a' w' → K' a' w') → c.wp Try.prog (Exit.then K' (fun _ _ _ => False)) a w
theorem Pc.use {c : Code} {R : Act → World → Prop} {a : Act} {w : World} {Q : Exit → Act → World → Prop} (h : Pc c R a w) (rest : ∀ a' w', R a' w' → Q .normal a' w') : c.wp Try.prog Q a w := by
  refine wp_mono (h R R (fun _ _ q => q) (fun _ _ q => q)) ?_
  intro e a' w' hq
  cases e with
  | normal => exact rest _ _ hq
  | exit id => exact hq.elim
  | goto l => exact hq.elim
  | ret => exact hq.elim
  | panic ch => exact hq.elim
  | outgrown => exact hq.elim
theorem arr_tabC {a : Array Value} {n : Nat} (h : a.size = n) : a = ((List.range n).map (fun i => a.getD i undef)).toArray := by
  apply Array.ext
  · simp [h]
  · intro i h1 h2
    simp [h1]
set_option maxRecDepth 100000 in
theorem tab_lit137 (u : Nat → Value) : ((List.range 137).map u).toArray = #[u 0, u 1, u 2, u 3, u 4, u 5, u 6, u 7, u 8, u 9, u 10, u 11, u 12, u 13, u 14, u 15, u 16, u 17, u 18, u 19, u 20, u 21, u 22, u 23, u 24, u 25, u 26, u 27, u 28, u 29, u 30, u 31, u 32, u 33, u 34, u 35, u 36, u 37, u 38, u 39, u 40, u 41, u 42, u 43, u 44, u 45, u 46, u 47, u 48, u 49, u 50, u 51, u 52, u 53, u 54, u 55, u 56, u 57, u 58, u 59, u 60, u 61, u 62, u 63, u 64, u 65, u 66, u 67, u 68, u 69, u 70, u 71, u 72, u 73, u 74, u 75, u 76, u 77, u 78, u 79, u 80, u 81, u 82, u 83, u 84, u 85, u 86, u 87, u 88, u 89, u 90, u 91, u 92, u 93, u 94, u 95, u 96, u 97, u 98, u 99, u 100, u 101, u 102, u 103, u 104, u 105, u 106, u 107, u 108, u 109, u 110, u 111, u 112, u 113, u 114, u 115, u 116, u 117, u 118, u 119, u 120, u 121, u 122, u 123, u 124, u 125, u 126, u 127, u 128, u 129, u 130, u 131, u 132, u 133, u 134, u 135, u 136] := by kernel_rfl
structure FrS (a : Act) (h x : Nat) (v5 v6 v7 v8 v10 v11 v12 v13 : Value) : Prop where
  size : a.tmps.size = 137
  defers : a.defers = []
  e0 : a.tmps.getD 0 undef = .pointer (some ⟨h, 0, none⟩)
  e1 : a.tmps.getD 1 undef = .pointer (some ⟨x, 0, none⟩)
  e5 : a.tmps.getD 5 undef = v5
  e6 : a.tmps.getD 6 undef = v6
  e7 : a.tmps.getD 7 undef = v7
  e8 : a.tmps.getD 8 undef = v8
  e10 : a.tmps.getD 10 undef = v10
  e11 : a.tmps.getD 11 undef = v11
  e12 : a.tmps.getD 12 undef = v12
  e13 : a.tmps.getD 13 undef = v13
set_option maxRecDepth 100000 in
set_option maxHeartbeats 8000000 in
theorem FrS.open {a : Act} {h x : Nat} {v5 v6 v7 v8 v10 v11 v12 v13 : Value} (H : FrS a h x v5 v6 v7 v8 v10 v11 v12 v13) : ∃ u : Nat → Value, (∀ i, u i = a.tmps.getD i undef) ∧ a = { tmps := #[.pointer (some ⟨h, 0, none⟩), .pointer (some ⟨x, 0, none⟩), u 2, u 3, u 4, v5, v6, v7, v8, u 9, v10, v11, v12, v13, u 14, u 15, u 16, u 17, u 18, u 19, u 20, u 21, u 22, u 23, u 24, u 25, u 26, u 27, u 28, u 29, u 30, u 31, u 32, u 33, u 34, u 35, u 36, u 37, u 38, u 39, u 40, u 41, u 42, u 43, u 44, u 45, u 46, u 47, u 48, u 49, u 50, u 51, u 52, u 53, u 54, u 55, u 56, u 57, u 58, u 59, u 60, u 61, u 62, u 63, u 64, u 65, u 66, u 67, u 68, u 69, u 70, u 71, u 72, u 73, u 74, u 75, u 76, u 77, u 78, u 79, u 80, u 81, u 82, u 83, u 84, u 85, u 86, u 87, u 88, u 89, u 90, u 91, u 92, u 93, u 94, u 95, u 96, u 97, u 98, u 99, u 100, u 101, u 102, u 103, u 104, u 105, u 106, u 107, u 108, u 109, u 110, u 111, u 112, u 113, u 114, u 115, u 116, u 117, u 118, u 119, u 120, u 121, u 122, u 123, u 124, u 125, u 126, u 127, u 128, u 129, u 130, u 131, u 132, u 133, u 134, u 135, u 136], defers := [] } := by
  obtain ⟨tmps, defers⟩ := a
  obtain ⟨hs, hd, e0, e1, e5, e6, e7, e8, e10, e11, e12, e13⟩ := H
  have h1 := (arr_tabC hs).trans (tab_lit137 _)
  obtain ⟨u, hu⟩ : ∃ u : Nat → Value, (fun i => tmps.getD i undef) = u := ⟨_, rfl⟩
  have hu' : ∀ i, u i = tmps.getD i undef := fun i => by rw [← hu]
  refine ⟨u, hu', ?_⟩
  dsimp only at hd h1 e0 e1 e5 e6 e7 e8 e10 e11 e12 e13
  simp only [← hu'] at h1 e0 e1 e5 e6 e7 e8 e10 e11 e12 e13
  simp only [e0, e1, e5, e6, e7, e8, e10, e11, e12, e13] at h1
  rw [hd, h1]
/-- A row of numbers, some of which were written over. -/
structure Ovr (w w1 : World) (g n cap : Nat) : Prop where
  blk : ∃ cur, w1.heap[g]? = some (.cells cur 3 (0, 0)) ∧ n ≤ cur.size
  chg : Chg w w1 (fun k => k = g)
theorem Ovr.set {w w1 : World} {g n cap i : Nat} (H : Ovr w w1 g n cap) (v : Value) : Ovr w (w1.setCell ⟨g, i, none⟩ v) g n cap := by
  obtain ⟨cur, h1, h2⟩ := H.blk
  exact ⟨⟨_, blk_set h1 i v, by simpa using h2⟩, H.chg.setCell (.inl rfl) v⟩
section
variable {w : World} {h x g n cap : Nat} {v5 v6 v7 v8 v10 v11 v12 : Value} {a : Act}
set_option maxRecDepth 100000 in
set_option maxHeartbeats 4000000 in
/-- What was handed out is written over. -/
theorem same_over (HF : FrS a h x v5 v6 v7 v8 v10 v11 v12 (.slice (some ⟨g, 0, none⟩) n cap)) (e14 : a.tmps.getD 14 undef = .int .i64 0) (HS : Ovr w w g n cap) (hn : n ≤ 1000000) (hc : n ≤ cap) :
    Pc (sblk 8) (fun a' w' => FrS a' h x v5 v6 v7 v8 v10 v11 v12 (.slice (some ⟨g, 0, none⟩) n cap) ∧ Ovr w w' g n cap) a w := by
  intro J K' hJ hK
  obtain ⟨u, hu, ha⟩ := HF.open
  have u14 := (hu 14).trans e14
  subst ha
  rw [u14]
  clear hu HF e14 u14
  conv => arg 2; whnf
  go_wp2
  refine wp_loop_ghost_k (fun m a' w' => ∃ i : Nat, m + i = n ∧ FrS a' h x v5 v6 v7 v8 v10 v11 v12 (.slice (some ⟨g, 0, none⟩) n cap) ∧ a'.tmps.getD 14 undef = .int .i64 i ∧ Ovr w w' g n cap) n ⟨0, by omega, ⟨rfl, rfl, rfl, rfl, rfl, rfl, rfl, rfl, rfl, rfl, rfl, rfl⟩, rfl, HS⟩ ?_
  clear HS
  rintro gk a' wr ⟨i, hi, HF, e14, HS⟩
  obtain ⟨u, hu, ha⟩ := HF.open
  have u14 := (hu 14).trans e14
  subst ha
  rw [u14]
  clear hu HF e14 u14
  intro J2 K2 hJ2 hK2
  replace hi := Aside0.mk hi
  obtain ⟨cur, hb, hcur⟩ := HS.blk
  have i3 : (n : Int) ≤ (cap : Int) := by omega
  have i4 : (n : Int) ≤ 1000000 := by omega
  by_cases hlt : i < n
  · have d1 : decide (i < n) = true := decide_eq_true hlt
    have d2 : decide ((i : Int) < (n : Int)) = true := decide_eq_true (by omega)
    have i1 : (0 : Int) ≤ (i : Int) := by omega
    have i2 : (i : Int) < (n : Int) := by omega
    have hci : i < cur.size := by omega
    have c0 : wr.cell? ⟨g, i, none⟩ = some cur[i] := (blk_cell hb i).trans (Array.getElem?_eq_getElem hci)
    have f0 := blk_frozen hb i
    have HLT := Aside0.mk hlt
    have HS2 := Aside0.mk (HS.set (i := i) (.int .i64 (-5)))
    clear HS hb hlt
    generalize cur[i] = old at c0
    clear hci hcur
    go_wp2
    exact Handed.intro (gk - 1) (by have := hi.out; have := HLT.out; omega) (hJ2 _ _ _ ⟨i + 1, by have := hi.out; have := HLT.out; omega, ⟨rfl, rfl, rfl, rfl, rfl, rfl, rfl, rfl, rfl, rfl, rfl, rfl⟩, congrArg (Value.int .i64) (by omega), HS2.out⟩)
  · have d1 : decide (i < n) = false := decide_eq_false hlt
    have d2 : decide ((i : Int) < (n : Int)) = false := decide_eq_false (by omega)
    have HS2 := Aside0.mk HS
    clear HS hlt hb
    go_wp2
    exact Met.intro (hJ _ _ ⟨⟨rfl, rfl, rfl, rfl, rfl, rfl, rfl, rfl, rfl, rfl, rfl, rfl⟩, HS2.out⟩)
end
/-- A tuple's row, some values of which were written over. -/
structure OvV (w w1 : World) (Bt g n cap : Nat) (A : Option Addr) : Prop where
  box : ∃ tc, w1.heap[Bt]? = some (.cells tc 39 (0, 0)) ∧ tc[6]? = some (.slice A n cap)
  row : 0 < n → A = some ⟨g, 0, none⟩ ∧ ∃ cur, w1.heap[g]? = some (.cells cur 91 (0, 0)) ∧ n * 4 ≤ cur.size
  chg : Chg w w1 (fun k => k = g)
theorem OvV.set {w w1 : World} {Bt g n cap i : Nat} {A : Option Addr} (H : OvV w w1 Bt g n cap A) (hi : i < n) {l : List Value} (hl : l.length = 4) : OvV w (w1.setCells g (i * 4) l) Bt g n cap A := by
  obtain ⟨tc, b1, b2⟩ := H.box
  obtain ⟨hA, cur, h1, h2⟩ := H.row (by omega)
  obtain ⟨cur', r1, r2, _⟩ := setCells_row l (i * 4) w1 cur h1 (by omega)
  have hc := chg_setCells w1 g (i * 4) l
  have hne : Bt ≠ g := fun e => by
    rw [e, h1] at b1
    simp at b1
  exact ⟨⟨tc, (hc.block Bt (blk_lt b1) hne).trans b1, b2⟩, fun _ => ⟨hA, cur', r1, by rw [r2]; exact h2⟩, H.chg.then_ hc (fun _ _ h => h)⟩
section
variable {w : World} {h x g n cap Bt : Nat} {A : Option Addr} {v5 v6 v8 v10 v11 v12 v13 : Value} {a : Act}
set_option maxRecDepth 100000 in
set_option maxHeartbeats 4000000 in
theorem same_rowover (HF : FrS a h x v5 v6 (.pointer (some ⟨Bt, 0, none⟩)) v8 v10 v11 v12 v13) (e9 : a.tmps.getD 9 undef = .int .i64 0) (HS : OvV w w Bt g n cap A) (hn : n ≤ 1000000) (hc : n ≤ cap) :
    Pc (sblk 2) (fun a' w' => FrS a' h x v5 v6 (.pointer (some ⟨Bt, 0, none⟩)) v8 v10 v11 v12 v13 ∧ OvV w w' Bt g n cap A) a w := by
  intro J K' hJ hK
  obtain ⟨u, hu, ha⟩ := HF.open
  have u9 := (hu 9).trans e9
  subst ha
  rw [u9]
  clear hu HF e9 u9
  conv => arg 2; whnf
  go_wp2
  refine wp_loop_ghost_k (fun m a' w' => ∃ i : Nat, m + i = n ∧ FrS a' h x v5 v6 (.pointer (some ⟨Bt, 0, none⟩)) v8 v10 v11 v12 v13 ∧ a'.tmps.getD 9 undef = .int .i64 i ∧ OvV w w' Bt g n cap A) n ⟨0, by omega, ⟨rfl, rfl, rfl, rfl, rfl, rfl, rfl, rfl, rfl, rfl, rfl, rfl⟩, rfl, HS⟩ ?_
  clear HS
  rintro gk a' wr ⟨i, hi, HF, e9, HS⟩
  obtain ⟨u, hu, ha⟩ := HF.open
  have u9 := (hu 9).trans e9
  subst ha
  rw [u9]
  clear hu HF e9 u9
  intro J2 K2 hJ2 hK2
  replace hi := Aside0.mk hi
  obtain ⟨tc, hb, htc⟩ := HS.box
  have b6 := (blk_cell hb 6).trans htc
  have i3 : (n : Int) ≤ (cap : Int) := by omega
  have i4 : (n : Int) ≤ 1000000 := by omega
  by_cases hlt : i < n
  · have d1 : decide (i < n) = true := decide_eq_true hlt
    have d2 : decide ((i : Int) < (n : Int)) = true := decide_eq_true (by omega)
    have i1 : (0 : Int) ≤ (i : Int) := by omega
    have i2 : (i : Int) < (n : Int) := by omega
    obtain ⟨hA, cur, hg, hcur⟩ := HS.row (by omega)
    have HLT := Aside0.mk hlt
    have HS2 := fun l hl => HS.set (i := i) (l := l) hlt hl
    replace HS2 := Aside0.mk HS2
    have q0 : i * 4 < cur.size := by omega
    have q1 : i * 4 + 1 < cur.size := by omega
    have q2 : i * 4 + 2 < cur.size := by omega
    have q3 : i * 4 + 3 < cur.size := by omega
    have c0 := (blk_cell hg (i * 4)).trans (Array.getElem?_eq_getElem q0)
    have c1 := (blk_cell hg (i * 4 + 1)).trans (Array.getElem?_eq_getElem q1)
    have c2 := (blk_cell hg (i * 4 + 2)).trans (Array.getElem?_eq_getElem q2)
    have c3 := (blk_cell hg (i * 4 + 3)).trans (Array.getElem?_eq_getElem q3)
    have f0 := blk_frozen hg (i * 4)
    have f1 := blk_frozen hg (i * 4 + 1)
    have f2 := blk_frozen hg (i * 4 + 2)
    have f3 := blk_frozen hg (i * 4 + 3)
    generalize cur[i * 4] = o0 at c0
    generalize cur[i * 4 + 1] = o1 at c1
    generalize cur[i * 4 + 2] = o2 at c2
    generalize cur[i * 4 + 3] = o3 at c3
    clear HS hb htc hg hcur hlt q0 q1 q2 q3
    subst hA
    go_wp2
    exact Handed.intro (gk - 1) (by have := hi.out; have := HLT.out; omega) (hJ2 _ _ _ ⟨i + 1, by have := hi.out; have := HLT.out; omega, ⟨rfl, rfl, rfl, rfl, rfl, rfl, rfl, rfl, rfl, rfl, rfl, rfl⟩, congrArg (Value.int .i64) (by omega), HS2.out [.int .u8 99, .int .i64 0, .int .i64 0, .string ⟨#[]⟩] rfl⟩)
  · have d1 : decide (i < n) = false := decide_eq_false hlt
    have d2 : decide ((i : Int) < (n : Int)) = false := decide_eq_false (by omega)
    have HS2 := Aside0.mk HS
    clear HS hlt hb htc
    go_wp2
    exact Met.intro (hJ _ _ ⟨⟨rfl, rfl, rfl, rfl, rfl, rfl, rfl, rfl, rfl, rfl, rfl, rfl⟩, HS2.out⟩)
end
end Go.Proofs.Ytljahhgankcalaa

/-! same: the slots of a row (block 7). -/
namespace Go.Proofs.Ytljahhgankcalaa
open Go.RowKit Go.Maps Go.MapKept Go.WideMaps Go.Shelf
open Go.Proofs.YtljahhgankcalaaW.PrintWords Go.Proofs.YtljahhgankcalaaW.PrintLast Go.Proofs.YtljahhgankcalaaW.PrintMore
open PHeapThere
set_option linter.unusedVariables false
set_option linter.unusedSimpArgs false

theorem ints_same (l : List Int) (hl : l.length < 1000000) : ∃ k, covenantref03_Ints.f k l l = some true := by
  have h : ∀ (n : Nat) (i : Int), 0 ≤ i → i + n = (l.length : Int) → ∃ k, covenantref03_Ints.l0 k l l i = some true := by
    intro n
    induction n with
    | zero => intro i h0 h1; exact ⟨1, by rw [covenantref03_Ints.l0, if_neg (by omega)]⟩
    | succ n ih =>
      intro i h0 h1
      obtain ⟨k, hk⟩ := ih (i + 1) (by omega) (by omega)
      refine ⟨k + 1, ?_⟩
      rw [covenantref03_Ints.l0, if_pos (by omega), if_pos h0, if_pos (by omega), if_pos rfl, wrap64_self (by omega) (by omega)]
      exact hk
  obtain ⟨k, hk⟩ := h l.length 0 (by omega) (by omega)
  exact ⟨k, by unfold covenantref03_Ints.f; rw [if_pos rfl]; exact hk⟩
section
variable {wr : World} {h x gT gI i j nT nI cT cI : Nat} {t id : Int} {S : List Int} {v6 v7 v8 v13 : Value} {a : Act}
set_option maxRecDepth 100000 in
set_option maxHeartbeats 4000000 in
theorem same_slots (HF : FrS a h x (.slice (some ⟨gT, 0, none⟩) nT cT) v6 v7 v8 (.int .i64 i) (.slice (some ⟨gI, 0, none⟩) nI cI) (.int .i64 j) v13) (hi : i < nT) (hj : j < nI) (hcT : nT ≤ cT) (hcI : nI ≤ cI) (hnT : nT ≤ 1000000) (hnI : nI ≤ 1000000) (hS : S.length < 1000000) (hne : 0 < S.length)
    (y0 : wr.cell? ⟨gT, i, none⟩ = some (.int .i64 t)) (y1 : wr.cell? ⟨gI, j, none⟩ = some (.int .i64 id))
    (hsl : ∀ W, Below wr.heap.size wr W → Calls Try.prog 37 #[.pointer (some ⟨h, 0, none⟩), .int .i64 t, .int .i64 id] W fun e w' => ∃ v, e = .returned v ∧ Kd.R kInt 3 w' W.heap.size (fun _ => True) v S ∧ Below W.heap.size W w')
    (hrs : ∀ W, Below wr.heap.size wr W → Calls Try.prog 54 #[.pointer (some ⟨x, 0, none⟩), .int .i64 t, .int .i64 id] W fun e w' => ∃ v, e = .returned v ∧ Kd.R kInt 3 w' W.heap.size (fun _ => True) v S ∧ Below W.heap.size W w') :
    Pc (sblk 7) (fun a' w' => ∃ v13', FrS a' h x (.slice (some ⟨gT, 0, none⟩) nT cT) v6 v7 v8 (.int .i64 i) (.slice (some ⟨gI, 0, none⟩) nI cI) (.int .i64 j) v13' ∧ Below wr.heap.size wr w') a wr := by
  intro J K' hJ hK
  obtain ⟨u, hu, ha⟩ := HF.open
  subst ha
  clear hu HF
  have i1 : (0 : Int) ≤ (i : Int) := by omega
  have i2 : (i : Int) < (nT : Int) := by omega
  have i3 : (nT : Int) ≤ (cT : Int) := by omega
  have i4 : (nT : Int) ≤ 1000000 := by omega
  have j1 : (0 : Int) ≤ (j : Int) := by omega
  have j2 : (j : Int) < (nI : Int) := by omega
  have j3 : (nI : Int) ≤ (cI : Int) := by omega
  have j4 : (nI : Int) ≤ 1000000 := by omega
  obtain ⟨ki, hki⟩ := ints_same S hS
  replace hki := Aside0.mk hki
  replace hsl := Aside0.mk hsl
  replace hrs := Aside0.mk hrs
  have HS := Aside0.mk hS
  have HNE := Aside0.mk hne
  clear hi hj hcT hcI hnT hnI hS hne
  conv => arg 2; whnf
  go_upto_region 23 with (fail)
  go_region_held3 (fun W => W.cell? ⟨gT, i, none⟩ = some (.int .i64 t) ∧ W.cell? ⟨gI, j, none⟩ = some (.int .i64 id)) (go_keep) ((go_at_call 37; refine (hsl.out _ (Below.refl _ _).drew).mono ?_; rintro e w7 ⟨v, rfl, hv, hB⟩; have r0 := (hB.cell (p := ⟨gT, i, none⟩) (World.block_lt_of_cell? wr _ y0)).trans y0; have r1 := (hB.cell (p := ⟨gI, j, none⟩) (World.block_lt_of_cell? wr _ y1)).trans y1; replace hv := Aside0.mk hv; replace hB := Aside0.mk hB))
  have hB7 : Aside0 (Below wr.heap.size wr w7) := ⟨((Below.refl _ wr).drew).trans hB.out⟩
  obtain ⟨g, cap, cur, cc, ev, _, hgb, hgg, hn, hmx, hsz, _, _, _⟩ := R_elem hv.out HNE.out
  subst ev
  replace hgb := Aside0.mk hgb
  replace hgg := Aside0.mk hgg
  replace hn := Aside0.mk hn
  replace hsz := Aside0.mk hsz
  clear hmx
  clear y0 y1
  go_upto_region 24 with (fail)
  go_region_held3 (fun W => W.cell? ⟨gT, i, none⟩ = some (.int .i64 t) ∧ W.cell? ⟨gI, j, none⟩ = some (.int .i64 id)) (go_keep) ((first | (go_at_call 54; refine (hrs.out _ (hB7.out.drew)).mono ?_; rintro e w8 ⟨v2, rfl, hv2, hB2⟩; have s0 := (hB2.cell (p := ⟨gT, i, none⟩) (World.block_lt_of_cell? w7 _ r0)).trans r0; have s1 := (hB2.cell (p := ⟨gI, j, none⟩) (World.block_lt_of_cell? w7 _ r1)).trans r1; obtain ⟨A2, c2, e2⟩ := Kd.R_slice hv2; subst e2; replace hv2 := Aside0.mk hv2; replace hB2 := Aside0.mk hB2) | (go_at_call 45; refine (covenantref03_Ints.calls ki (some ⟨g, 0, none⟩) cap S A2 c2 S true w8 (Kd.C_below (Kd.R_reads' hv.out).2.2 (((Below.refl w7.heap.size w7).drew).trans hB2.out)) (Kd.R_reads' hv.out).2.1 (Kd.R_reads' hv2.out).2.2 (Kd.R_reads' hv2.out).2.1 hki.out).mono ?_; rintro e w9 ⟨rfl, hD⟩; have t0 := (hD.below.cell (p := ⟨gT, i, none⟩) (World.block_lt_of_cell? w8 _ s0)).trans s0; have t1 := (hD.below.cell (p := ⟨gI, j, none⟩) (World.block_lt_of_cell? w8 _ s1)).trans s1; have hB9 := Aside0.mk hD.below; clear hD)))
  have hB79 : Aside0 (Below w7.heap.size w7 w9) := ⟨(((Below.refl w7.heap.size w7).drew).trans hB2.out).trans (hB9.out.mono hB2.out.size)⟩
  have hg9 := (hB79.out.block g (blk_lt hgg.out)).trans hgg.out
  have hO : Aside0 (Ovr w9 w9 g S.length cap) := ⟨⟨⟨cur, hg9, by have h1 := hsz.out; have h2 := hn.out; have h3 : kInt.sz = 1 := rfl; rw [h3] at h1; omega⟩, Chg.refl _ _⟩⟩
  clear hg9 t0 t1 s0 s1 r0 r1
  go_upto_block 8 with (fail)
  refine Pc.use (c := sblk 8) (same_over (g := g) (n := S.length) (cap := cap) (h := h) (x := x) (v5 := .slice (some ⟨gT, 0, none⟩) nT cT) (v6 := v6) (v7 := v7) (v8 := v8) (v10 := .int .i64 i) (v11 := .slice (some ⟨gI, 0, none⟩) nI cI) (v12 := .int .i64 j) ?f1 ?f2 hO.out (by have := HS.out; omega) hn.out) ?rest
  case f1 => exact ⟨rfl, rfl, rfl, rfl, rfl, rfl, rfl, rfl, rfl, rfl, rfl, rfl⟩
  case f2 => rfl
  rintro a' wr' ⟨HF, HS9⟩
  have hfin : Below wr.heap.size wr wr' := (hB7.out.trans (hB79.out.mono hB7.out.size)).trans ((HS9.chg.below (B := wr.heap.size) (by have := hB7.out.size; have := hB79.out.size; omega) (fun k hk => by rw [hk]; exact hgb.out)))
  exact hK _ _ (Met.intro (hJ _ _ ⟨_, HF, hfin⟩))
end
end Go.Proofs.Ytljahhgankcalaa

/-! same: the rows of a table (block 6). -/
namespace Go.Proofs.Ytljahhgankcalaa
open Go.RowKit Go.Maps Go.MapKept Go.WideMaps Go.Shelf
open Go.Proofs.YtljahhgankcalaaW.PrintWords Go.Proofs.YtljahhgankcalaaW.PrintLast Go.Proofs.YtljahhgankcalaaW.PrintMore
open PHeapThere
set_option linter.unusedVariables false
set_option linter.unusedSimpArgs false
section
variable {wr : World} {h x gT gI i nT cT cI : Nat} {t : Int} {I : List Int} {Sf : Int → List Int} {v6 v7 v8 v13 : Value} {a : Act}
set_option maxRecDepth 100000 in
set_option maxHeartbeats 4000000 in
theorem same_ids (HF : FrS a h x (.slice (some ⟨gT, 0, none⟩) nT cT) v6 v7 v8 (.int .i64 i) (.slice (some ⟨gI, 0, none⟩) I.length cI) (.int .i64 0) v13) (hi : i < nT) (hcT : nT ≤ cT) (hcI : I.length ≤ cI) (hnT : nT ≤ 1000000) (hnI : I.length ≤ 1000000) (hSf : ∀ id ∈ I, (Sf id).length < 1000000 ∧ 0 < (Sf id).length)
    (y0 : wr.cell? ⟨gT, i, none⟩ = some (.int .i64 t)) (y1 : ∀ j (hj : j < I.length), wr.cell? ⟨gI, j, none⟩ = some (.int .i64 I[j]))
    (hsl : ∀ id ∈ I, ∀ W, Below wr.heap.size wr W → Calls Try.prog 37 #[.pointer (some ⟨h, 0, none⟩), .int .i64 t, .int .i64 id] W fun e w' => ∃ v, e = .returned v ∧ Kd.R kInt 3 w' W.heap.size (fun _ => True) v (Sf id) ∧ Below W.heap.size W w')
    (hrs : ∀ id ∈ I, ∀ W, Below wr.heap.size wr W → Calls Try.prog 54 #[.pointer (some ⟨x, 0, none⟩), .int .i64 t, .int .i64 id] W fun e w' => ∃ v, e = .returned v ∧ Kd.R kInt 3 w' W.heap.size (fun _ => True) v (Sf id) ∧ Below W.heap.size W w') :
    Pc (sblk 6) (fun a' w' => ∃ v12' v13', FrS a' h x (.slice (some ⟨gT, 0, none⟩) nT cT) v6 v7 v8 (.int .i64 i) (.slice (some ⟨gI, 0, none⟩) I.length cI) v12' v13' ∧ Below wr.heap.size wr w') a wr := by
  intro J K' hJ hK
  obtain ⟨u, hu, ha⟩ := HF.open
  subst ha
  clear hu HF
  conv => arg 2; whnf
  go_wp2
  refine wp_loop_ghost_k (fun m a' w' => ∃ (j : Nat) (v13 : Value), m + j = I.length ∧ FrS a' h x (.slice (some ⟨gT, 0, none⟩) nT cT) v6 v7 v8 (.int .i64 i) (.slice (some ⟨gI, 0, none⟩) I.length cI) (.int .i64 (j : Nat)) v13 ∧ Below wr.heap.size wr w') I.length ⟨0, v13, by omega, ⟨rfl, rfl, rfl, rfl, rfl, rfl, rfl, rfl, rfl, rfl, rfl, rfl⟩, Below.refl _ _⟩ ?_
  rintro gk a' w1 ⟨j, v13, hj, HF, HB⟩
  obtain ⟨u, hu, ha⟩ := HF.open
  subst ha
  clear hu HF
  intro J2 K2 hJ2 hK2
  replace hj := Aside0.mk hj
  replace HB := Aside0.mk HB
  by_cases hlt : j < I.length
  · have d1 : decide (j < I.length) = true := decide_eq_true hlt
    have d2 : decide ((j : Int) < (I.length : Int)) = true := decide_eq_true (by omega)
    have i4 : (I.length : Int) ≤ 1000000 := by omega
    have i2 : (j : Int) < (I.length : Int) := by omega
    have hm := List.getElem_mem hlt
    have z0 := (HB.out.cell (p := ⟨gT, i, none⟩) (World.block_lt_of_cell? wr _ y0)).trans y0
    have z1 := (HB.out.cell (p := ⟨gI, j, none⟩) (World.block_lt_of_cell? wr _ (y1 j hlt))).trans (y1 j hlt)
    have hp2 := Aside0.mk (fun (a2 : Act) (HF2 : FrS a2 h x (.slice (some ⟨gT, 0, none⟩) nT cT) v6 v7 v8 (.int .i64 i) (.slice (some ⟨gI, 0, none⟩) I.length cI) (.int .i64 (j : Nat)) v13) => same_slots (wr := w1) (h := h) (x := x) (gT := gT) (gI := gI) (i := i) (j := j) (nT := nT) (nI := I.length) (cT := cT) (cI := cI) (t := t) (id := I[j]) (S := Sf I[j]) (v6 := v6) (v7 := v7) (v8 := v8) (v13 := v13) (a := a2) HF2 hi hlt hcT hcI hnT hnI (hSf _ hm).1 (hSf _ hm).2 z0 z1 (fun W hW => hsl _ hm W (HB.out.trans (hW.mono HB.out.size))) (fun W hW => hrs _ hm W (HB.out.trans (hW.mono HB.out.size))))
    have HLT := Aside0.mk hlt
    clear z0 z1
    go_upto_block 7 with (fail)
    refine Pc.use (c := sblk 7) (hp2.out _ ?f1) ?rest
    case f1 => exact ⟨rfl, rfl, rfl, rfl, rfl, rfl, rfl, rfl, rfl, rfl, rfl, rfl⟩
    rintro a' w2 ⟨v13', HF, hB2⟩
    obtain ⟨u, hu, ha⟩ := HF.open
    subst ha
    clear hu HF
    have HB2 := Aside0.mk (HB.out.trans (hB2.mono HB.out.size))
    clear hB2
    go_wp2
    exact Handed.intro (gk - 1) (by have := hj.out; have := HLT.out; omega) (hJ2 _ _ _ ⟨j + 1, v13', by have := hj.out; have := HLT.out; omega, ⟨rfl, rfl, rfl, rfl, rfl, rfl, rfl, rfl, rfl, rfl, congrArg (Value.int .i64) (by omega), rfl⟩, HB2.out⟩)
  · have d1 : decide (j < I.length) = false := decide_eq_false hlt
    have d2 : decide ((j : Int) < (I.length : Int)) = false := decide_eq_false (by omega)
    clear hlt
    go_wp2
    exact Met.intro (hJ _ _ ⟨_, _, ⟨rfl, rfl, rfl, rfl, rfl, rfl, rfl, rfl, rfl, rfl, rfl, rfl⟩, HB.out⟩)
end
end Go.Proofs.Ytljahhgankcalaa

/-! same: a table (block 5). -/
namespace Go.Proofs.Ytljahhgankcalaa
open Go.RowKit Go.Maps Go.MapKept Go.WideMaps Go.Shelf
open Go.Proofs.YtljahhgankcalaaW.PrintWords Go.Proofs.YtljahhgankcalaaW.PrintLast Go.Proofs.YtljahhgankcalaaW.PrintMore
open PHeapThere
set_option linter.unusedVariables false
set_option linter.unusedSimpArgs false
section
variable {wr : World} {h x gT i nT cT : Nat} {t : Int} {I : List Int} {Sf : Int → List Int} {v6 v7 v8 v11 v12 v13 : Value} {a : Act}
set_option maxRecDepth 100000 in
set_option maxHeartbeats 4000000 in
theorem same_tab (HF : FrS a h x (.slice (some ⟨gT, 0, none⟩) nT cT) v6 v7 v8 (.int .i64 i) v11 v12 v13) (hi : i < nT) (hcT : nT ≤ cT) (hnT : nT ≤ 1000000) (hnI : I.length < 1000000) (hI0 : 0 < I.length) (hSf : ∀ id ∈ I, (Sf id).length < 1000000 ∧ 0 < (Sf id).length)
    (y0 : wr.cell? ⟨gT, i, none⟩ = some (.int .i64 t))
    (hid : ∀ W, Below wr.heap.size wr W → Calls Try.prog 36 #[.pointer (some ⟨h, 0, none⟩), .int .i64 t] W fun e w' => ∃ v, e = .returned v ∧ Kd.R kInt 3 w' W.heap.size (fun _ => True) v I ∧ Below W.heap.size W w')
    (hrid : ∀ W, Below wr.heap.size wr W → Calls Try.prog 53 #[.pointer (some ⟨x, 0, none⟩), .int .i64 t] W fun e w' => ∃ v, e = .returned v ∧ Kd.R kInt 3 w' W.heap.size (fun _ => True) v I ∧ Below W.heap.size W w')
    (hsl : ∀ id ∈ I, ∀ W, Below wr.heap.size wr W → Calls Try.prog 37 #[.pointer (some ⟨h, 0, none⟩), .int .i64 t, .int .i64 id] W fun e w' => ∃ v, e = .returned v ∧ Kd.R kInt 3 w' W.heap.size (fun _ => True) v (Sf id) ∧ Below W.heap.size W w')
    (hrs : ∀ id ∈ I, ∀ W, Below wr.heap.size wr W → Calls Try.prog 54 #[.pointer (some ⟨x, 0, none⟩), .int .i64 t, .int .i64 id] W fun e w' => ∃ v, e = .returned v ∧ Kd.R kInt 3 w' W.heap.size (fun _ => True) v (Sf id) ∧ Below W.heap.size W w') :
    Pc (sblk 5) (fun a' w' => ∃ v11' v12' v13', FrS a' h x (.slice (some ⟨gT, 0, none⟩) nT cT) v6 v7 v8 (.int .i64 i) v11' v12' v13' ∧ Below wr.heap.size wr w') a wr := by
  intro J K' hJ hK
  obtain ⟨u, hu, ha⟩ := HF.open
  subst ha
  clear hu HF
  have i1 : (0 : Int) ≤ (i : Int) := by omega
  have i2 : (i : Int) < (nT : Int) := by omega
  have i3 : (nT : Int) ≤ (cT : Int) := by omega
  have i4 : (nT : Int) ≤ 1000000 := by omega
  obtain ⟨ki, hki⟩ := ints_same I hnI
  replace hki := Aside0.mk hki
  replace hid := Aside0.mk hid
  replace hrid := Aside0.mk hrid
  replace hsl := Aside0.mk hsl
  replace hrs := Aside0.mk hrs
  have HH := Aside0.mk (And.intro hi (And.intro hcT (And.intro hnT (And.intro hnI (And.intro hI0 hSf)))))
  have Y0 := Aside0.mk y0
  clear hi hcT hnT hnI hI0 hSf
  conv => arg 2; whnf
  go_wp2_with fail
  refine (hid.out _ (Below.refl _ _)).mono ?_
  rintro e w7 ⟨v, rfl, hv, hB⟩
  have r0 := (hB.cell (p := ⟨gT, i, none⟩) (World.block_lt_of_cell? wr _ y0)).trans y0
  obtain ⟨gI, cI, cur, cc, ev, _, hgb, hgg, hn, hmx, hsz, _, _, _⟩ := R_elem hv HH.out.2.2.2.2.1
  subst ev
  have hcell : ∀ j (hj : j < I.length), w7.cell? ⟨gI, j, none⟩ = some (.int .i64 I[j]) := fun j hj => by
    obtain ⟨g2, cap2, h1, h2, h3, h4, _⟩ := int_cells hv hj
    injection h1 with h1
    injection h1 with h1
    injection h1 with h1
    rw [h1]
    exact h4
  replace hv := Aside0.mk hv
  replace hB := Aside0.mk hB
  have HC := Aside0.mk (And.intro hn hcell)
  clear y0 hgb hgg hmx hsz hn hcell
  go_wp2_with fail
  refine (hrid.out _ hB.out).mono ?_
  rintro e w8 ⟨v2, rfl, hv2, hB2⟩
  obtain ⟨A2, c2, e2⟩ := Kd.R_slice hv2
  subst e2
  replace hv2 := Aside0.mk hv2
  replace hB2 := Aside0.mk hB2
  clear r0
  go_wp2_with fail
  refine (covenantref03_Ints.calls ki (some ⟨gI, 0, none⟩) cI I A2 c2 I true w8 (Kd.C_below (Kd.R_reads' hv.out).2.2 hB2.out) (Kd.R_reads' hv.out).2.1 (Kd.R_reads' hv2.out).2.2 (Kd.R_reads' hv2.out).2.1 hki.out).mono ?_
  rintro e w9 ⟨rfl, hD⟩
  have hB79 := Aside0.mk (hB2.out.trans (hD.below.mono hB2.out.size))
  have hB9 := Aside0.mk (hB.out.trans (hB79.out.mono hB.out.size))
  clear hD
  go_upto_block 6 with (fail)
  refine Pc.use (c := sblk 6) (same_ids (wr := w9) (h := h) (x := x) (gT := gT) (gI := gI) (i := i) (nT := nT) (cT := cT) (cI := cI) (t := t) (I := I) (Sf := Sf) (v6 := v6) (v7 := v7) (v8 := v8) (v13 := v13) ?f1 HH.out.1 HH.out.2.1 HC.out.1 HH.out.2.2.1 (Nat.le_of_lt HH.out.2.2.2.1) HH.out.2.2.2.2.2 ((hB9.out.cell (p := ⟨gT, i, none⟩) (World.block_lt_of_cell? wr _ Y0.out)).trans Y0.out) (fun j hj => (hB79.out.cell (p := ⟨gI, j, none⟩) (World.block_lt_of_cell? w7 _ (HC.out.2 j hj))).trans (HC.out.2 j hj))
    (fun id hm W hW => hsl.out id hm W (hB9.out.trans (hW.mono hB9.out.size))) (fun id hm W hW => hrs.out id hm W (hB9.out.trans (hW.mono hB9.out.size)))) ?rest
  case f1 => exact ⟨rfl, rfl, rfl, rfl, rfl, rfl, rfl, rfl, rfl, rfl, rfl, rfl⟩
  rintro a' wr' ⟨v12', v13', HF, hBf⟩
  exact hK _ _ (Met.intro (hJ _ _ ⟨_, _, _, HF, hB9.out.trans (hBf.mono hB9.out.size)⟩))
end
end Go.Proofs.Ytljahhgankcalaa

/-! same: the tables (block 4). -/
namespace Go.Proofs.Ytljahhgankcalaa
open Go.RowKit Go.Maps Go.MapKept Go.WideMaps Go.Shelf
open Go.Proofs.YtljahhgankcalaaW.PrintWords Go.Proofs.YtljahhgankcalaaW.PrintLast Go.Proofs.YtljahhgankcalaaW.PrintMore
open PHeapThere
set_option linter.unusedVariables false
set_option linter.unusedSimpArgs false
section
variable {wr : World} {h x gT cT : Nat} {T : List Int} {If : Int → List Int} {Sf : Int → Int → List Int} {v6 v7 v8 v11 v12 v13 : Value} {a : Act}
set_option maxRecDepth 100000 in
set_option maxHeartbeats 4000000 in
theorem same_tabs (HF : FrS a h x (.slice (some ⟨gT, 0, none⟩) T.length cT) v6 v7 v8 (.int .i64 0) v11 v12 v13) (hcT : T.length ≤ cT) (hnT : T.length ≤ 1000000) (hIf : ∀ t ∈ T, (If t).length < 1000000 ∧ 0 < (If t).length) (hSf : ∀ t ∈ T, ∀ id ∈ If t, (Sf t id).length < 1000000 ∧ 0 < (Sf t id).length)
    (y1 : ∀ j (hj : j < T.length), wr.cell? ⟨gT, j, none⟩ = some (.int .i64 T[j]))
    (hid : ∀ t ∈ T, ∀ W, Below wr.heap.size wr W → Calls Try.prog 36 #[.pointer (some ⟨h, 0, none⟩), .int .i64 t] W fun e w' => ∃ v, e = .returned v ∧ Kd.R kInt 3 w' W.heap.size (fun _ => True) v (If t) ∧ Below W.heap.size W w')
    (hrid : ∀ t ∈ T, ∀ W, Below wr.heap.size wr W → Calls Try.prog 53 #[.pointer (some ⟨x, 0, none⟩), .int .i64 t] W fun e w' => ∃ v, e = .returned v ∧ Kd.R kInt 3 w' W.heap.size (fun _ => True) v (If t) ∧ Below W.heap.size W w')
    (hsl : ∀ t ∈ T, ∀ id ∈ If t, ∀ W, Below wr.heap.size wr W → Calls Try.prog 37 #[.pointer (some ⟨h, 0, none⟩), .int .i64 t, .int .i64 id] W fun e w' => ∃ v, e = .returned v ∧ Kd.R kInt 3 w' W.heap.size (fun _ => True) v (Sf t id) ∧ Below W.heap.size W w')
    (hrs : ∀ t ∈ T, ∀ id ∈ If t, ∀ W, Below wr.heap.size wr W → Calls Try.prog 54 #[.pointer (some ⟨x, 0, none⟩), .int .i64 t, .int .i64 id] W fun e w' => ∃ v, e = .returned v ∧ Kd.R kInt 3 w' W.heap.size (fun _ => True) v (Sf t id) ∧ Below W.heap.size W w') :
    Pc (sblk 4) (fun a' w' => ∃ v10' v11' v12' v13', FrS a' h x (.slice (some ⟨gT, 0, none⟩) T.length cT) v6 v7 v8 v10' v11' v12' v13' ∧ Below wr.heap.size wr w') a wr := by
  intro J K' hJ hK
  obtain ⟨u, hu, ha⟩ := HF.open
  subst ha
  clear hu HF
  conv => arg 2; whnf
  go_wp2
  refine wp_loop_ghost_k (fun m a' w' => ∃ (j : Nat) (v11 v12 v13 : Value), m + j = T.length ∧ FrS a' h x (.slice (some ⟨gT, 0, none⟩) T.length cT) v6 v7 v8 (.int .i64 (j : Nat)) v11 v12 v13 ∧ Below wr.heap.size wr w') T.length ⟨0, v11, v12, v13, by omega, ⟨rfl, rfl, rfl, rfl, rfl, rfl, rfl, rfl, rfl, rfl, rfl, rfl⟩, Below.refl _ _⟩ ?_
  rintro gk a' w1 ⟨j, v11, v12, v13, hj, HF, HB⟩
  obtain ⟨u, hu, ha⟩ := HF.open
  subst ha
  clear hu HF
  intro J2 K2 hJ2 hK2
  replace hj := Aside0.mk hj
  replace HB := Aside0.mk HB
  by_cases hlt : j < T.length
  · have d1 : decide (j < T.length) = true := decide_eq_true hlt
    have d2 : decide ((j : Int) < (T.length : Int)) = true := decide_eq_true (by omega)
    have i4 : (T.length : Int) ≤ 1000000 := by omega
    have i2 : (j : Int) < (T.length : Int) := by omega
    have hm := List.getElem_mem hlt
    have z1 := (HB.out.cell (p := ⟨gT, j, none⟩) (World.block_lt_of_cell? wr _ (y1 j hlt))).trans (y1 j hlt)
    have hp2 := Aside0.mk (fun (a2 : Act) (HF2 : FrS a2 h x (.slice (some ⟨gT, 0, none⟩) T.length cT) v6 v7 v8 (.int .i64 (j : Nat)) v11 v12 v13) => same_tab (wr := w1) (I := If T[j]) (Sf := Sf T[j]) (t := T[j]) (a := a2) HF2 hlt hcT hnT (hIf _ hm).1 (hIf _ hm).2 (hSf _ hm) z1 (fun W hW => hid _ hm W (HB.out.trans (hW.mono HB.out.size))) (fun W hW => hrid _ hm W (HB.out.trans (hW.mono HB.out.size)))
      (fun id hd W hW => hsl _ hm id hd W (HB.out.trans (hW.mono HB.out.size))) (fun id hd W hW => hrs _ hm id hd W (HB.out.trans (hW.mono HB.out.size))))
    have HLT := Aside0.mk hlt
    clear z1
    go_upto_block 5 with (fail)
    refine Pc.use (c := sblk 5) (hp2.out _ ?f1) ?rest
    case f1 => exact ⟨rfl, rfl, rfl, rfl, rfl, rfl, rfl, rfl, rfl, rfl, rfl, rfl⟩
    rintro a' w2 ⟨v11', v12', v13', HF, hB2⟩
    obtain ⟨u, hu, ha⟩ := HF.open
    subst ha
    clear hu HF
    have HB2 := Aside0.mk (HB.out.trans (hB2.mono HB.out.size))
    clear hB2
    go_wp2
    exact Handed.intro (gk - 1) (by have := hj.out; have := HLT.out; omega) (hJ2 _ _ _ ⟨j + 1, v11', v12', v13', by have := hj.out; have := HLT.out; omega, ⟨rfl, rfl, rfl, rfl, rfl, rfl, rfl, rfl, congrArg (Value.int .i64) (by omega), rfl, rfl, rfl⟩, HB2.out⟩)
  · have d1 : decide (j < T.length) = false := decide_eq_false hlt
    have d2 : decide ((j : Int) < (T.length : Int)) = false := decide_eq_false (by omega)
    clear hlt
    go_wp2
    exact Met.intro (hJ _ _ ⟨_, _, _, _, ⟨rfl, rfl, rfl, rfl, rfl, rfl, rfl, rfl, rfl, rfl, rfl, rfl⟩, HB.out⟩)
end
end Go.Proofs.Ytljahhgankcalaa

/-! same: a place of the document's list (block 1). Printed by genpo.py. -/
namespace Go.Proofs.Ytljahhgankcalaa
open Go.RowKit Go.Maps Go.MapKept Go.WideMaps Go.Shelf
open Go.Proofs.YtljahhgankcalaaW.PrintWords Go.Proofs.YtljahhgankcalaaW.PrintLast Go.Proofs.YtljahhgankcalaaW.PrintMore
open PHeapThere
set_option linter.unusedVariables false
set_option linter.unusedSimpArgs false
section
variable {wr : World} {h x gL nL cL i : Nat} {s : Int} {t : ATup} {A6 : Option Addr} {c6 : Nat} {v5 v7 v8 v10 v11 v12 v13 : Value} {a : Act}
set_option maxRecDepth 100000 in
set_option maxHeartbeats 4000000 in
theorem same_place (HF : FrS a h x v5 (.int .i64 i) v7 v8 v10 v11 v12 v13) (hi : i < nL) (hcL : nL ≤ cL) (hnL : nL ≤ 1000000) (hx : t.f6.length ≤ 1000000)
    (ys : wr.cell? ⟨gL, i * 8, none⟩ = some (.int .i64 s)) (y0 : wr.cell? ⟨x, 0, none⟩ = some (.slice (some ⟨gL, 0, none⟩) nL cL)) (y1 : wr.cell? ⟨gL, i * 8 + 1, none⟩ = some (.int .i64 t.f0)) (y2 : wr.cell? ⟨gL, i * 8 + 2, none⟩ = some (.int .i64 t.f1)) (y3 : wr.cell? ⟨gL, i * 8 + 3, none⟩ = some (.int .i64 t.f2)) (y4 : wr.cell? ⟨gL, i * 8 + 4, none⟩ = some (.int .i64 t.f3)) (y5 : wr.cell? ⟨gL, i * 8 + 5, none⟩ = some (.int .i64 t.f4)) (y6 : wr.cell? ⟨gL, i * 8 + 6, none⟩ = some (.int .i64 t.f5)) (y7 : wr.cell? ⟨gL, i * 8 + 7, none⟩ = some (.slice A6 t.f6.length c6))
    (hC : Kd.C kVal wr A6 t.f6.length t.f6) (hc6 : t.f6.length ≤ c6)
    (hat : ∀ W, Below wr.heap.size wr W → Calls Try.prog 17 #[.pointer (some ⟨h, 0, none⟩), .int .i64 s] W fun e w' => ∃ v, e = .returned (.tuple #[.agg #[.int .i64 t.f0, .int .i64 t.f1, .int .i64 t.f2, .int .i64 t.f3, .int .i64 t.f4, .int .i64 t.f5, v], .bool true]) ∧ Kd.R kVal 91 w' W.heap.size (fun _ => True) v t.f6 ∧ Below W.heap.size W w') :
    Pc (sblk 1) (fun a' w' => ∃ v7' v8', FrS a' h x v5 (.int .i64 i) v7' v8' v10 v11 v12 v13 ∧ Below wr.heap.size wr w') a wr := by
  intro J K' hJ hK
  obtain ⟨u, hu, ha⟩ := HF.open
  subst ha
  clear hu HF
  have i1 : (0 : Int) ≤ (i : Int) := by omega
  have i2 : (i : Int) < (nL : Int) := by omega
  have i3 : (nL : Int) ≤ (cL : Int) := by omega
  have i4 : (nL : Int) ≤ 1000000 := by omega
  obtain ⟨ks, hks⟩ := tup_same t (by omega)
  have HX := Aside0.mk hx
  have HCC := Aside0.mk (And.intro hC (And.intro hc6 hks))
  replace hat := Aside0.mk hat
  have hmv : Aside0 (∀ W : World, Below wr.heap.size wr W → (W.cell? ⟨x, 0, none⟩ = some (.slice (some ⟨gL, 0, none⟩) nL cL) ∧ W.cell? ⟨gL, i * 8 + 1, none⟩ = some (.int .i64 t.f0) ∧ W.cell? ⟨gL, i * 8 + 2, none⟩ = some (.int .i64 t.f1) ∧ W.cell? ⟨gL, i * 8 + 3, none⟩ = some (.int .i64 t.f2) ∧ W.cell? ⟨gL, i * 8 + 4, none⟩ = some (.int .i64 t.f3) ∧ W.cell? ⟨gL, i * 8 + 5, none⟩ = some (.int .i64 t.f4) ∧ W.cell? ⟨gL, i * 8 + 6, none⟩ = some (.int .i64 t.f5) ∧ W.cell? ⟨gL, i * 8 + 7, none⟩ = some (.slice A6 t.f6.length c6))) := ⟨fun W hb => by
    have mv : ∀ (q : Addr) (u : Value), wr.cell? q = some u → W.cell? q = some u := fun q u hq => (hb.cell (p := q) (World.block_lt_of_cell? wr q hq)).trans hq
    exact ⟨mv _ _ y0, mv _ _ y1, mv _ _ y2, mv _ _ y3, mv _ _ y4, mv _ _ y5, mv _ _ y6, mv _ _ y7⟩⟩
  clear hi hcL hnL hx hC hc6 hks
  conv => arg 2; whnf
  go_wp2_with fail
  refine (hat.out _ (Below.refl _ _)).mono ?_
  clear hat
  rintro e w7 ⟨v, rfl, hv, hB⟩
  obtain ⟨va, vc, ev⟩ := Kd.R_slice hv
  subst ev
  obtain ⟨ob, hob⟩ : ∃ ob, Obj.cells #[.int .i64 t.f0, .int .i64 t.f1, .int .i64 t.f2, .int .i64 t.f3, .int .i64 t.f4, .int .i64 t.f5, .slice va t.f6.length vc] 39 (0, 0) = ob := ⟨_, rfl⟩
  have hBa : Below wr.heap.size wr (w7.alloc ob) := hB.trans (((Below.refl _ w7).alloc (Nat.le_refl _) ob).mono hB.size)
  have hn7 := heap_alloc_new w7 ob
  have hs7 : w7.heap.size < (w7.alloc ob).heap.size := by simp
  have hvA := Kd.R_below hv ((Below.refl _ w7).alloc (Nat.le_refl _) ob)
  obtain ⟨w8, hw8⟩ : ∃ w8, w7.alloc ob = w8 := ⟨_, rfl⟩
  rw [hw8] at hBa hn7 hs7 hvA
  have hbx : Aside0 (∀ W : World, W.heap[w7.heap.size]? = some ob → (W.cell? ⟨w7.heap.size, 0, none⟩ = some (.int .i64 t.f0) ∧ W.cell? ⟨w7.heap.size, 1, none⟩ = some (.int .i64 t.f1) ∧ W.cell? ⟨w7.heap.size, 2, none⟩ = some (.int .i64 t.f2) ∧ W.cell? ⟨w7.heap.size, 3, none⟩ = some (.int .i64 t.f3) ∧ W.cell? ⟨w7.heap.size, 4, none⟩ = some (.int .i64 t.f4) ∧ W.cell? ⟨w7.heap.size, 5, none⟩ = some (.int .i64 t.f5) ∧ W.cell? ⟨w7.heap.size, 6, none⟩ = some (.slice va t.f6.length vc))) := ⟨fun W h2 => by
    rw [← hob] at h2
    exact ⟨blk_cell h2 0, blk_cell h2 1, blk_cell h2 2, blk_cell h2 3, blk_cell h2 4, blk_cell h2 5, blk_cell h2 6⟩⟩
  obtain ⟨z0, z1, z2, z3, z4, z5, z6, z7⟩ := hmv.out w8 hBa
  obtain ⟨b0, b1, b2, b3, b4, b5, b6⟩ := hbx.out w8 hn7
  have hS7 := Aside0.mk (And.intro hB.size (And.intro hs7 (And.intro hBa (And.intro hn7 hvA))))
  have hsm : Aside0 (∀ W, Below w8.heap.size w8 W → Calls Try.prog 18 #[.agg #[.int .i64 t.f0, .int .i64 t.f1, .int .i64 t.f2, .int .i64 t.f3, .int .i64 t.f4, .int .i64 t.f5, .slice va t.f6.length vc], .agg #[.int .i64 t.f0, .int .i64 t.f1, .int .i64 t.f2, .int .i64 t.f3, .int .i64 t.f4, .int .i64 t.f5, .slice A6 t.f6.length c6]] W fun e w' => e = .returned (.bool true) ∧ Below W.heap.size W w') := ⟨fun W hb => covenantref11_Same.calls ks _ _ _ _ _ _ va vc t.f6 _ _ _ _ _ _ A6 c6 t.f6 true W (Kd.C_below (Kd.R_reads' hvA).2.2 hb) (Kd.R_reads' hvA).2.1 (Kd.C_below HCC.out.1 (hBa.trans (hb.mono hBa.size))) HCC.out.2.1 HCC.out.2.2⟩
  have hOB := Aside0.mk hob
  clear hv hB hBa hn7 hs7 hvA y0 y1 y2 y3 y4 y5 y6 y7 ys
  go_upto_region 8 with (fail)
  clear hob hw8
  go_region_held3 (fun W => (W.cell? ⟨x, 0, none⟩ = some (.slice (some ⟨gL, 0, none⟩) nL cL) ∧ W.cell? ⟨gL, i * 8 + 1, none⟩ = some (.int .i64 t.f0) ∧ W.cell? ⟨gL, i * 8 + 2, none⟩ = some (.int .i64 t.f1) ∧ W.cell? ⟨gL, i * 8 + 3, none⟩ = some (.int .i64 t.f2) ∧ W.cell? ⟨gL, i * 8 + 4, none⟩ = some (.int .i64 t.f3) ∧ W.cell? ⟨gL, i * 8 + 5, none⟩ = some (.int .i64 t.f4) ∧ W.cell? ⟨gL, i * 8 + 6, none⟩ = some (.int .i64 t.f5) ∧ W.cell? ⟨gL, i * 8 + 7, none⟩ = some (.slice A6 t.f6.length c6) ∧ W.cell? ⟨w7.heap.size, 0, none⟩ = some (.int .i64 t.f0) ∧ W.cell? ⟨w7.heap.size, 1, none⟩ = some (.int .i64 t.f1) ∧ W.cell? ⟨w7.heap.size, 2, none⟩ = some (.int .i64 t.f2) ∧ W.cell? ⟨w7.heap.size, 3, none⟩ = some (.int .i64 t.f3) ∧ W.cell? ⟨w7.heap.size, 4, none⟩ = some (.int .i64 t.f4) ∧ W.cell? ⟨w7.heap.size, 5, none⟩ = some (.int .i64 t.f5) ∧ W.cell? ⟨w7.heap.size, 6, none⟩ = some (.slice va t.f6.length vc))) (go_keep) ((go_at_call 18; refine (hsm.out _ (Below.refl _ _).drew).mono ?_; rintro e w9 ⟨rfl, hB⟩; have hBq := ((Below.refl w8.heap.size w8).drew).trans hB; obtain ⟨q0, q1, q2, q3, q4, q5, q6, q7⟩ := hmv.out w9 (hS7.out.2.2.1.trans (hBq.mono hS7.out.2.2.1.size)); obtain ⟨q8, q9, q10, q11, q12, q13, q14⟩ := hbx.out w9 ((hBq.block _ hS7.out.2.1).trans hS7.out.2.2.2.1); replace hB := Aside0.mk hB; clear hBq))
  have hB9 : Aside0 (Below w8.heap.size w8 w9) := ⟨((Below.refl w8.heap.size w8).drew).trans hB.out⟩
  have hbox := (hB9.out.block _ hS7.out.2.1).trans hS7.out.2.2.2.1
  rw [← hOB.out] at hbox
  obtain ⟨g, hg0, hg⟩ : ∃ g, wr.heap.size ≤ g ∧ (0 < t.f6.length → va = some ⟨g, 0, none⟩ ∧ ∃ cur, w9.heap[g]? = some (.cells cur 91 (0, 0)) ∧ t.f6.length * 4 ≤ cur.size) := by
    by_cases hp : 0 < t.f6.length
    · obtain ⟨g, cap, cur, cc, ev, _, hgb, hgg, hn, hmx, hsz, _, _, _⟩ := R_elem (Kd.R_below hS7.out.2.2.2.2 hB9.out) hp
      injection ev with e1 _ e3
      refine ⟨g, Nat.le_trans (by omega) hgb, fun _ => ⟨e1, cur, hgg, ?_⟩⟩
      have h3 : kVal.sz = 4 := rfl
      rw [h3] at hsz
      omega
    · exact ⟨wr.heap.size, Nat.le_refl _, fun h => absurd h hp⟩
  have hO : Aside0 (OvV w9 w9 w7.heap.size g t.f6.length vc va) := ⟨⟨⟨_, hbox, rfl⟩, hg, Chg.refl _ _⟩⟩
  have hvc := (Kd.R_reads' hS7.out.2.2.2.2).2.1
  have HG := Aside0.mk (And.intro hg0 hvc)
  clear hbox hg hg0 hvc z0 z1 z2 z3 z4 z5 z6 z7 b0 b1 b2 b3 b4 b5 b6 q0 q1 q2 q3 q4 q5 q6 q7 q8 q9 q10 q11 q12 q13
  go_upto_block 2 with (fail)
  refine Pc.use (c := sblk 2) (same_rowover (g := g) (n := t.f6.length) (cap := vc) (A := va) (Bt := w7.heap.size) (h := h) (x := x) (v5 := v5) (v6 := .int .i64 i) (v8 := .bool true) (v10 := v10) (v11 := v11) (v12 := v12) (v13 := v13) ?f1 ?f2 hO.out HX.out HG.out.2) ?rest
  case f1 => exact ⟨rfl, rfl, rfl, rfl, rfl, rfl, rfl, rfl, rfl, rfl, rfl, rfl⟩
  case f2 => rfl
  rintro a' wr' ⟨HF, HS9⟩
  have h89 := hS7.out.2.2.1.trans (hB9.out.mono hS7.out.2.2.1.size)
  have hfin : Below wr.heap.size wr wr' := h89.trans (HS9.chg.below (B := wr.heap.size) h89.size (fun k hk => by rw [hk]; exact HG.out.1))
  exact hK _ _ (Met.intro (hJ _ _ ⟨_, _, HF, hfin⟩))
end
end Go.Proofs.Ytljahhgankcalaa

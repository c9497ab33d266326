import Derived.Test.YtljahhgankcalaaGT
import Derived.Test.YtljahhgankcalaaGQ
import Derived.Test.YtljahhgankcalaaHscM
import Derived.Deep.RegionHeld3
import Derived.Test.YtljahhgankcalaaGC
import Derived.Test.YtljahhgankcalaaG5
import Derived.Test.YtljahhgankcalaaOhM
/-! HeapPlays: its frame, its blocks; a step of the document's heap (block 2). Printed by genqa.py. -/
namespace Go.Proofs.Ytljahhgankcalaa
open Go.RowKit Go.Maps Go.MapKept Go.WideMaps Go.Shelf
open Go.Proofs.YtljahhgankcalaaW.PrintWords Go.Proofs.YtljahhgankcalaaW.PrintLast Go.Proofs.YtljahhgankcalaaW.PrintMore
open PHeapThere
set_option linter.unusedVariables false
set_option linter.unusedSimpArgs false
noncomputable def hblk (n : Nat) : Code := ((Try.f11.body.bind (pcBlk n)).getD .skip)
set_option maxRecDepth 100000 in
theorem tab_lit189 (u : Nat → Value) : ((List.range 189).map u).toArray = #[u 0, u 1, u 2, u 3, u 4, u 5, u 6, u 7, u 8, u 9, u 10, u 11, u 12, u 13, u 14, u 15, u 16, u 17, u 18, u 19, u 20, u 21, u 22, u 23, u 24, u 25, u 26, u 27, u 28, u 29, u 30, u 31, u 32, u 33, u 34, u 35, u 36, u 37, u 38, u 39, u 40, u 41, u 42, u 43, u 44, u 45, u 46, u 47, u 48, u 49, u 50, u 51, u 52, u 53, u 54, u 55, u 56, u 57, u 58, u 59, u 60, u 61, u 62, u 63, u 64, u 65, u 66, u 67, u 68, u 69, u 70, u 71, u 72, u 73, u 74, u 75, u 76, u 77, u 78, u 79, u 80, u 81, u 82, u 83, u 84, u 85, u 86, u 87, u 88, u 89, u 90, u 91, u 92, u 93, u 94, u 95, u 96, u 97, u 98, u 99, u 100, u 101, u 102, u 103, u 104, u 105, u 106, u 107, u 108, u 109, u 110, u 111, u 112, u 113, u 114, u 115, u 116, u 117, u 118, u 119, u 120, u 121, u 122, u 123, u 124, u 125, u 126, u 127, u 128, u 129, u 130, u 131, u 132, u 133, u 134, u 135, u 136, u 137, u 138, u 139, u 140, u 141, u 142, u 143, u 144, u 145, u 146, u 147, u 148, u 149, u 150, u 151, u 152, u 153, u 154, u 155, u 156, u 157, u 158, u 159, u 160, u 161, u 162, u 163, u 164, u 165, u 166, u 167, u 168, u 169, u 170, u 171, u 172, u 173, u 174, u 175, u 176, u 177, u 178, u 179, u 180, u 181, u 182, u 183, u 184, u 185, u 186, u 187, u 188] := by kernel_rfl
structure FrH (a : Act) (v0 : Value) (h x : Nat) (v5 v6 v7 v8 v9 : Value) : Prop where
  size : a.tmps.size = 189
  defers : a.defers = []
  e0 : a.tmps.getD 0 undef = v0
  e3 : a.tmps.getD 3 undef = .pointer (some ⟨h, 0, none⟩)
  e4 : a.tmps.getD 4 undef = .pointer (some ⟨x, 0, none⟩)
  e5 : a.tmps.getD 5 undef = v5
  e6 : a.tmps.getD 6 undef = v6
  e7 : a.tmps.getD 7 undef = v7
  e8 : a.tmps.getD 8 undef = v8
  e9 : a.tmps.getD 9 undef = v9
set_option maxRecDepth 100000 in
set_option maxHeartbeats 8000000 in
theorem FrH.open {a : Act} {v0 : Value} {h x : Nat} {v5 v6 v7 v8 v9 : Value} (H : FrH a v0 h x v5 v6 v7 v8 v9) : ∃ u : Nat → Value, (∀ i, u i = a.tmps.getD i undef) ∧ a = { tmps := #[v0, u 1, u 2, .pointer (some ⟨h, 0, none⟩), .pointer (some ⟨x, 0, none⟩), v5, v6, v7, v8, v9, u 10, u 11, u 12, u 13, u 14, u 15, u 16, u 17, u 18, u 19, u 20, u 21, u 22, u 23, u 24, u 25, u 26, u 27, u 28, u 29, u 30, u 31, u 32, u 33, u 34, u 35, u 36, u 37, u 38, u 39, u 40, u 41, u 42, u 43, u 44, u 45, u 46, u 47, u 48, u 49, u 50, u 51, u 52, u 53, u 54, u 55, u 56, u 57, u 58, u 59, u 60, u 61, u 62, u 63, u 64, u 65, u 66, u 67, u 68, u 69, u 70, u 71, u 72, u 73, u 74, u 75, u 76, u 77, u 78, u 79, u 80, u 81, u 82, u 83, u 84, u 85, u 86, u 87, u 88, u 89, u 90, u 91, u 92, u 93, u 94, u 95, u 96, u 97, u 98, u 99, u 100, u 101, u 102, u 103, u 104, u 105, u 106, u 107, u 108, u 109, u 110, u 111, u 112, u 113, u 114, u 115, u 116, u 117, u 118, u 119, u 120, u 121, u 122, u 123, u 124, u 125, u 126, u 127, u 128, u 129, u 130, u 131, u 132, u 133, u 134, u 135, u 136, u 137, u 138, u 139, u 140, u 141, u 142, u 143, u 144, u 145, u 146, u 147, u 148, u 149, u 150, u 151, u 152, u 153, u 154, u 155, u 156, u 157, u 158, u 159, u 160, u 161, u 162, u 163, u 164, u 165, u 166, u 167, u 168, u 169, u 170, u 171, u 172, u 173, u 174, u 175, u 176, u 177, u 178, u 179, u 180, u 181, u 182, u 183, u 184, u 185, u 186, u 187, u 188], defers := [] } := by
  obtain ⟨tmps, defers⟩ := a
  obtain ⟨hs, hd, e0, e3, e4, e5, e6, e7, e8, e9⟩ := H
  have h1 := (arr_tabC hs).trans (tab_lit189 _)
  obtain ⟨u, hu⟩ : ∃ u : Nat → Value, (fun i => tmps.getD i undef) = u := ⟨_, rfl⟩
  have hu' : ∀ i, u i = tmps.getD i undef := fun i => by rw [← hu]
  refine ⟨u, hu', ?_⟩
  dsimp only at hd h1 e0 e3 e4 e5 e6 e7 e8 e9
  simp only [← hu'] at h1 e0 e3 e4 e5 e6 e7 e8 e9
  simp only [e0, e3, e4, e5, e6, e7, e8, e9] at h1
  rw [hd, h1]
/-- The cells of step k. -/
def SCells (W : World) (ad : Addr) (k : Nat) (s : AStep) (A7 : Option Addr) (c7 : Nat) : Prop := W.cell? (ad.add (k * 11)) = some (.int .u8 s.f0) ∧ W.cell? ⟨(ad.add (k * 11)).block, (ad.add (k * 11)).off + 1, none⟩ = some (.int .i64 s.f1.f0) ∧ W.cell? ⟨(ad.add (k * 11)).block, (ad.add (k * 11)).off + 2, none⟩ = some (.int .i64 s.f1.f1) ∧ W.cell? ⟨(ad.add (k * 11)).block, (ad.add (k * 11)).off + 3, none⟩ = some (.int .i64 s.f1.f2) ∧ W.cell? ⟨(ad.add (k * 11)).block, (ad.add (k * 11)).off + 4, none⟩ = some (.int .i64 s.f1.f3) ∧ W.cell? ⟨(ad.add (k * 11)).block, (ad.add (k * 11)).off + 5, none⟩ = some (.int .i64 s.f1.f4) ∧ W.cell? ⟨(ad.add (k * 11)).block, (ad.add (k * 11)).off + 6, none⟩ = some (.int .i64 s.f1.f5) ∧ W.cell? ⟨(ad.add (k * 11)).block, (ad.add (k * 11)).off + 7, none⟩ = some (.slice A7 s.f1.f6.length c7) ∧ W.cell? ⟨(ad.add (k * 11)).block, (ad.add (k * 11)).off + 8, none⟩ = some (.int .i64 s.f2) ∧ W.cell? ⟨(ad.add (k * 11)).block, (ad.add (k * 11)).off + 9, none⟩ = some (.int .i64 s.f3) ∧ W.cell? ⟨(ad.add (k * 11)).block, (ad.add (k * 11)).off + 10, none⟩ = some (.int .i64 s.f4)
section
variable {w wr : World} {h x k n c0 : Nat} {ad : Addr} {A : AH} {R : RH} {F G : Nat → Prop} {s : AStep} {A7 : Option Addr} {c7 : Nat} {v6 v7 : Value} {a : Act}
set_option maxRecDepth 100000 in
set_option maxHeartbeats 4000000 in
/-- The document's heap does a step. -/
theorem play_doc (HF : FrH a (.slice (some ad) n c0) h x (.int .i64 k) v6 v7 (.int .i64 0) (.int .i64 0)) (e37 : a.tmps.getD 37 undef = .int .u8 s.f0) (HM : Mid w wr h x A (A.step s).2.2 R F G k) (hk : k < n) (hn : n ≤ 120) (hc : n ≤ c0)
    (hcl : ∀ W, Below w.heap.size w W → SCells W ad k s A7 c7) (hr : Kd.C kVal wr A7 s.f1.f6.length s.f1.f6) (hx : s.f1.f6.length < 20000) :
    Pc (hblk 2) (fun a' w' => ∃ R' G', FrH a' (.slice (some ad) n c0) h x (.int .i64 k) v6 v7 (.int .i64 (A.step s).1) (.int .i64 (A.step s).2.1) ∧ Dbl w w' h x (A.step s).2.2 R' F G' (k + 1)) a wr := by
  intro J K' hJ hK
  obtain ⟨u, hu, ha⟩ := HF.open
  have u37 := (hu 37).trans e37
  subst ha
  rw [u37]
  clear hu HF e37 u37
  have i1 : (0 : Int) ≤ (k : Int) := by omega
  have i2 : (k : Int) < (n : Int) := by omega
  have i3 : (n : Int) ≤ (c0 : Int) := by omega
  have i4 : (n : Int) ≤ 120 := by omega
  obtain ⟨x0, x1, x2, x3, x4, x5, x6, x7, x8, x9, x10⟩ := hcl wr HM.ih.bel
  replace hcl := Aside0.mk hcl
  have HK := Aside0.mk (show k ≤ 1000 by omega)
  clear hk hn hc
  conv => arg 2; whnf
  by_cases c0 : s.f0 = 0
  · have b0 : (s.f0 == 0) = true := beq_iff_eq.2 c0
    have hp := HM.put (A7 := A7) (c7 := c7) HK.out c0 hr hx
    clear c0 HM hr hx
    go_wp2_with fail
    refine hp.mono ?_
    clear hp
    rintro e w5 ⟨rfl, R', G', HD⟩
    replace HD := Aside0.mk HD
    clear x0 x1 x2 x3 x4 x5 x6 x7 x8 x9 x10
    go_wp2
    exact Met.intro (hJ _ _ ⟨R', G', ⟨rfl, rfl, rfl, rfl, rfl, rfl, rfl, rfl, rfl, rfl⟩, HD.out⟩)
  · have b0 : (s.f0 == 0) = false := beq_eq_false_iff_ne.2 c0
    by_cases c1 : s.f0 = 1
    · have b1 : (s.f0 == 1) = true := beq_iff_eq.2 c1
      have hp := Aside0.mk (fun (W : World) (hB : Below wr.heap.size wr W) => (HM.below hB).kill HK.out c1)
      have hbel := Aside0.mk HM.ih.bel
      clear c0 c1 HM hr hx x0 x1 x2 x3 x4 x5 x6 x7
      go_upto_region 16 with (fail)
      go_region_held3 (fun W => W.cell? ⟨(ad.add (k * 11)).block, (ad.add (k * 11)).off + 8, none⟩ = some (.int .i64 s.f2) ∧ W.cell? ⟨(ad.add (k * 11)).block, (ad.add (k * 11)).off + 9, none⟩ = some (.int .i64 s.f3) ∧ W.cell? ⟨(ad.add (k * 11)).block, (ad.add (k * 11)).off + 10, none⟩ = some (.int .i64 s.f4)) (go_keep) ((go_at_call 48; refine (hp.out _ (Below.refl _ _).drew).mono ?_; rintro e w5 ⟨rfl, he1, R', G', HD⟩; obtain ⟨_, _, _, _, _, _, _, _, q8, q9, q10⟩ := hcl.out w5 HD.ih.bel; replace he1 := Aside0.mk he1; replace HD := Aside0.mk HD))
      clear x8 x9 x10
      go_wp2
      exact Met.intro (hJ _ _ ⟨R', G', ⟨rfl, rfl, rfl, rfl, rfl, rfl, rfl, rfl, by rw [he1.out]; rfl, rfl⟩, HD.out⟩)
    · have b1 : (s.f0 == 1) = false := beq_eq_false_iff_ne.2 c1
      by_cases c2 : s.f0 = 2
      · have b2 : (s.f0 == 2) = true := beq_iff_eq.2 c2
        have hp := HM.free HK.out c2
        clear c0 c1 c2 HM hr hx
        go_wp2_with fail
        refine hp.mono ?_
        clear hp
        rintro e w5 ⟨rfl, he1, R', G', HD⟩
        replace he1 := Aside0.mk he1
        replace HD := Aside0.mk HD
        clear x0 x1 x2 x3 x4 x5 x6 x7 x8 x9 x10
        go_wp2
        exact Met.intro (hJ _ _ ⟨R', G', ⟨rfl, rfl, rfl, rfl, rfl, rfl, rfl, rfl, by rw [he1.out]; rfl, rfl⟩, HD.out⟩)
      · have b2 : (s.f0 == 2) = false := beq_eq_false_iff_ne.2 c2
        have hp := HM.next HK.out c0 c1 c2
        clear c0 c1 c2 HM hr hx
        go_wp2_with fail
        refine hp.mono ?_
        clear hp
        rintro e w5 ⟨rfl, he1, R', G', HD⟩
        replace he1 := Aside0.mk he1
        replace HD := Aside0.mk HD
        clear x0 x1 x2 x3 x4 x5 x6 x7 x8 x9 x10
        go_wp2
        exact Met.intro (hJ _ _ ⟨R', G', ⟨rfl, rfl, rfl, rfl, rfl, rfl, rfl, rfl, rfl, by rw [he1.out]; rfl⟩, HD.out⟩)
end
end Go.Proofs.Ytljahhgankcalaa

/-! HeapPlays: a round (block 1). Printed by genqb.py. -/
namespace Go.Proofs.Ytljahhgankcalaa
open Go.RowKit Go.Maps Go.MapKept Go.WideMaps Go.Shelf
open Go.Proofs.YtljahhgankcalaaW.PrintWords Go.Proofs.YtljahhgankcalaaW.PrintLast Go.Proofs.YtljahhgankcalaaW.PrintMore
open PHeapThere
set_option linter.unusedVariables false
set_option linter.unusedSimpArgs false
theorem step_lim {A : AH} (hl : A.Lim 20000) (s : Int) : (A.at s).f6.length < 3518437208883 := by
  have h1 := hl s.toNat
  have h2 : A.at s = A.slots.getD s.toNat zTup := rfl
  rw [h2]; omega
section
variable {w wr : World} {h x k n c0 : Nat} {ad : Addr} {A : AH} {R : RH} {F G : Nat → Prop} {s : AStep} {A7 : Option Addr} {c7 : Nat} {v6 v7 v8 v9 : Value} {a : Act}
set_option maxRecDepth 100000 in
set_option maxHeartbeats 8000000 in
theorem play_roundY (m1 : Int.tmod (k : Int) 4 = 3) (HF : FrH a (.slice (some ad) n c0) h x (.int .i64 k) v6 v7 v8 v9) (HD : Dbl w wr h x A R F G k) (hk : k < n) (hn : n ≤ 120) (hc : n ≤ c0)
    (hcl : ∀ W, Below w.heap.size w W → SCells W ad k s A7 c7) (hr : Kd.C kVal w A7 s.f1.f6.length s.f1.f6) (hc7 : s.f1.f6.length ≤ c7) (hx : s.f1.f6.length < 20000) (ho : okW (s.f3, s.f4)) :
    Pc (hblk 1) (fun a' w' => ∃ A' R' F' G' v6' v7' v8' v9', FrH a' (.slice (some ad) n c0) h x (.int .i64 k) v6' v7' v8' v9' ∧ Dbl w w' h x A' R' F' G' (k + 1)) a wr := by
  intro J K' hJ hK
  obtain ⟨u, hu, ha⟩ := HF.open
  subst ha
  clear hu HF
  have i1 : (0 : Int) ≤ (k : Int) := by omega
  have i2 : (k : Int) < (n : Int) := by omega
  have i3 : (n : Int) ≤ (c0 : Int) := by omega
  have i4 : (n : Int) ≤ 120 := by omega
  obtain ⟨x0, x1, x2, x3, x4, x5, x6, x7, x8, x9, x10⟩ := hcl wr HD.ih.bel
  have hst := HD.ih.step (by omega) s A7 c7 (Kd.C_below hr HD.ih.bel) hc7 hx
  simp only [stepCells] at hst
  replace hcl := Aside0.mk hcl
  have HK := Aside0.mk (And.intro hk (And.intro hn (And.intro hc (And.intro hr (And.intro hx ho)))))
  replace HD := Aside0.mk HD
  clear hk hn hc hr hc7 hx ho
  conv => arg 2; whnf
  go_wp2_with fail
  refine hst.mono ?_
  clear hst x0 x1 x2 x3 x4 x5 x6 x7 x8 x9 x10
  rintro e w6 ⟨rfl, HI6, hch⟩
  have HM := Aside0.mk (HD.out.mid HI6 hch)
  obtain ⟨x0, x1, x2, x3, x4, x5, x6, x7, x8, x9, x10⟩ := hcl.out w6 HM.out.ih.bel
  clear HI6 hch x1 x2 x3 x4 x5 x6 x7
  go_upto_block 2 with (fail)
  refine Pc.use (c := hblk 2) (play_doc (v6 := .int .i64 (A.step s).1) (v7 := .int .i64 (A.step s).2.1) (c7 := c7) ?f1 ?f2 HM.out HK.out.1 HK.out.2.1 HK.out.2.2.1 hcl.out (Kd.C_below HK.out.2.2.2.1 HM.out.ih.bel) HK.out.2.2.2.2.1) ?rest
  case f1 => exact ⟨rfl, rfl, rfl, rfl, rfl, rfl, rfl, rfl, rfl, rfl⟩
  case f2 => rfl
  clear x0 x8 x9 x10
  rintro a' w7 ⟨R', G', HF, HD7⟩
  obtain ⟨u, hu, ha⟩ := HF.open
  subst ha
  clear hu HF HM HD
  generalize (A.step s).1 = b1 at *
  generalize (A.step s).2.1 = b2 at *
  generalize (A.step s).2.2 = A' at *
  generalize ext F wr w6 = F' at HD7
  have n1 : (b1 != b1) = false := bne_self_eq_false _
  have n2 : (b2 != b2) = false := bne_self_eq_false _
  obtain ⟨x0, x1, x2, x3, x4, x5, x6, x7, x8, x9, x10⟩ := hcl.out w7 HD7.ih.bel
  clear x0 x1 x2 x3 x4 x5 x6 x7
  have hl7 := HD7.ih.len
  have hrl := HD7.rel.len HD7.ih.ok
  have hk0 := HK.out.1
  have hn0 := HK.out.2.1
  have hat := at_calls h s.f2 A' F' w7 HD7.ih.is (step_lim HD7.ih.lim s.f2)
  have hth : decide (0 ≤ R'.find s.f2) = A'.there s.f2 := by
    have h1 := HD7.rel.there s.f2
    cases hb : A'.there s.f2 with
    | true => exact decide_eq_true (h1.2 hb)
    | false => exact decide_eq_false (fun h2 => by rw [h1.1 h2] at hb; cases hb)
  have hrat := Aside0.mk (fun (W : World) (hB : Below w7.heap.size w7 W) => rat_calls x s.f2 R' G' W (HD7.below hB).ix (by omega))
  rw [hth] at hrat
  have n3 : (A'.there s.f2 != A'.there s.f2) = false := by cases A'.there s.f2 <;> rfl
  generalize A'.there s.f2 = tb at hat hrat n3
  replace HD7 := Aside0.mk HD7
  clear hl7 hrl hk0 hn0 hth
  go_wp2_with fail
  refine hat.mono ?_
  clear hat
  rintro e w8 ⟨v, rfl, hv, hB8⟩
  obtain ⟨va, vc, ev⟩ := Kd.R_slice hv
  subst ev
  obtain ⟨t, ht⟩ : ∃ t, A'.atE s.f2 = t := ⟨_, rfl⟩
  rw [ht]
  clear ht hv
  obtain ⟨ob, hob⟩ : ∃ ob, Obj.cells #[.int .i64 t.f0, .int .i64 t.f1, .int .i64 t.f2, .int .i64 t.f3, .int .i64 t.f4, .int .i64 t.f5, .slice va t.f6.length vc] 39 (0, 0) = ob := ⟨_, rfl⟩
  have hBa : Below w7.heap.size w7 (w8.alloc ob) := hB8.trans (((Below.refl _ w8).alloc (Nat.le_refl _) ob).mono hB8.size)
  obtain ⟨w9, hw9⟩ : ∃ w9, w8.alloc ob = w9 := ⟨_, rfl⟩
  rw [hw9] at hBa
  have hra := hrat.out w9 hBa
  obtain ⟨_, _, _, _, _, _, _, _, y8, y9, y10⟩ := hcl.out w9 (HD7.out.ih.bel.trans (hBa.mono HD7.out.ih.bel.size))
  replace hBa := Aside0.mk hBa
  clear hB8 hrat x8 x9 x10
  go_wp2_with fail
  refine hra.mono ?_
  clear hra
  rintro e w10 ⟨t0, t1, t2, t3, t4, t5, t6, m6, c6, rfl, hB10⟩
  obtain ⟨ob2, hob2⟩ : ∃ ob2, Obj.cells #[.int .i64 t0, .int .i64 t1, .int .i64 t2, .int .i64 t3, .int .i64 t4, .int .i64 t5, .slice t6 m6 c6] 32 (0, 0) = ob2 := ⟨_, rfl⟩
  have hBb : Below w9.heap.size w9 (w10.alloc ob2) := hB10.trans (((Below.refl _ w10).alloc (Nat.le_refl _) ob2).mono hB10.size)
  obtain ⟨W0, hW0⟩ : ∃ W0, w10.alloc ob2 = W0 := ⟨_, rfl⟩
  rw [hW0] at hBb
  have HD0 := HD7.out.below (hBa.out.trans (hBb.mono hBa.out.size))
  have hc2 : Aside0 (∀ W, Below W0.heap.size W0 W → (W.cell? ⟨(ad.add (k * 11)).block, (ad.add (k * 11)).off + 9, none⟩ = some (.int .i64 s.f3) ∧ W.cell? ⟨(ad.add (k * 11)).block, (ad.add (k * 11)).off + 10, none⟩ = some (.int .i64 s.f4))) := ⟨fun W hB => by
    obtain ⟨_, _, _, _, _, _, _, _, _, q9, q10⟩ := hcl.out W (HD0.ih.bel.trans (hB.mono HD0.ih.bel.size))
    exact ⟨q9, q10⟩⟩
  obtain ⟨z9, z10⟩ := hc2.out W0 (Below.refl _ _)
  have hl0 := HD0.ih.len
  have hrl0 := HD0.rel.len HD0.ih.ok
  have hk0 := HK.out.1
  have hn0 := HK.out.2.1
  have hIs : A'.IsIDs s.f3 (A'.idsL s.f3) := AH.idsL_is (AH.ids_are HD0.rel (by omega) s.f3)
  have hIl := hIs.len HD0.ih.ok
  have hSl := HD0.ih.ok.rows_len (s.f3, s.f4)
  obtain ⟨ki, hki⟩ := ints_same (A'.idsL s.f3) (by omega)
  obtain ⟨kj, hkj⟩ := ints_same (A'.rows (s.f3, s.f4)) (by omega)
  have hsm : Aside0 (∀ W, Below W0.heap.size W0 W → Calls Try.prog 52 #[.pointer (some ⟨h, 0, none⟩), .pointer (some ⟨x, 0, none⟩)] W fun e w' => e = .returned (.bool true) ∧ Below W.heap.size W w') := ⟨fun W hB => same_calls (HD0.below hB).ih.is (HD0.below hB).ix HD0.ih.ok HD0.rel (by omega) HD0.ih.lim⟩
  have hid : Aside0 (∀ W, Below W0.heap.size W0 W → Calls Try.prog 36 #[.pointer (some ⟨h, 0, none⟩), .int .i64 s.f3] W fun e w' => ∃ v, e = .returned v ∧ Kd.R kInt 3 w' W.heap.size (fun _ => True) v (A'.idsL s.f3) ∧ Below W.heap.size W w') := ⟨fun W hB => by
    refine (ids_of s.f3 (HD0.below hB).ih.is HD0.ih.ok (by omega)).mono ?_
    rintro e w' ⟨v, l, rfl, hv, hl, hB⟩
    obtain rfl := hl.one hIs
    exact ⟨v, rfl, ints_up hv, hB⟩⟩
  have hrid : Aside0 (∀ W, Below W0.heap.size W0 W → Calls Try.prog 53 #[.pointer (some ⟨x, 0, none⟩), .int .i64 s.f3] W fun e w' => ∃ v, e = .returned v ∧ Kd.R kInt 3 w' W.heap.size (fun _ => True) v (A'.idsL s.f3) ∧ Below W.heap.size W w') := ⟨fun W hB => by
    refine (rids_calls x s.f3 R' G' W (HD0.below hB).ix (by omega)).mono ?_
    rintro e w' ⟨v, l, rfl, hv, h1, h2, hB⟩
    obtain rfl := (HD0.rel.ids h1 h2).one hIs
    exact ⟨v, rfl, hv, hB⟩⟩
  have hsl : Aside0 (∀ W, Below W0.heap.size W0 W → Calls Try.prog 37 #[.pointer (some ⟨h, 0, none⟩), .int .i64 s.f3, .int .i64 s.f4] W fun e w' => ∃ v, e = .returned v ∧ Kd.R kInt 3 w' W.heap.size (fun _ => True) v (A'.rows (s.f3, s.f4)) ∧ Below W.heap.size W w') := ⟨fun W hB => slots_calls h s.f3 s.f4 A' F' W (HD0.below hB).ih.is HK.out.2.2.2.2.2 (by omega)⟩
  have hrs : Aside0 (∀ W, Below W0.heap.size W0 W → Calls Try.prog 54 #[.pointer (some ⟨x, 0, none⟩), .int .i64 s.f3, .int .i64 s.f4] W fun e w' => ∃ v, e = .returned v ∧ Kd.R kInt 3 w' W.heap.size (fun _ => True) v (A'.rows (s.f3, s.f4)) ∧ Below W.heap.size W w') := ⟨fun W hB => by
    have h1 := rslots_calls x s.f3 s.f4 R' G' W (HD0.below hB).ix (by omega)
    rw [HD0.rel.rows] at h1
    exact h1⟩
  replace hki := Aside0.mk hki
  replace hkj := Aside0.mk hkj
  replace HD0 := Aside0.mk HD0
  clear hB10 hBb hl0 hrl0 hk0 hn0 hIs hIl hSl y8 y9 y10
  go_upto_region 21 with (fail)
  clear hob hw9 hob2 hW0
  dsimp only [List.append]
  go_region_held3 (fun W => W.cell? ⟨(ad.add (k * 11)).block, (ad.add (k * 11)).off + 9, none⟩ = some (.int .i64 s.f3) ∧ W.cell? ⟨(ad.add (k * 11)).block, (ad.add (k * 11)).off + 10, none⟩ = some (.int .i64 s.f4)) (go_keep) ((first
    | (go_at_call 52; refine (hsm.out _ ((Below.refl W0.heap.size W0).drew)).mono ?_; rintro e W1 ⟨rfl, hb⟩; have hbb1 := Aside0.mk (((Below.refl W0.heap.size W0).drew).trans (hb.mono (Below.size (((Below.refl W0.heap.size W0).drew))))); obtain ⟨q1a, q1b⟩ := hc2.out _ hbb1.out; clear hb)
    | (go_at_call 36; refine (hid.out _ hbb1.out).mono ?_; rintro e W2 ⟨v2, rfl, hv2, hb⟩; have hbb2 := Aside0.mk (hbb1.out.trans (hb.mono (Below.size (hbb1.out)))); obtain ⟨q2a, q2b⟩ := hc2.out _ hbb2.out; clear hb; obtain ⟨A2, c2, e2⟩ := Kd.R_slice hv2; subst e2; replace hv2 := Aside0.mk hv2)
    | (go_at_call 53; refine (hrid.out _ hbb2.out).mono ?_; rintro e W3 ⟨v3, rfl, hv3, hb⟩; have hx3 := Aside0.mk (Kd.C_below (Kd.R_reads' hv2.out).2.2 hb); have hbb3 := Aside0.mk (hbb2.out.trans (hb.mono (Below.size (hbb2.out)))); obtain ⟨q3a, q3b⟩ := hc2.out _ hbb3.out; clear hb; obtain ⟨A3, c3, e3⟩ := Kd.R_slice hv3; subst e3; replace hv3 := Aside0.mk hv3)
    | (go_at_call 37; refine (hsl.out _ hbb4.out).mono ?_; rintro e W5 ⟨v5, rfl, hv5, hb⟩; have hbb5 := Aside0.mk (hbb4.out.trans (hb.mono (Below.size (hbb4.out)))); obtain ⟨q5a, q5b⟩ := hc2.out _ hbb5.out; clear hb; obtain ⟨A5, c5, e5⟩ := Kd.R_slice hv5; subst e5; replace hv5 := Aside0.mk hv5)
    | (go_at_call 54; refine (hrs.out _ hbb5.out).mono ?_; rintro e W6 ⟨v6, rfl, hv6, hb⟩; have hx6 := Aside0.mk (Kd.C_below (Kd.R_reads' hv5.out).2.2 hb); have hbb6 := Aside0.mk (hbb5.out.trans (hb.mono (Below.size (hbb5.out)))); obtain ⟨q6a, q6b⟩ := hc2.out _ hbb6.out; clear hb; obtain ⟨A6, c6, e6⟩ := Kd.R_slice hv6; subst e6; replace hv6 := Aside0.mk hv6)
    | (go_at_call 45; (first | (refine (covenantref03_Ints.calls kj A5 c5 (A'.rows (s.f3, s.f4)) A6 c6 (A'.rows (s.f3, s.f4)) true W6 hx6.out (Kd.R_reads' hv5.out).2.1 (Kd.R_reads' hv6.out).2.2 (Kd.R_reads' hv6.out).2.1 hkj.out).mono ?_; rintro e W7 ⟨rfl, hD⟩; have hb := hD.below; clear hD; have hbb7 := Aside0.mk (hbb6.out.trans (hb.mono (Below.size (hbb6.out)))); obtain ⟨q7a, q7b⟩ := hc2.out _ hbb7.out; clear hb) | (refine (covenantref03_Ints.calls ki A2 c2 (A'.idsL s.f3) A3 c3 (A'.idsL s.f3) true W3 hx3.out (Kd.R_reads' hv2.out).2.1 (Kd.R_reads' hv3.out).2.2 (Kd.R_reads' hv3.out).2.1 hki.out).mono ?_; rintro e W4 ⟨rfl, hD⟩; have hb := hD.below; clear hD; have hbb4 := Aside0.mk (hbb3.out.trans (hb.mono (Below.size (hbb3.out)))); obtain ⟨q4a, q4b⟩ := hc2.out _ hbb4.out; clear hb)))))
  go_wp2
  exact Met.intro (hJ _ _ ⟨_, _, _, _, _, _, _, _, ⟨rfl, rfl, rfl, rfl, rfl, rfl, rfl, rfl, rfl, rfl⟩, HD0.out.below hbb7.out⟩)
end
end Go.Proofs.Ytljahhgankcalaa

/-! HeapPlays: a round (block 1). Printed by genqb.py. -/
namespace Go.Proofs.Ytljahhgankcalaa
open Go.RowKit Go.Maps Go.MapKept Go.WideMaps Go.Shelf
open Go.Proofs.YtljahhgankcalaaW.PrintWords Go.Proofs.YtljahhgankcalaaW.PrintLast Go.Proofs.YtljahhgankcalaaW.PrintMore
open PHeapThere
set_option linter.unusedVariables false
set_option linter.unusedSimpArgs false
section
variable {w wr : World} {h x k n c0 : Nat} {ad : Addr} {A : AH} {R : RH} {F G : Nat → Prop} {s : AStep} {A7 : Option Addr} {c7 : Nat} {v6 v7 v8 v9 : Value} {a : Act}
set_option maxRecDepth 100000 in
set_option maxHeartbeats 8000000 in
theorem play_roundN (m1 : (Int.tmod (k : Int) 4 == 3) = false) (HF : FrH a (.slice (some ad) n c0) h x (.int .i64 k) v6 v7 v8 v9) (HD : Dbl w wr h x A R F G k) (hk : k < n) (hn : n ≤ 120) (hc : n ≤ c0)
    (hcl : ∀ W, Below w.heap.size w W → SCells W ad k s A7 c7) (hr : Kd.C kVal w A7 s.f1.f6.length s.f1.f6) (hc7 : s.f1.f6.length ≤ c7) (hx : s.f1.f6.length < 20000) (ho : okW (s.f3, s.f4)) :
    Pc (hblk 1) (fun a' w' => ∃ A' R' F' G' v6' v7' v8' v9', FrH a' (.slice (some ad) n c0) h x (.int .i64 k) v6' v7' v8' v9' ∧ Dbl w w' h x A' R' F' G' (k + 1)) a wr := by
  intro J K' hJ hK
  obtain ⟨u, hu, ha⟩ := HF.open
  subst ha
  clear hu HF
  have i1 : (0 : Int) ≤ (k : Int) := by omega
  have i2 : (k : Int) < (n : Int) := by omega
  have i3 : (n : Int) ≤ (c0 : Int) := by omega
  have i4 : (n : Int) ≤ 120 := by omega
  obtain ⟨x0, x1, x2, x3, x4, x5, x6, x7, x8, x9, x10⟩ := hcl wr HD.ih.bel
  have hst := HD.ih.step (by omega) s A7 c7 (Kd.C_below hr HD.ih.bel) hc7 hx
  simp only [stepCells] at hst
  replace hcl := Aside0.mk hcl
  have HK := Aside0.mk (And.intro hk (And.intro hn (And.intro hc (And.intro hr (And.intro hx ho)))))
  replace HD := Aside0.mk HD
  clear hk hn hc hr hc7 hx ho
  conv => arg 2; whnf
  go_wp2_with fail
  refine hst.mono ?_
  clear hst x0 x1 x2 x3 x4 x5 x6 x7 x8 x9 x10
  rintro e w6 ⟨rfl, HI6, hch⟩
  have HM := Aside0.mk (HD.out.mid HI6 hch)
  obtain ⟨x0, x1, x2, x3, x4, x5, x6, x7, x8, x9, x10⟩ := hcl.out w6 HM.out.ih.bel
  clear HI6 hch x1 x2 x3 x4 x5 x6 x7
  go_upto_block 2 with (fail)
  refine Pc.use (c := hblk 2) (play_doc (v6 := .int .i64 (A.step s).1) (v7 := .int .i64 (A.step s).2.1) (c7 := c7) ?f1 ?f2 HM.out HK.out.1 HK.out.2.1 HK.out.2.2.1 hcl.out (Kd.C_below HK.out.2.2.2.1 HM.out.ih.bel) HK.out.2.2.2.2.1) ?rest
  case f1 => exact ⟨rfl, rfl, rfl, rfl, rfl, rfl, rfl, rfl, rfl, rfl⟩
  case f2 => rfl
  clear x0 x8 x9 x10
  rintro a' w7 ⟨R', G', HF, HD7⟩
  obtain ⟨u, hu, ha⟩ := HF.open
  subst ha
  clear hu HF HM HD
  generalize (A.step s).1 = b1 at *
  generalize (A.step s).2.1 = b2 at *
  generalize (A.step s).2.2 = A' at *
  generalize ext F wr w6 = F' at HD7
  have n1 : (b1 != b1) = false := bne_self_eq_false _
  have n2 : (b2 != b2) = false := bne_self_eq_false _
  obtain ⟨x0, x1, x2, x3, x4, x5, x6, x7, x8, x9, x10⟩ := hcl.out w7 HD7.ih.bel
  clear x0 x1 x2 x3 x4 x5 x6 x7
  have hl7 := HD7.ih.len
  have hrl := HD7.rel.len HD7.ih.ok
  have hk0 := HK.out.1
  have hn0 := HK.out.2.1
  have hat := at_calls h s.f2 A' F' w7 HD7.ih.is (step_lim HD7.ih.lim s.f2)
  have hth : decide (0 ≤ R'.find s.f2) = A'.there s.f2 := by
    have h1 := HD7.rel.there s.f2
    cases hb : A'.there s.f2 with
    | true => exact decide_eq_true (h1.2 hb)
    | false => exact decide_eq_false (fun h2 => by rw [h1.1 h2] at hb; cases hb)
  have hrat := Aside0.mk (fun (W : World) (hB : Below w7.heap.size w7 W) => rat_calls x s.f2 R' G' W (HD7.below hB).ix (by omega))
  rw [hth] at hrat
  have n3 : (A'.there s.f2 != A'.there s.f2) = false := by cases A'.there s.f2 <;> rfl
  generalize A'.there s.f2 = tb at hat hrat n3
  replace HD7 := Aside0.mk HD7
  clear hl7 hrl hk0 hn0 hth
  go_wp2_with fail
  refine hat.mono ?_
  clear hat
  rintro e w8 ⟨v, rfl, hv, hB8⟩
  obtain ⟨va, vc, ev⟩ := Kd.R_slice hv
  subst ev
  obtain ⟨t, ht⟩ : ∃ t, A'.atE s.f2 = t := ⟨_, rfl⟩
  rw [ht]
  clear ht hv
  obtain ⟨ob, hob⟩ : ∃ ob, Obj.cells #[.int .i64 t.f0, .int .i64 t.f1, .int .i64 t.f2, .int .i64 t.f3, .int .i64 t.f4, .int .i64 t.f5, .slice va t.f6.length vc] 39 (0, 0) = ob := ⟨_, rfl⟩
  have hBa : Below w7.heap.size w7 (w8.alloc ob) := hB8.trans (((Below.refl _ w8).alloc (Nat.le_refl _) ob).mono hB8.size)
  obtain ⟨w9, hw9⟩ : ∃ w9, w8.alloc ob = w9 := ⟨_, rfl⟩
  rw [hw9] at hBa
  have hra := hrat.out w9 hBa
  obtain ⟨_, _, _, _, _, _, _, _, y8, y9, y10⟩ := hcl.out w9 (HD7.out.ih.bel.trans (hBa.mono HD7.out.ih.bel.size))
  replace hBa := Aside0.mk hBa
  clear hB8 hrat x8 x9 x10
  go_wp2_with fail
  refine hra.mono ?_
  clear hra
  rintro e w10 ⟨t0, t1, t2, t3, t4, t5, t6, m6, c6, rfl, hB10⟩
  obtain ⟨ob2, hob2⟩ : ∃ ob2, Obj.cells #[.int .i64 t0, .int .i64 t1, .int .i64 t2, .int .i64 t3, .int .i64 t4, .int .i64 t5, .slice t6 m6 c6] 32 (0, 0) = ob2 := ⟨_, rfl⟩
  have hBb : Below w9.heap.size w9 (w10.alloc ob2) := hB10.trans (((Below.refl _ w10).alloc (Nat.le_refl _) ob2).mono hB10.size)
  obtain ⟨W0, hW0⟩ : ∃ W0, w10.alloc ob2 = W0 := ⟨_, rfl⟩
  rw [hW0] at hBb
  have HD0 := HD7.out.below (hBa.out.trans (hBb.mono hBa.out.size))
  have hc2 : Aside0 (∀ W, Below W0.heap.size W0 W → (W.cell? ⟨(ad.add (k * 11)).block, (ad.add (k * 11)).off + 9, none⟩ = some (.int .i64 s.f3) ∧ W.cell? ⟨(ad.add (k * 11)).block, (ad.add (k * 11)).off + 10, none⟩ = some (.int .i64 s.f4))) := ⟨fun W hB => by
    obtain ⟨_, _, _, _, _, _, _, _, _, q9, q10⟩ := hcl.out W (HD0.ih.bel.trans (hB.mono HD0.ih.bel.size))
    exact ⟨q9, q10⟩⟩
  obtain ⟨z9, z10⟩ := hc2.out W0 (Below.refl _ _)
  have hl0 := HD0.ih.len
  have hrl0 := HD0.rel.len HD0.ih.ok
  have hk0 := HK.out.1
  have hn0 := HK.out.2.1
  have hIs : A'.IsIDs s.f3 (A'.idsL s.f3) := AH.idsL_is (AH.ids_are HD0.rel (by omega) s.f3)
  have hIl := hIs.len HD0.ih.ok
  have hSl := HD0.ih.ok.rows_len (s.f3, s.f4)
  obtain ⟨ki, hki⟩ := ints_same (A'.idsL s.f3) (by omega)
  obtain ⟨kj, hkj⟩ := ints_same (A'.rows (s.f3, s.f4)) (by omega)
  have hsm : Aside0 (∀ W, Below W0.heap.size W0 W → Calls Try.prog 52 #[.pointer (some ⟨h, 0, none⟩), .pointer (some ⟨x, 0, none⟩)] W fun e w' => e = .returned (.bool true) ∧ Below W.heap.size W w') := ⟨fun W hB => same_calls (HD0.below hB).ih.is (HD0.below hB).ix HD0.ih.ok HD0.rel (by omega) HD0.ih.lim⟩
  have hid : Aside0 (∀ W, Below W0.heap.size W0 W → Calls Try.prog 36 #[.pointer (some ⟨h, 0, none⟩), .int .i64 s.f3] W fun e w' => ∃ v, e = .returned v ∧ Kd.R kInt 3 w' W.heap.size (fun _ => True) v (A'.idsL s.f3) ∧ Below W.heap.size W w') := ⟨fun W hB => by
    refine (ids_of s.f3 (HD0.below hB).ih.is HD0.ih.ok (by omega)).mono ?_
    rintro e w' ⟨v, l, rfl, hv, hl, hB⟩
    obtain rfl := hl.one hIs
    exact ⟨v, rfl, ints_up hv, hB⟩⟩
  have hrid : Aside0 (∀ W, Below W0.heap.size W0 W → Calls Try.prog 53 #[.pointer (some ⟨x, 0, none⟩), .int .i64 s.f3] W fun e w' => ∃ v, e = .returned v ∧ Kd.R kInt 3 w' W.heap.size (fun _ => True) v (A'.idsL s.f3) ∧ Below W.heap.size W w') := ⟨fun W hB => by
    refine (rids_calls x s.f3 R' G' W (HD0.below hB).ix (by omega)).mono ?_
    rintro e w' ⟨v, l, rfl, hv, h1, h2, hB⟩
    obtain rfl := (HD0.rel.ids h1 h2).one hIs
    exact ⟨v, rfl, hv, hB⟩⟩
  have hsl : Aside0 (∀ W, Below W0.heap.size W0 W → Calls Try.prog 37 #[.pointer (some ⟨h, 0, none⟩), .int .i64 s.f3, .int .i64 s.f4] W fun e w' => ∃ v, e = .returned v ∧ Kd.R kInt 3 w' W.heap.size (fun _ => True) v (A'.rows (s.f3, s.f4)) ∧ Below W.heap.size W w') := ⟨fun W hB => slots_calls h s.f3 s.f4 A' F' W (HD0.below hB).ih.is HK.out.2.2.2.2.2 (by omega)⟩
  have hrs : Aside0 (∀ W, Below W0.heap.size W0 W → Calls Try.prog 54 #[.pointer (some ⟨x, 0, none⟩), .int .i64 s.f3, .int .i64 s.f4] W fun e w' => ∃ v, e = .returned v ∧ Kd.R kInt 3 w' W.heap.size (fun _ => True) v (A'.rows (s.f3, s.f4)) ∧ Below W.heap.size W w') := ⟨fun W hB => by
    have h1 := rslots_calls x s.f3 s.f4 R' G' W (HD0.below hB).ix (by omega)
    rw [HD0.rel.rows] at h1
    exact h1⟩
  replace hki := Aside0.mk hki
  replace hkj := Aside0.mk hkj
  replace HD0 := Aside0.mk HD0
  clear hB10 hBb hl0 hrl0 hk0 hn0 hIs hIl hSl y8 y9 y10
  go_upto_region 21 with (fail)
  clear hob hw9 hob2 hW0
  dsimp only [List.append]
  refine wp_region_held_drew (S := (fun W => W.cell? ⟨(ad.add (k * 11)).block, (ad.add (k * 11)).off + 9, none⟩ = some (.int .i64 s.f3) ∧ W.cell? ⟨(ad.add (k * 11)).block, (ad.add (k * 11)).off + 10, none⟩ = some (.int .i64 s.f4))) (by kernel_rfl) ?_ (fun hHeld => ?_)
  · go_keep
  refine wpAnyH_take (i := 0) (v := ?_) rfl (by kernel_rfl) (by kernel_rfl) (by kernel_rfl) (fun _ _ _ h => h) (Or.inl ⟨by rfl, ?_⟩) (by assumption) ?_
  rotate_left
  · intro w hSw
    obtain ⟨hS9, hS10⟩ := hSw
    go_simp
    try with_reducible rfl
  try simp only [Act.put, List.getElem_toArray, List.getElem_cons_zero, List.getElem_cons_succ, List.setIfInBounds_toArray, List.set_cons_zero, List.set_cons_succ]
  refine wpAnyH_take (i := 1) (v := ?_) rfl (by kernel_rfl) (by kernel_rfl) (by kernel_rfl) (fun _ _ _ h => h) (Or.inl ⟨by rfl, ?_⟩) (by assumption) ?_
  rotate_left
  · intro w hSw
    obtain ⟨hS9, hS10⟩ := hSw
    go_simp
    try with_reducible rfl
  try simp only [Act.put, List.getElem_toArray, List.getElem_cons_zero, List.getElem_cons_succ, List.setIfInBounds_toArray, List.set_cons_zero, List.set_cons_succ]
  refine wpAnyH_take (i := 2) (v := ?_) rfl (by kernel_rfl) (by kernel_rfl) (by kernel_rfl) (fun _ _ _ h => h) (Or.inl ⟨by rfl, ?_⟩) (by assumption) ?_
  rotate_left
  · intro w hSw
    obtain ⟨hS9, hS10⟩ := hSw
    go_simp
    try with_reducible rfl
  try simp only [Act.put, List.getElem_toArray, List.getElem_cons_zero, List.getElem_cons_succ, List.setIfInBounds_toArray, List.set_cons_zero, List.set_cons_succ]
  refine wpAnyH_take (i := 3) (v := ?_) rfl (by kernel_rfl) (by kernel_rfl) (by kernel_rfl) (fun _ _ _ h => h) (Or.inl ⟨by rfl, ?_⟩) (by assumption) ?_
  rotate_left
  · intro w hSw
    obtain ⟨hS9, hS10⟩ := hSw
    go_simp
    try with_reducible rfl
  try simp only [Act.put, List.getElem_toArray, List.getElem_cons_zero, List.getElem_cons_succ, List.setIfInBounds_toArray, List.set_cons_zero, List.set_cons_succ]
  refine wpAnyH_take (i := 4) (v := ?_) rfl (by kernel_rfl) (by kernel_rfl) (by kernel_rfl) (fun _ _ _ h => h) (Or.inl ⟨by rfl, ?_⟩) (by assumption) ?_
  rotate_left
  · intro w hSw
    obtain ⟨hS9, hS10⟩ := hSw
    go_simp
    try with_reducible rfl
  try simp only [Act.put, List.getElem_toArray, List.getElem_cons_zero, List.getElem_cons_succ, List.setIfInBounds_toArray, List.set_cons_zero, List.set_cons_succ]
  refine wpAnyH_take (i := 5) (v := ?_) rfl (by kernel_rfl) (by kernel_rfl) (by kernel_rfl) (fun _ _ _ h => h) (Or.inl ⟨by rfl, ?_⟩) (by assumption) ?_
  rotate_left
  · intro w hSw
    obtain ⟨hS9, hS10⟩ := hSw
    go_simp
    try with_reducible rfl
  try simp only [Act.put, List.getElem_toArray, List.getElem_cons_zero, List.getElem_cons_succ, List.setIfInBounds_toArray, List.set_cons_zero, List.set_cons_succ]
  refine wpAnyH_take (i := 6) (v := ?_) rfl (by kernel_rfl) (by kernel_rfl) (by kernel_rfl) (fun _ _ _ h => h) (Or.inl ⟨by rfl, ?_⟩) (by assumption) ?_
  rotate_left
  · intro w hSw
    obtain ⟨hS9, hS10⟩ := hSw
    go_simp
    try with_reducible rfl
  try simp only [Act.put, List.getElem_toArray, List.getElem_cons_zero, List.getElem_cons_succ, List.setIfInBounds_toArray, List.set_cons_zero, List.set_cons_succ]
  refine wpAnyH_take (i := 7) (v := ?_) rfl (by kernel_rfl) (by kernel_rfl) (by kernel_rfl) (fun _ _ _ h => h) (Or.inl ⟨by rfl, ?_⟩) (by assumption) ?_
  rotate_left
  · intro w hSw
    obtain ⟨hS9, hS10⟩ := hSw
    go_simp
    try with_reducible rfl
  try simp only [Act.put, List.getElem_toArray, List.getElem_cons_zero, List.getElem_cons_succ, List.setIfInBounds_toArray, List.set_cons_zero, List.set_cons_succ]
  refine wpAnyH_take (i := 8) (v := ?_) rfl (by kernel_rfl) (by kernel_rfl) (by kernel_rfl) (fun _ _ _ h => h) (Or.inl ⟨by rfl, ?_⟩) (by assumption) ?_
  rotate_left
  · intro w hSw
    obtain ⟨hS9, hS10⟩ := hSw
    go_simp
    try with_reducible rfl
  try simp only [Act.put, List.getElem_toArray, List.getElem_cons_zero, List.getElem_cons_succ, List.setIfInBounds_toArray, List.set_cons_zero, List.set_cons_succ]
  refine wpAnyH_take (i := 9) (v := ?_) rfl (by kernel_rfl) (by kernel_rfl) (by kernel_rfl) (fun _ _ _ h => h) (Or.inl ⟨by rfl, ?_⟩) (by assumption) ?_
  rotate_left
  · intro w hSw
    obtain ⟨hS9, hS10⟩ := hSw
    go_simp
    try with_reducible rfl
  try simp only [Act.put, List.getElem_toArray, List.getElem_cons_zero, List.getElem_cons_succ, List.setIfInBounds_toArray, List.set_cons_zero, List.set_cons_succ]
  refine wpAnyH_take (i := 10) (v := ?_) rfl (by kernel_rfl) (by kernel_rfl) (by kernel_rfl) (fun _ _ _ h => h) (Or.inl ⟨by rfl, ?_⟩) (by assumption) ?_
  rotate_left
  · intro w hSw
    obtain ⟨hS9, hS10⟩ := hSw
    go_simp
    try with_reducible rfl
  try simp only [Act.put, List.getElem_toArray, List.getElem_cons_zero, List.getElem_cons_succ, List.setIfInBounds_toArray, List.set_cons_zero, List.set_cons_succ]
  refine wpAnyH_take (i := 11) (v := ?_) rfl (by kernel_rfl) (by kernel_rfl) (by kernel_rfl) (fun _ _ _ h => h) (Or.inl ⟨by rfl, ?_⟩) (by assumption) ?_
  rotate_left
  · intro w hSw
    obtain ⟨hS9, hS10⟩ := hSw
    go_simp
    try with_reducible rfl
  try simp only [Act.put, List.getElem_toArray, List.getElem_cons_zero, List.getElem_cons_succ, List.setIfInBounds_toArray, List.set_cons_zero, List.set_cons_succ]
  refine wpAnyH_take (i := 12) (v := ?_) rfl (by kernel_rfl) (by kernel_rfl) (by kernel_rfl) (fun _ _ _ h => h) (Or.inl ⟨by rfl, ?_⟩) (by assumption) ?_
  rotate_left
  · intro w hSw
    obtain ⟨hS9, hS10⟩ := hSw
    go_simp
    try with_reducible rfl
  try simp only [Act.put, List.getElem_toArray, List.getElem_cons_zero, List.getElem_cons_succ, List.setIfInBounds_toArray, List.set_cons_zero, List.set_cons_succ]
  refine wpAnyH_take (i := 13) (v := ?_) rfl (by kernel_rfl) (by kernel_rfl) (by kernel_rfl) (fun _ _ _ h => h) (Or.inl ⟨by rfl, ?_⟩) (by assumption) ?_
  rotate_left
  · intro w hSw
    obtain ⟨hS9, hS10⟩ := hSw
    go_simp
    try with_reducible rfl
  try simp only [Act.put, List.getElem_toArray, List.getElem_cons_zero, List.getElem_cons_succ, List.setIfInBounds_toArray, List.set_cons_zero, List.set_cons_succ]
  refine wpAnyH_take (i := 14) (v := ?_) rfl (by kernel_rfl) (by kernel_rfl) (by kernel_rfl) (fun _ _ _ h => h) (Or.inl ⟨by rfl, ?_⟩) (by assumption) ?_
  rotate_left
  · intro w hSw
    obtain ⟨hS9, hS10⟩ := hSw
    go_simp
    try with_reducible rfl
  try simp only [Act.put, List.getElem_toArray, List.getElem_cons_zero, List.getElem_cons_succ, List.setIfInBounds_toArray, List.set_cons_zero, List.set_cons_succ]
  refine wpAnyH_take (i := 15) (v := ?_) rfl (by kernel_rfl) (by kernel_rfl) (by kernel_rfl) (fun _ _ _ h => h) (Or.inl ⟨by rfl, ?_⟩) (by assumption) ?_
  rotate_left
  · intro w hSw
    obtain ⟨hS9, hS10⟩ := hSw
    go_simp
    try with_reducible rfl
  try simp only [Act.put, List.getElem_toArray, List.getElem_cons_zero, List.getElem_cons_succ, List.setIfInBounds_toArray, List.set_cons_zero, List.set_cons_succ]
  refine wpAnyH_take (i := 16) (v := ?_) rfl (by kernel_rfl) (by kernel_rfl) (by kernel_rfl) (fun _ _ _ h => h) (Or.inl ⟨by rfl, ?_⟩) (by assumption) ?_
  rotate_left
  · intro w hSw
    obtain ⟨hS9, hS10⟩ := hSw
    go_simp
    try with_reducible rfl
  try simp only [Act.put, List.getElem_toArray, List.getElem_cons_zero, List.getElem_cons_succ, List.setIfInBounds_toArray, List.set_cons_zero, List.set_cons_succ]
  refine wpAnyH_take (i := 17) (v := ?_) rfl (by kernel_rfl) (by kernel_rfl) (by kernel_rfl) (fun _ _ _ h => h) (Or.inl ⟨by rfl, ?_⟩) (by assumption) ?_
  rotate_left
  · intro w hSw
    obtain ⟨hS9, hS10⟩ := hSw
    go_simp
    try with_reducible rfl
  try simp only [Act.put, List.getElem_toArray, List.getElem_cons_zero, List.getElem_cons_succ, List.setIfInBounds_toArray, List.set_cons_zero, List.set_cons_succ]
  refine wpAnyH_take (i := 18) (v := _) rfl (by kernel_rfl) (by kernel_rfl) (by kernel_rfl) (fun _ _ _ h => h) (Or.inr ⟨by rfl, rfl⟩) (by assumption) ?_
  try simp only [Act.put, List.getElem_toArray, List.getElem_cons_zero, List.getElem_cons_succ, List.setIfInBounds_toArray, List.set_cons_zero, List.set_cons_succ]
  refine wpAnyH_take (i := 19) (v := _) rfl (by kernel_rfl) (by kernel_rfl) (by kernel_rfl) (fun _ _ _ h => h) (Or.inr ⟨by rfl, rfl⟩) (by assumption) ?_
  try simp only [Act.put, List.getElem_toArray, List.getElem_cons_zero, List.getElem_cons_succ, List.setIfInBounds_toArray, List.set_cons_zero, List.set_cons_succ]
  refine wpAnyH_take (i := 20) (v := _) rfl (by kernel_rfl) (by kernel_rfl) (by kernel_rfl) (fun _ _ _ h => h) (Or.inr ⟨by rfl, rfl⟩) (by assumption) ?_
  try simp only [Act.put, List.getElem_toArray, List.getElem_cons_zero, List.getElem_cons_succ, List.setIfInBounds_toArray, List.set_cons_zero, List.set_cons_succ]
  refine wpAnyH_take (i := 21) (v := _) rfl (by kernel_rfl) (by kernel_rfl) (by kernel_rfl) (fun _ _ _ h => h) (Or.inr ⟨by rfl, rfl⟩) (by assumption) ?_
  try simp only [Act.put, List.getElem_toArray, List.getElem_cons_zero, List.getElem_cons_succ, List.setIfInBounds_toArray, List.set_cons_zero, List.set_cons_succ]
  refine wpAnyH_take (i := 22) (v := ?_) rfl (by kernel_rfl) (by kernel_rfl) (by kernel_rfl) (fun _ _ _ h => h) (Or.inl ⟨by rfl, ?_⟩) (by assumption) ?_
  rotate_left
  · intro w hSw
    obtain ⟨hS9, hS10⟩ := hSw
    go_simp
    try with_reducible rfl
  try simp only [Act.put, List.getElem_toArray, List.getElem_cons_zero, List.getElem_cons_succ, List.setIfInBounds_toArray, List.set_cons_zero, List.set_cons_succ]
  refine wpAnyH_take (i := 23) (v := ?_) rfl (by kernel_rfl) (by kernel_rfl) (by kernel_rfl) (fun _ _ _ h => h) (Or.inl ⟨by rfl, ?_⟩) (by assumption) ?_
  rotate_left
  · intro w hSw
    obtain ⟨hS9, hS10⟩ := hSw
    go_simp
    try with_reducible rfl
  try simp only [Act.put, List.getElem_toArray, List.getElem_cons_zero, List.getElem_cons_succ, List.setIfInBounds_toArray, List.set_cons_zero, List.set_cons_succ]
  refine wpAnyH_take (i := 24) (v := ?_) rfl (by kernel_rfl) (by kernel_rfl) (by kernel_rfl) (fun _ _ _ h => h) (Or.inl ⟨by rfl, ?_⟩) (by assumption) ?_
  rotate_left
  · intro w hSw
    obtain ⟨hS9, hS10⟩ := hSw
    go_simp
    try with_reducible rfl
  try simp only [Act.put, List.getElem_toArray, List.getElem_cons_zero, List.getElem_cons_succ, List.setIfInBounds_toArray, List.set_cons_zero, List.set_cons_succ]
  refine wpAnyH_take (i := 25) (v := ?_) rfl (by kernel_rfl) (by kernel_rfl) (by kernel_rfl) (fun _ _ _ h => h) (Or.inl ⟨by rfl, ?_⟩) (by assumption) ?_
  rotate_left
  · intro w hSw
    obtain ⟨hS9, hS10⟩ := hSw
    go_simp
    try with_reducible rfl
  try simp only [Act.put, List.getElem_toArray, List.getElem_cons_zero, List.getElem_cons_succ, List.setIfInBounds_toArray, List.set_cons_zero, List.set_cons_succ]
  refine wpAnyH_take (i := 26) (v := ?_) rfl (by kernel_rfl) (by kernel_rfl) (by kernel_rfl) (fun _ _ _ h => h) (Or.inl ⟨by rfl, ?_⟩) (by assumption) ?_
  rotate_left
  · intro w hSw
    obtain ⟨hS9, hS10⟩ := hSw
    go_simp
    try with_reducible rfl
  try simp only [Act.put, List.getElem_toArray, List.getElem_cons_zero, List.getElem_cons_succ, List.setIfInBounds_toArray, List.set_cons_zero, List.set_cons_succ]
  refine wpAnyH_take (i := 27) (v := ?_) rfl (by kernel_rfl) (by kernel_rfl) (by kernel_rfl) (fun _ _ _ h => h) (Or.inl ⟨by rfl, ?_⟩) (by assumption) ?_
  rotate_left
  · intro w hSw
    obtain ⟨hS9, hS10⟩ := hSw
    go_simp
    try with_reducible rfl
  try simp only [Act.put, List.getElem_toArray, List.getElem_cons_zero, List.getElem_cons_succ, List.setIfInBounds_toArray, List.set_cons_zero, List.set_cons_succ]
  refine wpAnyH_take (i := 28) (v := ?_) rfl (by kernel_rfl) (by kernel_rfl) (by kernel_rfl) (fun _ _ _ h => h) (Or.inl ⟨by rfl, ?_⟩) (by assumption) ?_
  rotate_left
  · intro w hSw
    obtain ⟨hS9, hS10⟩ := hSw
    go_simp
    try with_reducible rfl
  try simp only [Act.put, List.getElem_toArray, List.getElem_cons_zero, List.getElem_cons_succ, List.setIfInBounds_toArray, List.set_cons_zero, List.set_cons_succ]
  refine wpAnyH_take (i := 29) (v := ?_) rfl (by kernel_rfl) (by kernel_rfl) (by kernel_rfl) (fun _ _ _ h => h) (Or.inl ⟨by rfl, ?_⟩) (by assumption) ?_
  rotate_left
  · intro w hSw
    obtain ⟨hS9, hS10⟩ := hSw
    go_simp
    try with_reducible rfl
  try simp only [Act.put, List.getElem_toArray, List.getElem_cons_zero, List.getElem_cons_succ, List.setIfInBounds_toArray, List.set_cons_zero, List.set_cons_succ]
  refine wpAnyH_take (i := 30) (v := ?_) rfl (by kernel_rfl) (by kernel_rfl) (by kernel_rfl) (fun _ _ _ h => h) (Or.inl ⟨by rfl, ?_⟩) (by assumption) ?_
  rotate_left
  · intro w hSw
    obtain ⟨hS9, hS10⟩ := hSw
    go_simp
    try with_reducible rfl
  try simp only [Act.put, List.getElem_toArray, List.getElem_cons_zero, List.getElem_cons_succ, List.setIfInBounds_toArray, List.set_cons_zero, List.set_cons_succ]
  refine wpAnyH_take (i := 32) (v := ?_) rfl (by kernel_rfl) (by kernel_rfl) (by kernel_rfl) (fun _ _ _ h => h) (Or.inl ⟨by rfl, ?_⟩) (by assumption) ?_
  rotate_left
  · intro w hSw
    obtain ⟨hS9, hS10⟩ := hSw
    go_simp
    try with_reducible rfl
  try simp only [Act.put, List.getElem_toArray, List.getElem_cons_zero, List.getElem_cons_succ, List.setIfInBounds_toArray, List.set_cons_zero, List.set_cons_succ]
  refine wpAnyH_take (i := 33) (v := ?_) rfl (by kernel_rfl) (by kernel_rfl) (by kernel_rfl) (fun _ _ _ h => h) (Or.inl ⟨by rfl, ?_⟩) (by assumption) ?_
  rotate_left
  · intro w hSw
    obtain ⟨hS9, hS10⟩ := hSw
    go_simp
    try with_reducible rfl
  try simp only [Act.put, List.getElem_toArray, List.getElem_cons_zero, List.getElem_cons_succ, List.setIfInBounds_toArray, List.set_cons_zero, List.set_cons_succ]
  refine wpAnyH_take (i := 34) (v := ?_) rfl (by kernel_rfl) (by kernel_rfl) (by kernel_rfl) (fun _ _ _ h => h) (Or.inl ⟨by rfl, ?_⟩) (by assumption) ?_
  rotate_left
  · intro w hSw
    obtain ⟨hS9, hS10⟩ := hSw
    go_simp
    try with_reducible rfl
  try simp only [Act.put, List.getElem_toArray, List.getElem_cons_zero, List.getElem_cons_succ, List.setIfInBounds_toArray, List.set_cons_zero, List.set_cons_succ]
  refine wpAnyH_take (i := 35) (v := ?_) rfl (by kernel_rfl) (by kernel_rfl) (by kernel_rfl) (fun _ _ _ h => h) (Or.inl ⟨by rfl, ?_⟩) (by assumption) ?_
  rotate_left
  · intro w hSw
    obtain ⟨hS9, hS10⟩ := hSw
    go_simp
    try with_reducible rfl
  try simp only [Act.put, List.getElem_toArray, List.getElem_cons_zero, List.getElem_cons_succ, List.setIfInBounds_toArray, List.set_cons_zero, List.set_cons_succ]
  refine wpAnyH_take (i := 36) (v := ?_) rfl (by kernel_rfl) (by kernel_rfl) (by kernel_rfl) (fun _ _ _ h => h) (Or.inl ⟨by rfl, ?_⟩) (by assumption) ?_
  rotate_left
  · intro w hSw
    obtain ⟨hS9, hS10⟩ := hSw
    go_simp
    try with_reducible rfl
  try simp only [Act.put, List.getElem_toArray, List.getElem_cons_zero, List.getElem_cons_succ, List.setIfInBounds_toArray, List.set_cons_zero, List.set_cons_succ]
  refine wpAnyH_take (i := 37) (v := ?_) rfl (by kernel_rfl) (by kernel_rfl) (by kernel_rfl) (fun _ _ _ h => h) (Or.inl ⟨by rfl, ?_⟩) (by assumption) ?_
  rotate_left
  · intro w hSw
    obtain ⟨hS9, hS10⟩ := hSw
    go_simp
    try with_reducible rfl
  try simp only [Act.put, List.getElem_toArray, List.getElem_cons_zero, List.getElem_cons_succ, List.setIfInBounds_toArray, List.set_cons_zero, List.set_cons_succ]
  refine wpAnyH_ready (rs := [31]) (by kernel_rfl) (by simp) ?_
  refine AllReadyH.cons rfl (fun K hK => ?_) AllReadyH.nil
  go_simp
  refine (hid.out _ ((Below.refl W0.heap.size W0).drew)).mono ?_; rintro e W2 ⟨v2, rfl, hv2, hb⟩; have hbb2 := Aside0.mk (((Below.refl W0.heap.size W0).drew).trans (hb.mono (Below.size (((Below.refl W0.heap.size W0).drew))))); obtain ⟨q2a, q2b⟩ := hc2.out _ hbb2.out; clear hb; obtain ⟨A2, c2, e2⟩ := Kd.R_slice hv2; subst e2; replace hv2 := Aside0.mk hv2
  refine hK.out _ _ ?_ (fun hHeld => ?_)
  · go_keep
  clear hK K
  try simp only [Act.put, List.getElem_toArray, List.getElem_cons_zero, List.getElem_cons_succ, List.setIfInBounds_toArray, List.set_cons_zero, List.set_cons_succ]
  refine wpAnyH_ready (rs := [38]) (by kernel_rfl) (by simp) ?_
  refine AllReadyH.cons rfl (fun K hK => ?_) AllReadyH.nil
  go_simp
  refine (hrid.out _ hbb2.out).mono ?_; rintro e W3 ⟨v3, rfl, hv3, hb⟩; have hx3 := Aside0.mk (Kd.C_below (Kd.R_reads' hv2.out).2.2 hb); have hbb3 := Aside0.mk (hbb2.out.trans (hb.mono (Below.size (hbb2.out)))); obtain ⟨q3a, q3b⟩ := hc2.out _ hbb3.out; clear hb; obtain ⟨A3, c3, e3⟩ := Kd.R_slice hv3; subst e3; replace hv3 := Aside0.mk hv3
  refine hK.out _ _ ?_ (fun hHeld => ?_)
  · go_keep
  clear hK K
  try simp only [Act.put, List.getElem_toArray, List.getElem_cons_zero, List.getElem_cons_succ, List.setIfInBounds_toArray, List.set_cons_zero, List.set_cons_succ]
  refine wpAnyH_ready (rs := [39]) (by kernel_rfl) (by simp) ?_
  refine AllReadyH.cons rfl (fun K hK => ?_) AllReadyH.nil
  go_simp
  refine (covenantref03_Ints.calls ki A2 c2 (A'.idsL s.f3) A3 c3 (A'.idsL s.f3) true W3 hx3.out (Kd.R_reads' hv2.out).2.1 (Kd.R_reads' hv3.out).2.2 (Kd.R_reads' hv3.out).2.1 hki.out).mono ?_; rintro e W4 ⟨rfl, hD⟩; have hb := hD.below; clear hD; have hbb4 := Aside0.mk (hbb3.out.trans (hb.mono (Below.size (hbb3.out)))); obtain ⟨q4a, q4b⟩ := hc2.out _ hbb4.out; clear hb
  refine hK.out _ _ ?_ (fun hHeld => ?_)
  · go_keep
  clear hK K
  try simp only [Act.put, List.getElem_toArray, List.getElem_cons_zero, List.getElem_cons_succ, List.setIfInBounds_toArray, List.set_cons_zero, List.set_cons_succ]
  refine wpAnyH_take (i := 40) (v := ?_) rfl (by kernel_rfl) (by kernel_rfl) (by kernel_rfl) (fun _ _ _ h => h) (Or.inl ⟨by rfl, ?_⟩) (by assumption) ?_
  rotate_left
  · intro w hSw
    obtain ⟨hS9, hS10⟩ := hSw
    go_simp
    try with_reducible rfl
  try simp only [Act.put, List.getElem_toArray, List.getElem_cons_zero, List.getElem_cons_succ, List.setIfInBounds_toArray, List.set_cons_zero, List.set_cons_succ]
  refine wpAnyH_take (i := 41) (v := ?_) rfl (by kernel_rfl) (by kernel_rfl) (by kernel_rfl) (fun _ _ _ h => h) (Or.inl ⟨by rfl, ?_⟩) (by assumption) ?_
  rotate_left
  · intro w hSw
    obtain ⟨hS9, hS10⟩ := hSw
    go_simp
    try with_reducible rfl
  try simp only [Act.put, List.getElem_toArray, List.getElem_cons_zero, List.getElem_cons_succ, List.setIfInBounds_toArray, List.set_cons_zero, List.set_cons_succ]
  refine wpAnyH_take (i := 42) (v := ?_) rfl (by kernel_rfl) (by kernel_rfl) (by kernel_rfl) (fun _ _ _ h => h) (Or.inl ⟨by rfl, ?_⟩) (by assumption) ?_
  rotate_left
  · intro w hSw
    obtain ⟨hS9, hS10⟩ := hSw
    go_simp
    try with_reducible rfl
  try simp only [Act.put, List.getElem_toArray, List.getElem_cons_zero, List.getElem_cons_succ, List.setIfInBounds_toArray, List.set_cons_zero, List.set_cons_succ]
  refine wpAnyH_take (i := 43) (v := ?_) rfl (by kernel_rfl) (by kernel_rfl) (by kernel_rfl) (fun _ _ _ h => h) (Or.inl ⟨by rfl, ?_⟩) (by assumption) ?_
  rotate_left
  · intro w hSw
    obtain ⟨hS9, hS10⟩ := hSw
    go_simp
    try with_reducible rfl
  try simp only [Act.put, List.getElem_toArray, List.getElem_cons_zero, List.getElem_cons_succ, List.setIfInBounds_toArray, List.set_cons_zero, List.set_cons_succ]
  refine wpAnyH_take (i := 44) (v := ?_) rfl (by kernel_rfl) (by kernel_rfl) (by kernel_rfl) (fun _ _ _ h => h) (Or.inl ⟨by rfl, ?_⟩) (by assumption) ?_
  rotate_left
  · intro w hSw
    obtain ⟨hS9, hS10⟩ := hSw
    go_simp
    try with_reducible rfl
  try simp only [Act.put, List.getElem_toArray, List.getElem_cons_zero, List.getElem_cons_succ, List.setIfInBounds_toArray, List.set_cons_zero, List.set_cons_succ]
  refine wpAnyH_take (i := 45) (v := ?_) rfl (by kernel_rfl) (by kernel_rfl) (by kernel_rfl) (fun _ _ _ h => h) (Or.inl ⟨by rfl, ?_⟩) (by assumption) ?_
  rotate_left
  · intro w hSw
    obtain ⟨hS9, hS10⟩ := hSw
    go_simp
    try with_reducible rfl
  try simp only [Act.put, List.getElem_toArray, List.getElem_cons_zero, List.getElem_cons_succ, List.setIfInBounds_toArray, List.set_cons_zero, List.set_cons_succ]
  refine wpAnyH_take (i := 46) (v := ?_) rfl (by kernel_rfl) (by kernel_rfl) (by kernel_rfl) (fun _ _ _ h => h) (Or.inl ⟨by rfl, ?_⟩) (by assumption) ?_
  rotate_left
  · intro w hSw
    obtain ⟨hS9, hS10⟩ := hSw
    go_simp
    try with_reducible rfl
  try simp only [Act.put, List.getElem_toArray, List.getElem_cons_zero, List.getElem_cons_succ, List.setIfInBounds_toArray, List.set_cons_zero, List.set_cons_succ]
  refine wpAnyH_take (i := 47) (v := ?_) rfl (by kernel_rfl) (by kernel_rfl) (by kernel_rfl) (fun _ _ _ h => h) (Or.inl ⟨by rfl, ?_⟩) (by assumption) ?_
  rotate_left
  · intro w hSw
    obtain ⟨hS9, hS10⟩ := hSw
    go_simp
    try with_reducible rfl
  try simp only [Act.put, List.getElem_toArray, List.getElem_cons_zero, List.getElem_cons_succ, List.setIfInBounds_toArray, List.set_cons_zero, List.set_cons_succ]
  refine wpAnyH_take (i := 48) (v := ?_) rfl (by kernel_rfl) (by kernel_rfl) (by kernel_rfl) (fun _ _ _ h => h) (Or.inl ⟨by rfl, ?_⟩) (by assumption) ?_
  rotate_left
  · intro w hSw
    obtain ⟨hS9, hS10⟩ := hSw
    go_simp
    try with_reducible rfl
  try simp only [Act.put, List.getElem_toArray, List.getElem_cons_zero, List.getElem_cons_succ, List.setIfInBounds_toArray, List.set_cons_zero, List.set_cons_succ]
  refine wpAnyH_take (i := 49) (v := ?_) rfl (by kernel_rfl) (by kernel_rfl) (by kernel_rfl) (fun _ _ _ h => h) (Or.inl ⟨by rfl, ?_⟩) (by assumption) ?_
  rotate_left
  · intro w hSw
    obtain ⟨hS9, hS10⟩ := hSw
    go_simp
    try with_reducible rfl
  try simp only [Act.put, List.getElem_toArray, List.getElem_cons_zero, List.getElem_cons_succ, List.setIfInBounds_toArray, List.set_cons_zero, List.set_cons_succ]
  refine wpAnyH_take (i := 50) (v := ?_) rfl (by kernel_rfl) (by kernel_rfl) (by kernel_rfl) (fun _ _ _ h => h) (Or.inl ⟨by rfl, ?_⟩) (by assumption) ?_
  rotate_left
  · intro w hSw
    obtain ⟨hS9, hS10⟩ := hSw
    go_simp
    try with_reducible rfl
  try simp only [Act.put, List.getElem_toArray, List.getElem_cons_zero, List.getElem_cons_succ, List.setIfInBounds_toArray, List.set_cons_zero, List.set_cons_succ]
  refine wpAnyH_take (i := 51) (v := ?_) rfl (by kernel_rfl) (by kernel_rfl) (by kernel_rfl) (fun _ _ _ h => h) (Or.inl ⟨by rfl, ?_⟩) (by assumption) ?_
  rotate_left
  · intro w hSw
    obtain ⟨hS9, hS10⟩ := hSw
    go_simp
    try with_reducible rfl
  try simp only [Act.put, List.getElem_toArray, List.getElem_cons_zero, List.getElem_cons_succ, List.setIfInBounds_toArray, List.set_cons_zero, List.set_cons_succ]
  refine wpAnyH_take (i := 52) (v := ?_) rfl (by kernel_rfl) (by kernel_rfl) (by kernel_rfl) (fun _ _ _ h => h) (Or.inl ⟨by rfl, ?_⟩) (by assumption) ?_
  rotate_left
  · intro w hSw
    obtain ⟨hS9, hS10⟩ := hSw
    go_simp
    try with_reducible rfl
  try simp only [Act.put, List.getElem_toArray, List.getElem_cons_zero, List.getElem_cons_succ, List.setIfInBounds_toArray, List.set_cons_zero, List.set_cons_succ]
  refine wpAnyH_take (i := 53) (v := ?_) rfl (by kernel_rfl) (by kernel_rfl) (by kernel_rfl) (fun _ _ _ h => h) (Or.inl ⟨by rfl, ?_⟩) (by assumption) ?_
  rotate_left
  · intro w hSw
    obtain ⟨hS9, hS10⟩ := hSw
    go_simp
    try with_reducible rfl
  try simp only [Act.put, List.getElem_toArray, List.getElem_cons_zero, List.getElem_cons_succ, List.setIfInBounds_toArray, List.set_cons_zero, List.set_cons_succ]
  refine wpAnyH_take (i := 55) (v := ?_) rfl (by kernel_rfl) (by kernel_rfl) (by kernel_rfl) (fun _ _ _ h => h) (Or.inl ⟨by rfl, ?_⟩) (by assumption) ?_
  rotate_left
  · intro w hSw
    obtain ⟨hS9, hS10⟩ := hSw
    go_simp
    try with_reducible rfl
  try simp only [Act.put, List.getElem_toArray, List.getElem_cons_zero, List.getElem_cons_succ, List.setIfInBounds_toArray, List.set_cons_zero, List.set_cons_succ]
  refine wpAnyH_take (i := 56) (v := ?_) rfl (by kernel_rfl) (by kernel_rfl) (by kernel_rfl) (fun _ _ _ h => h) (Or.inl ⟨by rfl, ?_⟩) (by assumption) ?_
  rotate_left
  · intro w hSw
    obtain ⟨hS9, hS10⟩ := hSw
    go_simp
    try with_reducible rfl
  try simp only [Act.put, List.getElem_toArray, List.getElem_cons_zero, List.getElem_cons_succ, List.setIfInBounds_toArray, List.set_cons_zero, List.set_cons_succ]
  refine wpAnyH_take (i := 57) (v := ?_) rfl (by kernel_rfl) (by kernel_rfl) (by kernel_rfl) (fun _ _ _ h => h) (Or.inl ⟨by rfl, ?_⟩) (by assumption) ?_
  rotate_left
  · intro w hSw
    obtain ⟨hS9, hS10⟩ := hSw
    go_simp
    try with_reducible rfl
  try simp only [Act.put, List.getElem_toArray, List.getElem_cons_zero, List.getElem_cons_succ, List.setIfInBounds_toArray, List.set_cons_zero, List.set_cons_succ]
  refine wpAnyH_take (i := 58) (v := ?_) rfl (by kernel_rfl) (by kernel_rfl) (by kernel_rfl) (fun _ _ _ h => h) (Or.inl ⟨by rfl, ?_⟩) (by assumption) ?_
  rotate_left
  · intro w hSw
    obtain ⟨hS9, hS10⟩ := hSw
    go_simp
    try with_reducible rfl
  try simp only [Act.put, List.getElem_toArray, List.getElem_cons_zero, List.getElem_cons_succ, List.setIfInBounds_toArray, List.set_cons_zero, List.set_cons_succ]
  refine wpAnyH_take (i := 59) (v := ?_) rfl (by kernel_rfl) (by kernel_rfl) (by kernel_rfl) (fun _ _ _ h => h) (Or.inl ⟨by rfl, ?_⟩) (by assumption) ?_
  rotate_left
  · intro w hSw
    obtain ⟨hS9, hS10⟩ := hSw
    go_simp
    try with_reducible rfl
  try simp only [Act.put, List.getElem_toArray, List.getElem_cons_zero, List.getElem_cons_succ, List.setIfInBounds_toArray, List.set_cons_zero, List.set_cons_succ]
  refine wpAnyH_take (i := 60) (v := ?_) rfl (by kernel_rfl) (by kernel_rfl) (by kernel_rfl) (fun _ _ _ h => h) (Or.inl ⟨by rfl, ?_⟩) (by assumption) ?_
  rotate_left
  · intro w hSw
    obtain ⟨hS9, hS10⟩ := hSw
    go_simp
    try with_reducible rfl
  try simp only [Act.put, List.getElem_toArray, List.getElem_cons_zero, List.getElem_cons_succ, List.setIfInBounds_toArray, List.set_cons_zero, List.set_cons_succ]
  refine wpAnyH_take (i := 61) (v := ?_) rfl (by kernel_rfl) (by kernel_rfl) (by kernel_rfl) (fun _ _ _ h => h) (Or.inl ⟨by rfl, ?_⟩) (by assumption) ?_
  rotate_left
  · intro w hSw
    obtain ⟨hS9, hS10⟩ := hSw
    go_simp
    try with_reducible rfl
  try simp only [Act.put, List.getElem_toArray, List.getElem_cons_zero, List.getElem_cons_succ, List.setIfInBounds_toArray, List.set_cons_zero, List.set_cons_succ]
  refine wpAnyH_take (i := 62) (v := ?_) rfl (by kernel_rfl) (by kernel_rfl) (by kernel_rfl) (fun _ _ _ h => h) (Or.inl ⟨by rfl, ?_⟩) (by assumption) ?_
  rotate_left
  · intro w hSw
    obtain ⟨hS9, hS10⟩ := hSw
    go_simp
    try with_reducible rfl
  try simp only [Act.put, List.getElem_toArray, List.getElem_cons_zero, List.getElem_cons_succ, List.setIfInBounds_toArray, List.set_cons_zero, List.set_cons_succ]
  refine wpAnyH_take (i := 63) (v := ?_) rfl (by kernel_rfl) (by kernel_rfl) (by kernel_rfl) (fun _ _ _ h => h) (Or.inl ⟨by rfl, ?_⟩) (by assumption) ?_
  rotate_left
  · intro w hSw
    obtain ⟨hS9, hS10⟩ := hSw
    go_simp
    try with_reducible rfl
  try simp only [Act.put, List.getElem_toArray, List.getElem_cons_zero, List.getElem_cons_succ, List.setIfInBounds_toArray, List.set_cons_zero, List.set_cons_succ]
  refine wpAnyH_take (i := 64) (v := ?_) rfl (by kernel_rfl) (by kernel_rfl) (by kernel_rfl) (fun _ _ _ h => h) (Or.inl ⟨by rfl, ?_⟩) (by assumption) ?_
  rotate_left
  · intro w hSw
    obtain ⟨hS9, hS10⟩ := hSw
    go_simp
    try with_reducible rfl
  try simp only [Act.put, List.getElem_toArray, List.getElem_cons_zero, List.getElem_cons_succ, List.setIfInBounds_toArray, List.set_cons_zero, List.set_cons_succ]
  refine wpAnyH_take (i := 65) (v := ?_) rfl (by kernel_rfl) (by kernel_rfl) (by kernel_rfl) (fun _ _ _ h => h) (Or.inl ⟨by rfl, ?_⟩) (by assumption) ?_
  rotate_left
  · intro w hSw
    obtain ⟨hS9, hS10⟩ := hSw
    go_simp
    try with_reducible rfl
  try simp only [Act.put, List.getElem_toArray, List.getElem_cons_zero, List.getElem_cons_succ, List.setIfInBounds_toArray, List.set_cons_zero, List.set_cons_succ]
  refine wpAnyH_ready (rs := [54]) (by kernel_rfl) (by simp) ?_
  refine AllReadyH.cons rfl (fun K hK => ?_) AllReadyH.nil
  go_simp
  refine (hsl.out _ hbb4.out).mono ?_; rintro e W5 ⟨v5, rfl, hv5, hb⟩; have hbb5 := Aside0.mk (hbb4.out.trans (hb.mono (Below.size (hbb4.out)))); obtain ⟨q5a, q5b⟩ := hc2.out _ hbb5.out; clear hb; obtain ⟨A5, c5, e5⟩ := Kd.R_slice hv5; subst e5; replace hv5 := Aside0.mk hv5
  refine hK.out _ _ ?_ (fun hHeld => ?_)
  · go_keep
  clear hK K
  try simp only [Act.put, List.getElem_toArray, List.getElem_cons_zero, List.getElem_cons_succ, List.setIfInBounds_toArray, List.set_cons_zero, List.set_cons_succ]
  refine wpAnyH_ready (rs := [66]) (by kernel_rfl) (by simp) ?_
  refine AllReadyH.cons rfl (fun K hK => ?_) AllReadyH.nil
  go_simp
  refine (hrs.out _ hbb5.out).mono ?_; rintro e W6 ⟨v6, rfl, hv6, hb⟩; have hx6 := Aside0.mk (Kd.C_below (Kd.R_reads' hv5.out).2.2 hb); have hbb6 := Aside0.mk (hbb5.out.trans (hb.mono (Below.size (hbb5.out)))); obtain ⟨q6a, q6b⟩ := hc2.out _ hbb6.out; clear hb; obtain ⟨A6, c6, e6⟩ := Kd.R_slice hv6; subst e6; replace hv6 := Aside0.mk hv6
  refine hK.out _ _ ?_ (fun hHeld => ?_)
  · go_keep
  clear hK K
  try simp only [Act.put, List.getElem_toArray, List.getElem_cons_zero, List.getElem_cons_succ, List.setIfInBounds_toArray, List.set_cons_zero, List.set_cons_succ]
  refine wpAnyH_ready (rs := [67]) (by kernel_rfl) (by simp) ?_
  refine AllReadyH.cons rfl (fun K hK => ?_) AllReadyH.nil
  go_simp
  refine (covenantref03_Ints.calls kj A5 c5 (A'.rows (s.f3, s.f4)) A6 c6 (A'.rows (s.f3, s.f4)) true W6 hx6.out (Kd.R_reads' hv5.out).2.1 (Kd.R_reads' hv6.out).2.2 (Kd.R_reads' hv6.out).2.1 hkj.out).mono ?_; rintro e W7 ⟨rfl, hD⟩; have hb := hD.below; clear hD; have hbb7 := Aside0.mk (hbb6.out.trans (hb.mono (Below.size (hbb6.out)))); obtain ⟨q7a, q7b⟩ := hc2.out _ hbb7.out; clear hb
  refine hK.out _ _ ?_ (fun hHeld => ?_)
  · go_keep
  clear hK K
  try simp only [Act.put, List.getElem_toArray, List.getElem_cons_zero, List.getElem_cons_succ, List.setIfInBounds_toArray, List.set_cons_zero, List.set_cons_succ]
  refine wpAnyH_take (i := 68) (v := ?_) rfl (by kernel_rfl) (by kernel_rfl) (by kernel_rfl) (fun _ _ _ h => h) (Or.inl ⟨by rfl, ?_⟩) (by assumption) ?_
  rotate_left
  · intro w hSw
    obtain ⟨hS9, hS10⟩ := hSw
    go_simp
    try with_reducible rfl
  try simp only [Act.put, List.getElem_toArray, List.getElem_cons_zero, List.getElem_cons_succ, List.setIfInBounds_toArray, List.set_cons_zero, List.set_cons_succ]
  refine wpAnyH_take (i := 69) (v := ?_) rfl (by kernel_rfl) (by kernel_rfl) (by kernel_rfl) (fun _ _ _ h => h) (Or.inl ⟨by rfl, ?_⟩) (by assumption) ?_
  rotate_left
  · intro w hSw
    obtain ⟨hS9, hS10⟩ := hSw
    go_simp
    try with_reducible rfl
  try simp only [Act.put, List.getElem_toArray, List.getElem_cons_zero, List.getElem_cons_succ, List.setIfInBounds_toArray, List.set_cons_zero, List.set_cons_succ]
  refine wpAnyH_done (by kernel_rfl) ?_ _
  go_wp2
  exact Met.intro (hJ _ _ ⟨_, _, _, _, _, _, _, _, ⟨rfl, rfl, rfl, rfl, rfl, rfl, rfl, rfl, rfl, rfl⟩, HD0.out.below hbb7.out⟩)
end
end Go.Proofs.Ytljahhgankcalaa

/-! HeapPlays: the loop, the law. Printed by genqc.py. -/
namespace Go.Proofs.Ytljahhgankcalaa
open Go.RowKit Go.Maps Go.MapKept Go.WideMaps Go.Shelf
open Go.Proofs.YtljahhgankcalaaW.PrintWords Go.Proofs.YtljahhgankcalaaW.PrintLast Go.Proofs.YtljahhgankcalaaW.PrintMore
open PHeapThere
set_option linter.unusedVariables false
set_option linter.unusedSimpArgs false
section
variable {w wr : World} {h x k n c0 : Nat} {ad : Addr} {A : AH} {R : RH} {F G : Nat → Prop} {s : AStep} {A7 : Option Addr} {c7 : Nat} {v6 v7 v8 v9 : Value} {a : Act}
theorem play_round (HF : FrH a (.slice (some ad) n c0) h x (.int .i64 k) v6 v7 v8 v9) (HD : Dbl w wr h x A R F G k) (hk : k < n) (hn : n ≤ 120) (hc : n ≤ c0)
    (hcl : ∀ W, Below w.heap.size w W → SCells W ad k s A7 c7) (hr : Kd.C kVal w A7 s.f1.f6.length s.f1.f6) (hc7 : s.f1.f6.length ≤ c7) (hx : s.f1.f6.length < 20000) (ho : okW (s.f3, s.f4)) :
    Pc (hblk 1) (fun a' w' => ∃ A' R' F' G' v6' v7' v8' v9', FrH a' (.slice (some ad) n c0) h x (.int .i64 k) v6' v7' v8' v9' ∧ Dbl w w' h x A' R' F' G' (k + 1)) a wr := by
  by_cases e : Int.tmod (k : Int) 4 = 3
  · exact play_roundY e HF HD hk hn hc hcl hr hc7 hx ho
  · exact play_roundN (beq_eq_false_iff_ne.2 e) HF HD hk hn hc hcl hr hc7 hx ho
set_option maxRecDepth 100000 in
set_option maxHeartbeats 4000000 in
theorem play_loop {A0 : Option Addr} {l : List AStep} (HF : FrH a (.slice A0 l.length c0) h x (.int .i64 0) v6 v7 v8 v9) (HD : Dbl w wr h x A R F G 0) (hr : Kd.C kStep w A0 l.length l) (hc : l.length ≤ c0) (h120 : l.length ≤ 120)
    (hrow : ∀ i : Nat, (l.getD i zStep).f1.f6.length < 20000) (hwf : ∀ s ∈ l, okW (s.f3, s.f4)) :
    Pc (hblk 0) (fun a' w' => ∃ A' R' F' G' v5' v6' v7' v8' v9', FrH a' (.slice A0 l.length c0) h x v5' v6' v7' v8' v9' ∧ Dbl w w' h x A' R' F' G' l.length) a wr := by
  intro J K' hJ hK
  obtain ⟨u, hu, ha⟩ := HF.open
  subst ha
  clear hu HF
  conv => arg 2; whnf
  go_wp2
  refine wp_loop_ghost_k (fun m a' w' => ∃ (k : Nat) (A : AH) (R : RH) (F G : Nat → Prop) (v6 v7 v8 v9 : Value), m + k = l.length ∧ FrH a' (.slice A0 l.length c0) h x (.int .i64 (k : Nat)) v6 v7 v8 v9 ∧ Dbl w w' h x A R F G k) l.length ⟨0, A, R, F, G, v6, v7, v8, v9, by omega, ⟨rfl, rfl, rfl, rfl, rfl, rfl, rfl, rfl, rfl, rfl⟩, HD⟩ ?_
  clear HD
  rintro gk a' w1 ⟨k, A, R, F, G, v6, v7, v8, v9, hi, HF, HD⟩
  obtain ⟨u, hu, ha⟩ := HF.open
  subst ha
  clear hu HF
  intro J2 K2 hJ2 hK2
  replace hi := Aside0.mk hi
  by_cases hlt : k < l.length
  · have d1 : decide (k < l.length) = true := decide_eq_true hlt
    have d2 : decide ((k : Int) < (l.length : Int)) = true := decide_eq_true (by omega)
    have p1 : (k : Int) < (l.length : Int) := by omega
    have hrw := hrow k
    obtain ⟨ad, A7, c7, e1, hc7, hr7, hcells⟩ := stepCellsIn hr k p1
    have hrd : (l.getD k zStep) = rd_T34 l k := rfl
    have hle : rd_T34 l k = l[k] := by rw [← hrd, List.getD_eq_getElem?_getD, List.getElem?_eq_getElem hlt]; rfl
    have ho := hwf _ (List.getElem_mem hlt)
    rw [hrd] at hrw
    rw [← hle] at ho
    generalize rd_T34 l k = s at hcells hc7 hr7 hrw ho
    clear hrd hle
    cases e1
    have hp := Aside0.mk (fun (a2 : Act) (HF2 : FrH a2 (.slice (some ad) l.length c0) h x (.int .i64 (k : Nat)) v6 v7 v8 v9) => play_round (s := s) (A7 := A7) (c7 := c7) HF2 HD hlt h120 hc hcells hr7 hc7 hrw ho)
    have HLT := Aside0.mk hlt
    clear hcells hc7 hr7 hrw ho hlt HD
    go_upto_block 1 with (fail)
    refine Pc.use (c := hblk 1) (hp.out _ ?f1) ?rest
    case f1 => exact ⟨rfl, rfl, rfl, rfl, rfl, rfl, rfl, rfl, rfl, rfl⟩
    clear hp
    rintro a' w2 ⟨A', R', F', G', v6', v7', v8', v9', HF, HD⟩
    obtain ⟨u, hu, ha⟩ := HF.open
    subst ha
    clear hu HF
    replace HD := Aside0.mk HD
    go_wp2
    exact Handed.intro (gk - 1) (by have := hi.out; have := HLT.out; omega) (hJ2 _ _ _ ⟨k + 1, A', R', F', G', v6', v7', v8', v9', by have := hi.out; have := HLT.out; omega, ⟨rfl, rfl, rfl, rfl, rfl, congrArg (Value.int .i64) (by omega), rfl, rfl, rfl, rfl⟩, HD.out⟩)
  · have d1 : decide (k < l.length) = false := decide_eq_false hlt
    have d2 : decide ((k : Int) < (l.length : Int)) = false := decide_eq_false (by omega)
    obtain rfl : k = l.length := by have := hi.out; omega
    replace HD := Aside0.mk HD
    clear hlt
    go_wp2
    exact Met.intro (hJ _ _ ⟨_, _, _, _, _, _, _, _, _, ⟨rfl, rfl, rfl, rfl, rfl, rfl, rfl, rfl, rfl, rfl⟩, HD.out⟩)
end
set_option maxRecDepth 100000 in
set_option maxHeartbeats 4000000 in
theorem plays_law (A0 : Option Addr) (c0 : Nat) (l : List AStep) (w : World) (hr : Kd.C kStep w A0 l.length l) (hc : l.length ≤ c0) (hs : Sized l) (hwf : ∀ s ∈ l, okW (s.f3, s.f4)) :
    Calls Try.prog 11 #[.slice A0 l.length c0] w fun e w' => e = .returned (.bool true) ∧ Below w.heap.size w w' := by
  obtain ⟨kl, r, hlg, hsm⟩ := large_is l hs
  have HR := Aside0.mk (And.intro hr (And.intro hc hwf))
  have HLG := Aside0.mk hlg
  have HSM := Aside0.mk hsm
  clear hr hc hs hlg hsm hwf
  go_enter Try.func11, Try.ntmps11
  go_wp2_with fail
  refine (covenantlaw11_large.calls kl A0 c0 l r w HR.out.1 HR.out.2.1 HLG.out).mono ?_
  rintro e w2 ⟨rfl, d2⟩
  have b2 := Aside0.mk d2.below
  clear d2
  cases r with
  | true =>
    go_wp2
    go_ret
    exact ⟨rfl, b2.out⟩
  | false =>
    obtain ⟨hl120, hrow⟩ := HSM.out (by first | rfl | trivial)
    have HROW := Aside0.mk (And.intro hl120 hrow)
    clear hrow hl120
    go_wp2_with fail
    refine (St.start w w2 b2.out).mono ?_
    rintro e w3 ⟨h, rfl, s3⟩
    replace s3 := Aside0.mk s3
    go_wp2_with fail
    refine (rnew_calls w3).mono ?_
    rintro e w4 ⟨x, rfl, hx, hB⟩
    have hI3 := Inv.of_st s3.out
    have HD4 : Dbl w w4 h x AH.empty ⟨[], []⟩ (newer w w3) (fun k => w3.heap.size ≤ k ∧ k < w4.heap.size) 0 := ⟨hI3.below hB, hx, fun b hb => Nat.le_trans hI3.bel.size hb.1, fun b hb e => by have := hI3.is.bound b hb; omega, Rel.empty, by simp⟩
    replace HD4 := Aside0.mk HD4
    clear hx hB hI3
    go_upto_block 0 with (fail)
    refine Pc.use (c := hblk 0) (play_loop (v6 := undef) (v7 := undef) (v8 := undef) (v9 := undef) ?f1 HD4.out HR.out.1 HR.out.2.1 HROW.out.1 HROW.out.2 HR.out.2.2) ?rest
    case f1 => exact ⟨rfl, rfl, rfl, rfl, rfl, rfl, rfl, rfl, rfl, rfl⟩
    clear HD4
    rintro a' w5 ⟨A, R, F, G, v5', v6', v7', v8', v9', HF, HD⟩
    obtain ⟨u, hu, ha⟩ := HF.open
    subst ha
    clear hu HF
    have hl := HD.ih.len
    have h120 := HROW.out.1
    have hsm := Aside0.mk (fun (W : World) (hB : Below w5.heap.size w5 W) => same_calls (HD.below hB).ih.is (HD.below hB).ix HD.ih.ok HD.rel (by omega) HD.ih.lim)
    have hcp := Aside0.mk (fun (W : World) (hB : Below w5.heap.size w5 W) => copy_calls h A F W (HD.below hB).ih.is (by omega) (fun i => by have := HD.ih.lim i; omega) (fun p => by have := HD.ih.ok.rows_len p; omega))
    have hsc := Aside0.mk (fun (W : World) (hB : Below w5.heap.size w5 W) (c : Nat) (Fc : Nat → Prop) (hc : HeapIs W c A Fc) => same_calls hc (HD.below hB).ix HD.ih.ok HD.rel (by omega) HD.ih.lim)
    have hb5 := Aside0.mk HD.ih.bel
    clear HD hl h120
    go_wp2_with fail
    refine (hsm.out _ (Below.refl _ _)).mono ?_
    rintro e w6 ⟨rfl, c6⟩
    replace c6 := Aside0.mk c6
    go_wp2_with fail
    refine (hsm.out _ c6.out).mono ?_
    rintro e w7 ⟨rfl, c7⟩
    replace c7 := Aside0.mk (c6.out.trans (c7.mono c6.out.size))
    go_wp2_with fail
    refine (hcp.out _ c7.out).mono ?_
    rintro e w8 ⟨c, rfl, hcc, c8⟩
    replace c8 := Aside0.mk (c7.out.trans (c8.mono c7.out.size))
    replace hcc := Aside0.mk hcc
    go_wp2_with fail
    refine (hsc.out _ c8.out _ _ hcc.out).mono ?_
    rintro e w9 ⟨rfl, c9⟩
    replace c9 := Aside0.mk (hb5.out.trans ((c8.out.trans (c9.mono c8.out.size)).mono hb5.out.size))
    go_wp2
    go_ret
    exact ⟨rfl, c9.out⟩
end Go.Proofs.Ytljahhgankcalaa

/-! The steps of HeapPlays, opened. -/
namespace Go.Proofs.Ytljahhgankcalaa
open Go.RowKit Go.ChangeShapes Go.WideShapes
open Go.Proofs.YtljahhgankcalaaW.PrintWords Go.Proofs.YtljahhgankcalaaW.PrintLast Go.Proofs.YtljahhgankcalaaW.PrintMore
open PHeapThere
set_option linter.unusedVariables false
set_option maxRecDepth 100000 in
theorem op_stepsW (w : World) : Op Try.prog w 22 (Kd.slice 34 kStep) (fun l => Sized l ∧ ∀ s ∈ l, okW (s.f3, s.f4)) :=
  (Op.slice (B := 104) _ Try.underlying22 (by kernel_rfl) (by kernel_rfl) (op_step w)).weaken (fun l h => by
    obtain ⟨h1, h2⟩ := h
    unfold reachBytes at h1
    refine ⟨⟨by omega, fun i => ?_⟩, fun s hs => ⟨(h2 s hs).2.2.2.1, (h2 s hs).2.2.2.2⟩⟩
    by_cases hi : i < l.length
    · have h3 := (h2 l[i] (List.getElem_mem hi)).2.1.2.2.2.2.2.2
      have e : l.getD i zStep = l[i] := by rw [List.getD_eq_getElem?_getD, List.getElem?_eq_getElem hi]; rfl
      rw [e]
      unfold okRow reachBytes at h3
      refine ⟨by omega, fun j => ?_⟩
      by_cases hj : j < l[i].f1.f6.length
      · have h4 := (h3.2 l[i].f1.f6[j] (List.getElem_mem hj)).2.2.2
        rw [List.getD_eq_getElem?_getD, List.getElem?_eq_getElem hj]
        show l[i].f1.f6[j].f3.size ≤ 140737488351232
        omega
      · rw [List.getD_eq_getElem?_getD, List.getElem?_eq_none (by omega)]
        exact Nat.zero_le _
    · have e : l.getD i zStep = zStep := by rw [List.getD_eq_getElem?_getD, List.getElem?_eq_none (by omega)]; rfl
      rw [e]
      exact ⟨Nat.zero_le _, fun j => Nat.zero_le _⟩)
end Go.Proofs.Ytljahhgankcalaa

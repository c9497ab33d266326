import Derived.Test.YtljahhgankcalaaHk
/-! (*Heap).Kill, New. -/
namespace Go.Proofs.Ytljahhgankcalaa
open Go.RowKit Go.Maps Go.MapKept Go.WideMaps
open Go.Proofs.YtljahhgankcalaaW.PrintWords Go.Proofs.YtljahhgankcalaaW.PrintLast Go.Proofs.YtljahhgankcalaaW.PrintMore
open PHeapThere
set_option linter.unusedVariables false
set_option linter.unusedSimpArgs false

def AH.kill (A : AH) (s x c : Int) : Int × AH :=
  if A.there s then (0, { A with slots := A.slots.set s.toNat { A.at s with f4 := x, f5 := c } }) else (1, A)

/-- The slots' block has changed, to other slots. -/
theorem HeapAt.slotwise {w w1 : World} {h g : Nat} {A : AH} {F : Nat → Prop} {sv : Value} {rb gb : Nat} {rg : Int × Int → Option Value} {gg : Int → Option Int} (H : HeapAt w h A F sv rb gb rg gg) {cur : Array Value}
    (hg : w.heap[g]? = some (.cells cur 39 (0, 0))) (hch : Chg w w1 (fun k => k = g)) {l : List ATup} (hs : Kd.R kTup 39 w1 0 F sv l) : HeapAt w1 h { A with slots := l } F sv rb gb rg gg where
  blk := hch.obj H.blk (fun e => by
    have hb := H.blk
    rw [e, hg] at hb
    simp at hb)
  slots := hs
  rmap := H.rmap.chg hch (fun e => by
    obtain ⟨es, cl, hm⟩ := H.rmap.isMap
    rw [e, hg] at hm
    cases hm)
  gmap := H.gmap.chg hch (fun e => by
    obtain ⟨es, cl, hm⟩ := H.gmap.isMap
    rw [e, hg] at hm
    cases hm)
  rowv := fun p v hp => ⟨R_typ (H.rowv p v hp).1 hg (by intro q hq; simp [Kd.int, Kd.scalar] at hq; subst hq; decide) hch, (H.rowv p v hp).2⟩
  rown := H.rown
  apart := H.apart
  givn := H.givn
  hF := H.hF
  rF := H.rF
  gF := H.gF
  ne := H.ne
  bound := fun k hk => Nat.lt_of_lt_of_le (H.bound k hk) hch.size

theorem kill_no (h : Nat) (s x c : Int) (A : AH) (F : Nat → Prop) (w : World) (H : HeapIs w h A F) (hb : A.there s = false) :
    Calls Try.prog 40 #[.pointer (some ⟨h, 0, none⟩), .int .i64 s, .int .i64 x, .int .i64 c] w fun e w' => e = .returned (.int .i64 1) ∧ w' = w := by
  have hi := refused_calls h s A F w H
  rw [hb] at hi
  clear H hb
  go_enter Try.func40, Try.ntmps40
  go_wp2_with (go_at_call 81; refine hi.mono ?_; rintro e w' ⟨rfl, rfl⟩)
  go_ret
  exact ⟨rfl, rfl⟩
theorem kill_yes (h g n cap i : Nat) (x c u v : Int) (w : World) (hi : Calls Try.prog 81 #[.pointer (some ⟨h, 0, none⟩), .int .i64 i] w fun e w' => e = .returned (.int .i64 0) ∧ w' = w)
    (hc : w.cell? ⟨h, 0, none⟩ = some (.slice (some ⟨g, 0, none⟩) n cap)) (hn : i < n) (hm : n ≤ 9223372036854775807) (c4 : w.cell? ⟨g, i * 7 + 4, none⟩ = some (.int .i64 u)) (c5 : w.cell? ⟨g, i * 7 + 5, none⟩ = some (.int .i64 v))
    (f4 : w.frozen? ⟨g, i * 7 + 4, none⟩ = false) (f5 : w.frozen? ⟨g, i * 7 + 5, none⟩ = false) :
    Calls Try.prog 40 #[.pointer (some ⟨h, 0, none⟩), .int .i64 i, .int .i64 x, .int .i64 c] w fun e w' => e = .returned (.int .i64 0) ∧
      w' = (w.setCell ⟨g, i * 7 + 4, none⟩ (.int .i64 x)).setCell ⟨g, i * 7 + 5, none⟩ (.int .i64 c) := by
  have b1 : decide (0 ≤ (i : Int)) = true := decide_eq_true (by omega)
  have b2 : decide ((i : Int) < (n : Int)) = true := decide_eq_true (by omega)
  have b3 : decide (i < n) = true := decide_eq_true hn
  go_enter Try.func40, Try.ntmps40
  go_wp2_with (go_at_call 81; refine hi.mono ?_; rintro e w' ⟨rfl, rfl⟩)
  go_ret
  exact ⟨rfl, rfl⟩

theorem kill_calls (h : Nat) (s x c : Int) (A : AH) (F : Nat → Prop) (w : World) (H : HeapIs w h A F) :
    Calls Try.prog 40 #[.pointer (some ⟨h, 0, none⟩), .int .i64 s, .int .i64 x, .int .i64 c] w fun e w' => e = .returned (.int .i64 (A.kill s x c).1) ∧ HeapIs w' h (A.kill s x c).2 F ∧ Chg w w' F := by
  cases hb : A.there s with
  | false =>
    refine (kill_no h s x c A F w H hb).mono ?_
    rintro e w' ⟨rfl, rfl⟩
    rw [show A.kill s x c = (1, A) from by simp [AH.kill, hb]]
    exact ⟨rfl, H, Chg.refl _ _⟩
  | true =>
    have hr := refused_calls h s A F w H
    rw [hb] at hr
    obtain ⟨⟨h0, h1⟩, h2⟩ : (0 ≤ s ∧ s < (A.slots.length : Int)) ∧ 0 < (A.at s).f0 := by simpa [AH.there] using hb
    rw [show A.kill s x c = (0, { A with slots := A.slots.set s.toNat { A.at s with f4 := x, f5 := c } }) from by simp [AH.kill, hb]]
    obtain ⟨i, rfl⟩ : ∃ i : Nat, s = i := ⟨s.toNat, by omega⟩
    obtain ⟨sv, rb, gb, rg, gg, H⟩ := H
    have hi : i < A.slots.length := by omega
    rw [A.at_nat hi, Int.toNat_natCast]
    obtain ⟨g, cap, cur, v6, hsv, hn, hm, hgF, hg, hsz, h6, x0, x1, x2, x3, x4, x5, x6⟩ := slot_cells H.slots hi
    have hc := H.cell 0
    rw [hsv] at hc
    refine (kill_yes h g _ cap i x c _ _ w hr hc hi (by unfold maxLen at hm; omega) ((blk_cell hg _).trans x4) ((blk_cell hg _).trans x5) (blk_frozen hg _) (blk_frozen hg _)).mono ?_
    rintro e w' ⟨rfl, rfl⟩
    have hch : Chg w ((w.setCell ⟨g, i * 7 + 4, none⟩ (.int .i64 x)).setCell ⟨g, i * 7 + 5, none⟩ (.int .i64 c)) (fun k => k = g) :=
      ((Chg.refl w (fun k => k = g)).setCell (p := ⟨g, i * 7 + 4, none⟩) (.inl rfl) _).setCell (p := ⟨g, i * 7 + 5, none⟩) (.inl rfl) _
    have hg1 := blk_set (blk_set hg (i * 7 + 4) (.int .i64 x)) (i * 7 + 5) (.int .i64 c)
    have hcur : ∀ k, k ≠ i * 7 + 4 → k ≠ i * 7 + 5 → ((cur.setIfInBounds (i * 7 + 4) (.int .i64 x)).setIfInBounds (i * 7 + 5) (.int .i64 c))[k]? = cur[k]? := fun k e4 e5 => by
      rw [Array.getElem?_setIfInBounds_ne (Ne.symm e5), Array.getElem?_setIfInBounds_ne (Ne.symm e4)]
    have l4 := (Array.getElem?_eq_some_iff.1 x4).1
    have l5 := (Array.getElem?_eq_some_iff.1 x5).1
    generalize hw1 : (w.setCell ⟨g, i * 7 + 4, none⟩ (.int .i64 x)).setCell ⟨g, i * 7 + 5, none⟩ (.int .i64 c) = w1 at hch hg1 ⊢
    have h6' : Kd.R kVal 91 w1 0 (fun k => F k ∧ k ≠ g) v6 A.slots[i].f6 := R_chg h6 hch (fun k q cells hk _ _ => hk.2)
    have hx := k32_mkM w1 0 (fun k => F k ∧ k ≠ g) { A.slots[i] with f4 := x, f5 := c } h6'
    refine ⟨rfl, ⟨sv, rb, gb, rg, gg, ?_⟩, hch.mono (fun k _ hk => by rw [hk]; exact hgF)⟩
    exact H.slotwise hg hch (R_upd H.slots hi hsv hg hch (fun k _ hk => hk) hg1 (by simp) (fun k hk => hcur k (by
          have : kTup.sz = 7 := rfl
          rw [this] at hk; omega) (by
          have : kTup.sz = 7 := rfl
          rw [this] at hk; omega)) hx (fun j hj => by
        have hj' : j < 7 := hj
        show ((cur.setIfInBounds (i * 7 + 4) (.int .i64 x)).setIfInBounds (i * 7 + 5) (.int .i64 c))[i * 7 + j]? = _
        match j, hj' with
        | 0, _ => rw [hcur _ (by omega) (by omega)]; exact x0
        | 1, _ => rw [hcur _ (by omega) (by omega)]; exact x1
        | 2, _ => rw [hcur _ (by omega) (by omega)]; exact x2
        | 3, _ => rw [hcur _ (by omega) (by omega)]; exact x3
        | 4, _ => rw [Array.getElem?_setIfInBounds_ne (by omega), Array.getElem?_setIfInBounds_self_of_lt l4]; rfl
        | 5, _ => rw [Array.getElem?_setIfInBounds_self_of_lt (by simpa using l5)]; rfl
        | 6, _ => rw [hcur _ (by omega) (by omega)]; exact x6))
end Go.Proofs.Ytljahhgankcalaa

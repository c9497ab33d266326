import Derived.Test.YtljahhgankcalaaHr
/-! (*Heap).Next, Len, New. -/
namespace Go.Proofs.Ytljahhgankcalaa
open Go.RowKit Go.Maps Go.MapKept Go.WideMaps
open Go.Proofs.YtljahhgankcalaaW.PrintWords Go.Proofs.YtljahhgankcalaaW.PrintLast Go.Proofs.YtljahhgankcalaaW.PrintMore
open PHeapThere
set_option linter.unusedVariables false
set_option linter.unusedSimpArgs false

theorem Try.zeroInt (w : World) : (zeroValue 3).run Try.prog w = .ok (.int .i64 0) w := by kernel_rfl

/-- What Next does. -/
def AH.next (A : AH) (no : Int) : Int × AH :=
  if no < 1 ∨ 2147483647 < no ∨ A.given no = 2147483647 then (0, A)
  else (A.given no + 1, { A with given := fun x => if x = no then A.given no + 1 else A.given x })

theorem gmap_look {w : World} {gb : Nat} {gg : Int → Option Int} (H : MapOf (Value.int .i64) (Value.int .i64) okI w gb gg) {no : Int} (ho : okI no) :
    (Instr.lookup 27 (.map (some gb)) (.int .i64 no) false).run Try.prog w = .ok (.int .i64 ((gg no).getD 0)) w := by
  have h := H.look keyInt Try.underlying27 (Try.zeroInt w) false ho
  rw [h]
  cases gg no <;> rfl

theorem next_refused (h : Nat) (no : Int) (w : World) (hr : no < 1 ∨ 2147483647 < no) :
    Calls Try.prog 42 #[.pointer (some ⟨h, 0, none⟩), .int .i64 no] w fun e w' => e = .returned (.int .i64 0) ∧ w' = w := by
  rcases hr with hr | hr
  · have b1 : decide (no < 1) = true := decide_eq_true hr
    go_enter Try.func42, Try.ntmps42
    go_wp2
    go_ret
    exact ⟨rfl, rfl⟩
  · have b1 : decide (no < 1) = false := decide_eq_false (by omega)
    have b2 : decide (2147483647 < no) = true := decide_eq_true hr
    go_enter Try.func42, Try.ntmps42
    go_wp2
    go_ret
    exact ⟨rfl, rfl⟩

theorem next_full (h : Nat) (no : Int) (w : World) (gb : Nat) (gg : Int → Option Int) (hm : MapOf (Value.int .i64) (Value.int .i64) okI w gb gg) (hc : w.cell? ⟨h, 2, none⟩ = some (.map (some gb)))
    (h1 : 1 ≤ no) (h2 : no ≤ 2147483647) (hg : (gg no).getD 0 = 2147483647) :
    Calls Try.prog 42 #[.pointer (some ⟨h, 0, none⟩), .int .i64 no] w fun e w' => e = .returned (.int .i64 0) ∧ w' = w := by
  have b1 : decide (no < 1) = false := decide_eq_false (by omega)
  have b2 : decide (2147483647 < no) = false := decide_eq_false (by omega)
  have hl := gmap_look hm (no := no) (okI_of (by omega) (by omega))
  rw [hg] at hl
  clear hm hg
  go_enter Try.func42, Try.ntmps42
  go_wp2
  go_ret
  exact ⟨rfl, rfl⟩

theorem next_gives (h : Nat) (no g : Int) (w w1 : World) (gb : Nat) (hc : w.cell? ⟨h, 2, none⟩ = some (.map (some gb))) (hc1 : w1.cell? ⟨h, 2, none⟩ = some (.map (some gb)))
    (h1 : 1 ≤ no) (h2 : no ≤ 2147483647) (g0 : 0 ≤ g) (g1 : g < 2147483647)
    (hl : (Instr.lookup 27 (.map (some gb)) (.int .i64 no) false).run Try.prog w = .ok (.int .i64 g) w)
    (hu : (Instr.mapUpdate 27 (.map (some gb)) (.int .i64 no) (.int .i64 (g + 1))).run Try.prog w = .ok () w1)
    (hl1 : (Instr.lookup 27 (.map (some gb)) (.int .i64 no) false).run Try.prog w1 = .ok (.int .i64 (g + 1)) w1) :
    Calls Try.prog 42 #[.pointer (some ⟨h, 0, none⟩), .int .i64 no] w fun e w' => e = .returned (.int .i64 (g + 1)) ∧ w' = w1 := by
  have b1 : decide (no < 1) = false := decide_eq_false (by omega)
  have b2 : decide (2147483647 < no) = false := decide_eq_false (by omega)
  have b3 : (g == 2147483647) = false := beq_eq_false_iff_ne.2 (by omega)
  go_enter Try.func42, Try.ntmps42
  go_wp2
  go_ret
  exact ⟨rfl, rfl⟩

theorem next_calls (h : Nat) (no : Int) (A : AH) (F : Nat → Prop) (w : World) (H : HeapIs w h A F) (hA : A.Ok) :
    Calls Try.prog 42 #[.pointer (some ⟨h, 0, none⟩), .int .i64 no] w fun e w' => e = .returned (.int .i64 (A.next no).1) ∧ HeapIs w' h (A.next no).2 F ∧ Chg w w' F := by
  by_cases hr : no < 1 ∨ 2147483647 < no
  · refine (next_refused h no w hr).mono ?_
    rintro e w' ⟨rfl, rfl⟩
    have : A.next no = (0, A) := by unfold AH.next; rw [if_pos (by omega)]
    rw [this]
    exact ⟨rfl, H, Chg.refl _ _⟩
  · obtain ⟨sv, rb, gb, rg, gg, H⟩ := H
    have hc : w.cell? ⟨h, 2, none⟩ = some (.map (some gb)) := H.cell 2
    have hg := H.givn no
    by_cases hf : A.given no = 2147483647
    · refine (next_full h no w gb gg H.gmap hc (by omega) (by omega) (hg.trans hf)).mono ?_
      rintro e w' ⟨rfl, rfl⟩
      have : A.next no = (0, A) := by unfold AH.next; rw [if_pos (by omega)]
      rw [this]
      exact ⟨rfl, ⟨sv, rb, gb, rg, gg, H⟩, Chg.refl _ _⟩
    · have hb := hA.given0 no
      have ho : okI no := okI_of (by omega) (by omega)
      obtain ⟨w1, hu, hm1, hc1, hs1⟩ := H.gmap.store keyInt Try.underlying27 ho (A.given no + 1)
      have hl := gmap_look H.gmap ho
      rw [hg] at hl
      have hl1 := gmap_look hm1 ho
      rw [upd_same] at hl1
      have hne : h ≠ gb := fun e => H.gmap.no_cell hc e
      have hcell : w1.cell? ⟨h, 2, none⟩ = some (.map (some gb)) := hc1.cell_some hc hne
      refine (next_gives h no (A.given no) w w1 gb hc hcell (by omega) (by omega) (by omega) (by omega) hl hu hl1).mono ?_
      rintro e w' ⟨rfl, rfl⟩
      have : A.next no = (A.given no + 1, { A with given := fun x => if x = no then A.given no + 1 else A.given x }) := by unfold AH.next; rw [if_neg (by omega)]
      rw [this]
      refine ⟨rfl, ⟨sv, rb, gb, rg, upd gg no (some (A.given no + 1)), ?_⟩, hc1.mono (fun k _ hk => by rw [hk]; exact H.gF)⟩
      exact {
        blk := hc1.obj H.blk hne
        slots := R_map H.slots H.gmap hc1
        rmap := H.rmap.chg hc1 H.ne
        gmap := hm1
        rowv := fun p v hp => ⟨R_map (H.rowv p v hp).1 H.gmap hc1, (H.rowv p v hp).2⟩
        rown := H.rown
        apart := H.apart
        givn := fun x => by
          by_cases hx : x = no
          · subst hx; rw [upd_same]; simp
          · rw [upd_other _ _ hx]; simp [hx, H.givn x]
        hF := H.hF
        rF := H.rF
        gF := H.gF
        ne := H.ne
        bound := fun k hk => by rw [hs1]; exact H.bound k hk }
end Go.Proofs.Ytljahhgankcalaa

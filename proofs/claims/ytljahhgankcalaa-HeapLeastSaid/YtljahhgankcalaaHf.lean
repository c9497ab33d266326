import Derived.Test.YtljahhgankcalaaHc
/-! New; the least free slot. -/
namespace Go.Proofs.Ytljahhgankcalaa
open Go.RowKit Go.Maps Go.MapKept Go.WideMaps
open Go.Proofs.YtljahhgankcalaaW.PrintWords Go.Proofs.YtljahhgankcalaaW.PrintLast Go.Proofs.YtljahhgankcalaaW.PrintMore
open PHeapThere
set_option linter.unusedVariables false
set_option linter.unusedSimpArgs false

def AH.empty : AH := ⟨[], fun _ => [], fun _ => 0, 0⟩
theorem AH.empty_ok : AH.empty.Ok := ⟨fun _ => by simp [AH.empty], by simp [AH.empty], by simp [AH.empty], fun p s => ⟨fun h => by simp [AH.empty] at h, fun h => by
    have := (AH.there_iff _ _).1 h.1
    simp [AH.empty] at this
    omega⟩, fun p => by simp [AH.empty]⟩

theorem new_calls (w : World) : Calls Try.prog 15 #[] w fun e w' => ∃ h, e = .returned (.pointer (some ⟨h, 0, none⟩)) ∧ HeapIs w' h AH.empty (ext (fun _ => False) w w') ∧ Below w.heap.size w w' := by
  have hmm := @run_makeMap Try.prog
  go_enter Try.func15, Try.ntmps15
  go_wp2
  go_ret
  have h1 := MapOf.made w kvW (id : Value → Value) okW
  have h2 := MapOf.made (w.alloc (.map #[] 0)) (Value.int .i64) (Value.int .i64) okI
  rw [World.size_alloc] at h2
  refine ⟨w.heap.size + 1 + 1, by simp, ⟨.slice none 0 0, w.heap.size, w.heap.size + 1, fun _ => none, fun _ => none, ?_⟩, ?_⟩
  · exact {
      blk := by simpa [AH.empty] using blk_new ((w.alloc (.map #[] 0)).alloc (.map #[] 0)) _
      slots := Kd.R_nil _ _ _ _ _
      rmap := (h1.alloc _).alloc _
      gmap := h2.alloc _
      rowv := fun p v hp => by cases hp
      rown := fun p _ => rfl
      apart := fun p q u v b hp => by cases hp
      givn := fun no => rfl
      hF := .inr ⟨by omega, by simp⟩
      rF := .inr ⟨by omega, by simp; omega⟩
      gF := .inr ⟨by omega, by simp⟩
      ne := by omega
      bound := fun k hk => by rcases hk with hk | hk; exact hk.elim; exact hk.2 }
  · exact (((Below.refl _ w).alloc (Nat.le_refl _) _).alloc (by simp) _).alloc (by simp; omega) _

/-- The closure that free hands to IndexFunc. -/
theorem free1_calls (x0 : Int) (r : List Value) (w : World) (hr : r.length = 6) :
    Calls Try.prog 102 #[.agg (Value.int .i64 x0 :: r).toArray] w fun e w' => e = .returned (.bool (x0 == 0)) ∧ Below w.heap.size w w' := by
  match r, hr with
  | [x1, x2, x3, x4, x5, x6], _ =>
    go_enter Try.func102, Try.ntmps102
    go_wp2
    go_ret
    exact ⟨rfl, (Below.refl _ w).alloc (Nat.le_refl _) _⟩

/-- The first free slot from i on, or -1. -/
def firstFree : List ATup → Int → Int
  | [], _ => -1
  | t :: l, i => if t.f0 = 0 then i else firstFree l (i + 1)
theorem firstFree_at : ∀ (l : List ATup) (i : Int) (k : Nat) (hk : k < l.length), (∀ j (hj : j < k), l[j].f0 ≠ 0) → l[k].f0 = 0 → firstFree l i = i + k
  | t :: l, i, 0, hk, _, h0 => by simp [firstFree]; intro h; exact absurd h0 h
  | t :: l, i, k + 1, hk, hl, h0 => by
    have h1 : t.f0 ≠ 0 := hl 0 (by omega)
    simp only [firstFree, if_neg h1]
    rw [firstFree_at l (i + 1) k (by simpa using hk) (fun j hj => by simpa using hl (j + 1) (by omega)) (by simpa using h0)]
    omega
theorem firstFree_none : ∀ (l : List ATup) (i : Int), (∀ t ∈ l, t.f0 ≠ 0) → firstFree l i = -1
  | [], _, _ => rfl
  | t :: l, i, h => by
    simp only [firstFree, if_neg (h t (by simp))]
    exact firstFree_none l (i + 1) (fun u hu => h u (by simp [hu]))

theorem firstFree_any (l : List ATup) (k : Nat) (h : ∀ j (hj : j < l.length), j < k → l[j].f0 ≠ 0) (hk : k = l.length) : firstFree l 0 = -1 :=
  firstFree_none l 0 (fun t ht => by
    obtain ⟨j, hj, rfl⟩ := List.getElem_of_mem ht
    exact h j hj (by omega))

set_option maxRecDepth 100000 in
theorem indexFree_calls (sv : Value) (l : List ATup) (F : Nat → Prop) (w : World) (hr : Kd.R kTup 39 w 0 F sv l) :
    Calls Try.prog 101 #[sv, .func (.func 102) #[] #[]] w fun e w' => e = .returned (.int .i64 (firstFree l 0)) ∧ Below w.heap.size w w' := by
  obtain ⟨a, c, rfl, hn⟩ := sv_slice hr
  have HR := Aside0.mk hr
  clear hr
  go_enter Try.func101, Try.ntmps101
  go_wp2
  go_loopw [5, 8] (fun _ v8 wr => ∃ k : Nat, k ≤ l.length ∧ v8 = .int .i64 k ∧ Aside0 (Below w.heap.size w wr) ∧ Aside0 (∀ j (hj : j < l.length), j < k → l[j].f0 ≠ 0)) (fun _ v8 _ => l.length - (intOf v8).toNat)
  case atStart => exact ⟨0, Nat.zero_le _, rfl, ⟨Below.refl _ w⟩, ⟨fun j hj h => absurd h (Nat.not_lt_zero _)⟩⟩
  case round =>
    obtain ⟨k, hk, rfl, HB, HF⟩ := hrel
    by_cases hlt : k < l.length
    · have b1 : decide ((k : Int) < (l.length : Int)) = true := decide_eq_true (by omega)
      have b2 : decide (k < l.length) = true := decide_eq_true hlt
      obtain ⟨g, cap, cur, v6, hsv, _, _, _, hg, _, _, x0, x1, x2, x3, x4, x5, x6⟩ := slot_cells (Kd.R_below HR.out HB.out) hlt
      obtain ⟨rfl, rfl⟩ : a = some ⟨g, 0, none⟩ ∧ c = cap := by
        injection hsv with h1 _ h3
        exact ⟨h1, h3⟩
      replace x0 := (blk_cell hg _).trans x0
      replace x1 := (blk_cell hg _).trans x1
      replace x2 := (blk_cell hg _).trans x2
      replace x3 := (blk_cell hg _).trans x3
      replace x4 := (blk_cell hg _).trans x4
      replace x5 := (blk_cell hg _).trans x5
      replace x6 := (blk_cell hg _).trans x6
      clear hsv hg
      have hcall := free1_calls l[k].f0 [.int .i64 l[k].f1, .int .i64 l[k].f2, .int .i64 l[k].f3, .int .i64 l[k].f4, .int .i64 l[k].f5, v6] wr rfl
      by_cases h0 : l[k].f0 = 0
      · have hb : (l[k].f0 == 0) = true := beq_iff_eq.2 h0
        rw [hb] at hcall
        have hres := Aside0.mk (firstFree_at l 0 k hlt (fun j hj => HF.out j (by omega) hj) h0)
        clear h0 hb
        generalize l[k] = T at *
        go_wp2_with (go_at_call 102; refine hcall.mono ?_; rintro e w1 ⟨rfl, hb1⟩; replace hb1 := Aside0.mk hb1)
        go_ret
        exact ⟨by rw [hres.out]; simp, HB.out.trans (hb1.out.mono HB.out.size)⟩
      · have hb : (l[k].f0 == 0) = false := beq_eq_false_iff_ne.2 h0
        rw [hb] at hcall
        have hF2 : Aside0 (∀ j (hj : j < l.length), j < k + 1 → l[j].f0 ≠ 0) := ⟨fun j hj hjk => by
          by_cases e : j = k
          · subst e; exact h0
          · exact HF.out j hj (by omega)⟩
        clear h0 hb
        generalize l[k] = T at *
        go_wp2_with (go_at_call 102; refine hcall.mono ?_; rintro e w1 ⟨rfl, hb1⟩; replace hb1 := Aside0.mk hb1)
        go_roundw
        case measure => simp [intOf]; omega
        case rel => exact ⟨k + 1, by omega, by go_num, ⟨HB.out.trans (hb1.out.mono HB.out.size)⟩, hF2⟩
    · have b1 : decide ((k : Int) < (l.length : Int)) = false := decide_eq_false (by omega)
      have hres := Aside0.mk (firstFree_any l k HF.out (by omega))
      go_wp2
      go_ret
      exact ⟨by rw [hres.out]; rfl, HB.out⟩
end Go.Proofs.Ytljahhgankcalaa

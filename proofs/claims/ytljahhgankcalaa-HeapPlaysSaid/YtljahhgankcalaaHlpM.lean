import Derived.Test.YtljahhgankcalaaG5
/-! Which slots are there behind a step, and how many. -/
namespace Go.Proofs.Ytljahhgankcalaa
open Go.RowKit Go.Maps Go.MapKept Go.WideMaps
open Go.Proofs.YtljahhgankcalaaW.PrintWords Go.Proofs.YtljahhgankcalaaW.PrintLast Go.Proofs.YtljahhgankcalaaW.PrintMore
open PHeapThere
set_option linter.unusedVariables false
set_option linter.unusedSimpArgs false

theorem AH.there_lt {A : AH} {j : Nat} (h : A.there (j : Int) = true) : j < A.slots.length := by
  have := (A.there_iff _).1 h
  omega
theorem AH.kill_at (A : AH) (s x c : Int) (j : Nat) : (A.kill s x c).2.at (j : Int) = if A.there s = true ∧ (j : Int) = s then { A.at s with f4 := x, f5 := c } else A.at (j : Int) := by
  unfold AH.kill
  cases e : A.there s with
  | false => simp
  | true =>
    obtain ⟨i, rfl, hi, hp⟩ := A.there_cases s e
    simp only [if_pos, true_and]
    show (A.slots.set (i : Int).toNat { A.at (i : Int) with f4 := x, f5 := c }).getD (j : Int).toNat zTup = _
    rw [Int.toNat_natCast, Int.toNat_natCast, A.set_getD i _ hi]
    by_cases hj : j = i
    · rw [if_pos hj, if_pos (by omega)]
    · rw [if_neg hj, if_neg (by omega)]
      rfl
theorem AH.kill_there (A : AH) (s x c : Int) (j : Nat) : (A.kill s x c).2.there (j : Int) = A.there (j : Int) := by
  rw [Bool.eq_iff_iff, AH.there_nat, AH.there_nat]
  have h := A.kill_at s x c j
  unfold AH.at at h
  rw [Int.toNat_natCast] at h
  rw [h]
  split
  · rename_i e
    rw [← e.2, Int.toNat_natCast]
  · rfl
theorem AH.free_at (A : AH) (s : Int) (j : Nat) : (A.free s).2.at (j : Int) = if A.there s = true ∧ (j : Int) = s then zTup else A.at (j : Int) := by
  unfold AH.free
  cases e : A.there s with
  | false => simp
  | true =>
    obtain ⟨i, rfl, hi, hp⟩ := A.there_cases s e
    simp only [if_pos, true_and]
    show (A.slots.set (i : Int).toNat zTup).getD (j : Int).toNat zTup = _
    rw [Int.toNat_natCast, Int.toNat_natCast, A.set_getD i _ hi]
    by_cases hj : j = i
    · rw [if_pos hj, if_pos (by omega)]
    · rw [if_neg hj, if_neg (by omega)]
      rfl
theorem AH.free_there (A : AH) (s : Int) (j : Nat) : (A.free s).2.there (j : Int) = true ↔ A.there (j : Int) = true ∧ (j : Int) ≠ s := by
  rw [AH.there_nat]
  have h := A.free_at s j
  unfold AH.at at h
  rw [Int.toNat_natCast] at h
  rw [h, AH.there_nat]
  by_cases e : A.there s = true ∧ (j : Int) = s
  · rw [if_pos e]
    constructor
    · intro h
      exact absurd h (by decide)
    · intro h
      exact absurd e.2 h.2
  · rw [if_neg e]
    constructor
    · intro h
      refine ⟨h, fun e2 => e ⟨?_, e2⟩⟩
      rw [← e2, AH.there_nat]
      exact h
    · exact fun h => h.1
theorem AH.next_at (A : AH) (no j : Int) : (A.next no).2.at j = A.at j := by
  unfold AH.next
  split <;> rfl
theorem AH.next_there (A : AH) (no j : Int) : (A.next no).2.there j = A.there j := by
  unfold AH.next
  split <;> rfl
theorem AH.next_many (A : AH) (no : Int) : (A.next no).2.many = A.many := by
  unfold AH.next
  split <;> rfl
theorem AH.kill_many (A : AH) (s x c : Int) : (A.kill s x c).2.many = A.many := by
  unfold AH.kill
  split <;> rfl
theorem AH.free_many (A : AH) (s : Int) : (A.free s).2.many = if A.there s then A.many - 1 else A.many := by
  unfold AH.free
  split <;> rfl

/-- How many of the first n slots are there. -/
def AH.cnt (A : AH) (n : Nat) : Nat := ((A.slots.take n).filter (fun t => t.f0 != 0)).length
theorem AH.cnt_succ {A : AH} (hA : A.Ok) (n : Nat) : A.cnt (n + 1) = A.cnt n + (if A.there (n : Int) = true then 1 else 0) := by
  have ht := A.there_nat n
  unfold AH.cnt
  rcases Nat.lt_or_ge n A.slots.length with h | h
  · have hp := hA.pos A.slots[n] (List.getElem_mem h)
    rw [List.take_add_one, List.getElem?_eq_getElem h]
    have e : A.slots.getD n zTup = A.slots[n] := by rw [List.getD_eq_getElem?_getD, List.getElem?_eq_getElem h]; rfl
    rw [e] at ht
    rw [List.filter_append, List.length_append]
    by_cases h0 : A.slots[n].f0 = 0
    · rw [if_neg (fun h3 => by have := ht.1 h3; omega)]
      simp [h0]
    · rw [if_pos (ht.2 (by omega))]
      simp [h0]
  · have e : A.slots.getD n zTup = zTup := by rw [List.getD_eq_getElem?_getD, List.getElem?_eq_none h]; rfl
    rw [e] at ht
    rw [if_neg (fun h3 => absurd (ht.1 h3) (by decide)), List.take_of_length_le (by omega), List.take_of_length_le (by omega)]
    rfl
theorem AH.cnt_all {A : AH} (hA : A.Ok) {n : Nat} (h : A.slots.length ≤ n) : (A.cnt n : Int) = A.many := by
  unfold AH.cnt
  rw [List.take_of_length_le h, hA.many]
theorem findIdx_filter : ∀ (l : List ATup), l.findIdx (fun t => t.f0 == 0) ≤ (l.filter (fun t => t.f0 != 0)).length
  | [] => by simp
  | t :: l => by
    have ih := findIdx_filter l
    by_cases h : t.f0 = 0
    · simp [List.findIdx_cons, h]
    · have e : (t.f0 == 0) = false := by simp [h]
      rw [List.findIdx_cons, e, List.filter_cons, if_pos (by simp [h]), List.length_cons]
      simpa using ih
theorem AH.least_many {A : AH} (hA : A.Ok) : (A.least : Int) ≤ A.many := by
  rw [hA.many]
  have := findIdx_filter A.slots
  unfold AH.least
  omega
theorem AH.least_of {A : AH} {j : Nat} (h : ∀ i, i < j → A.there (i : Int) = true) (h2 : A.there (j : Int) = false) (hA : A.Ok) : A.least = j := by
  rcases Nat.lt_trichotomy A.least j with h3 | h3 | h3
  · have := h _ h3
    rw [A.least_not] at this
    cases this
  · exact h3
  · have h4 := A.below_least j h3
    have h5 : ¬ 0 < (A.slots.getD j zTup).f0 := fun h6 => by
      rw [(A.there_nat j).2 h6] at h2
      cases h2
    have h7 : 0 ≤ (A.slots.getD j zTup).f0 := by
      have := A.least_le
      have hj : j < A.slots.length := by omega
      rw [List.getD_eq_getElem?_getD, List.getElem?_eq_getElem hj]
      exact hA.pos _ (List.getElem_mem hj)
    omega
/-- All slots that are there are below m, and there are no more than m. -/
structure AH.Low (A : AH) (m : Int) : Prop where
  slot : ∀ j : Nat, A.there (j : Int) = true → (j : Int) < m
  many : A.many ≤ m
theorem le_mx (a b : Int) : a ≤ mx a b ∧ b ≤ mx a b := by
  unfold mx
  split <;> omega
theorem AH.Low.step {A : AH} {m : Int} (h : A.Low m) (hA : A.Ok) (s : AStep) : (A.step s).2.2.Low (mx m (A.step s).2.2.many) := by
  have hm := le_mx m (A.step s).2.2.many
  refine ⟨fun j hj => ?_, hm.2⟩
  by_cases h0 : s.f0 = 0
  · rw [step_putE h0] at hj hm
    rw [step_putE h0]
    unfold AH.putE at hj hm ⊢
    by_cases hb : badTup s.f1
    · rw [if_pos hb] at hj hm ⊢
      have := h.slot j hj
      omega
    · rw [if_neg hb] at hj hm ⊢
      simp only at hj hm ⊢
      rw [A.put_there s.f1 (by unfold badTup at hb; omega)] at hj
      have hl := AH.least_many hA
      have hp : (A.put s.f1).many = A.many + 1 := rfl
      rcases hj with hj | hj
      · omega
      · have := h.slot j hj
        omega
  · by_cases h1 : s.f0 = 1
    · rw [step_kill h1] at hj hm
      rw [step_kill h1]
      simp only [AH.kill_there] at hj hm ⊢
      have := h.slot j hj
      omega
    · by_cases h2 : s.f0 = 2
      · rw [step_free h2] at hj hm
        rw [step_free h2]
        simp only [AH.free_there] at hj hm ⊢
        have := h.slot j hj.1
        omega
      · rw [step_next h0 h1 h2] at hj hm
        rw [step_next h0 h1 h2]
        simp only [AH.next_there] at hj hm ⊢
        have := h.slot j hj
        omega

theorem Inv.at {w0 w : World} {h : Nat} {A : AH} {F : Nat → Prop} {k : Nat} (H : Inv w0 w h A F k) (s : Int) :
    Calls Try.prog 17 #[.pointer (some ⟨h, 0, none⟩), .int .i64 s] w fun e w' => ∃ v, e = .returned (.tuple #[.agg #[.int .i64 (A.atE s).f0, .int .i64 (A.atE s).f1, .int .i64 (A.atE s).f2, .int .i64 (A.atE s).f3, .int .i64 (A.atE s).f4, .int .i64 (A.atE s).f5, v], .bool (A.there s)]) ∧
      Kd.R kVal 91 w' w.heap.size (fun _ => True) v (A.atE s).f6 ∧ Below w.heap.size w w' ∧ Inv w0 w' h A F k := by
  refine (at_calls h s A F w H.is (by have := H.lim s.toNat; unfold AH.at; omega)).mono ?_
  rintro e w' ⟨v, rfl, h1, h2⟩
  exact ⟨v, rfl, h1, h2, H.below h2⟩
theorem Inv.tell {w0 w : World} {h : Nat} {A : AH} {F : Nat → Prop} {k : Nat} (H : Inv w0 w h A F k) :
    Calls Try.prog 19 #[.pointer (some ⟨h, 0, none⟩)] w fun e w' => e = .returned (.int .i64 A.many) ∧ w' = w := len_calls h A _ w H.is
end Go.Proofs.Ytljahhgankcalaa

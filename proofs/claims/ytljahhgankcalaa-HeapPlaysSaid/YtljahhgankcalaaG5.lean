import Derived.Test.YtljahhgankcalaaGF
/-! Steps keep the numbers together. -/
namespace Go.Proofs.Ytljahhgankcalaa
open Go.RowKit Go.Maps Go.MapKept Go.WideMaps
open Go.Proofs.YtljahhgankcalaaW.PrintWords Go.Proofs.YtljahhgankcalaaW.PrintLast Go.Proofs.YtljahhgankcalaaW.PrintMore
open PHeapThere
set_option linter.unusedVariables false
set_option linter.unusedSimpArgs false

theorem zTup_f0 : zTup.f0 = 0 := rfl

theorem AH.roomy_len (A : AH) : A.roomy.slots.length = max A.slots.length (A.least + 1) := by
  have h := A.least_le
  unfold AH.roomy
  split
  · simp
    omega
  · omega
theorem AH.roomy_getD (A : AH) (i : Nat) : A.roomy.slots.getD i zTup = A.slots.getD i zTup := by
  unfold AH.roomy
  split
  · simp only [List.getD_eq_getElem?_getD, List.getElem?_append]
    split
    · rfl
    · rename_i h
      rw [List.getElem?_eq_none (l := A.slots) (by omega)]
      cases hk : i - A.slots.length with
      | zero => simp
      | succ k => simp
  · rfl
theorem AH.least_free (A : AH) : (A.slots.getD A.least zTup).f0 = 0 := by
  by_cases h : A.least < A.slots.length
  · have h1 := List.findIdx_getElem (xs := A.slots) (p := fun t => t.f0 == 0) (w := by unfold AH.least at h; exact h)
    rw [List.getD_eq_getElem?_getD, List.getElem?_eq_getElem h]
    exact eq_of_beq h1
  · rw [List.getD_eq_getElem?_getD, List.getElem?_eq_none (by omega)]
    rfl
theorem AH.below_least (A : AH) (i : Nat) (h : i < A.least) : (A.slots.getD i zTup).f0 ≠ 0 := by
  have hl := A.least_le
  have h1 := List.not_of_lt_findIdx (xs := A.slots) (p := fun t => t.f0 == 0) h
  rw [List.getD_eq_getElem?_getD, List.getElem?_eq_getElem (by omega)]
  simpa using h1
theorem AH.put_len (A : AH) (t : ATup) : (A.put t).slots.length = max A.slots.length (A.least + 1) := by
  unfold AH.put
  simp only [List.length_set]
  exact A.roomy_len
theorem AH.put_getD (A : AH) (t : ATup) (i : Nat) : (A.put t).slots.getD i zTup = if i = A.least then t else A.slots.getD i zTup := by
  have h := A.roomy_len
  rw [← A.roomy_getD]
  unfold AH.put
  simp only [List.getD_eq_getElem?_getD, List.getElem?_set]
  by_cases e : A.least = i
  · rw [if_pos e, if_pos e.symm, if_pos (by omega)]
    rfl
  · rw [if_neg e, if_neg (fun h => e h.symm)]
theorem AH.there_nat (A : AH) (i : Nat) : A.there (i : Int) = true ↔ 0 < (A.slots.getD i zTup).f0 := by
  rw [A.there_iff]
  unfold AH.at
  constructor
  · intro h
    simpa using h.2.2
  · intro h
    refine ⟨by omega, ?_, by simpa using h⟩
    rcases Nat.lt_or_ge i A.slots.length with h1 | h1
    · omega
    · rw [List.getD_eq_getElem?_getD, List.getElem?_eq_none h1] at h
      exact absurd h (by decide)
theorem AH.there_neg (A : AH) (s : Int) (h : s < 0) : A.there s = false := by
  cases e : A.there s with
  | false => rfl
  | true =>
    have := (A.there_iff s).1 e
    omega
theorem AH.there_cases (A : AH) (s : Int) (h : A.there s = true) : ∃ i : Nat, s = i ∧ i < A.slots.length ∧ 0 < (A.slots.getD i zTup).f0 := by
  have h1 := (A.there_iff s).1 h
  refine ⟨s.toNat, by omega, by omega, ?_⟩
  exact h1.2.2
theorem AH.least_not (A : AH) : A.there (A.least : Int) = false := by
  cases e : A.there (A.least : Int) with
  | false => rfl
  | true =>
    have := (A.there_nat _).1 e
    rw [A.least_free] at this
    exact absurd this (by decide)
theorem AH.put_at (A : AH) (t : ATup) (i : Nat) : (A.put t).at (i : Int) = if i = A.least then t else A.at (i : Int) := by
  unfold AH.at
  simpa using A.put_getD t i
theorem AH.put_there (A : AH) (t : ATup) (ht : 0 < t.f0) (s : Int) : (A.put t).there s = true ↔ s = (A.least : Int) ∨ A.there s = true := by
  by_cases h : s < 0
  · rw [AH.there_neg _ s h, AH.there_neg _ s h]
    simp
    omega
  · obtain ⟨i, rfl⟩ : ∃ i : Nat, s = i := ⟨s.toNat, by omega⟩
    rw [AH.there_nat, AH.there_nat, AH.put_getD]
    by_cases e : i = A.least
    · rw [if_pos e]
      simp [ht, e]
    · rw [if_neg e]
      constructor
      · exact fun h => .inr h
      · rintro (h | h)
        · omega
        · exact h

theorem filt_set (l : List ATup) (i : Nat) (t : ATup) (h : i < l.length) : (((l.set i t).filter (fun t => t.f0 != 0)).length : Int) = (l.filter (fun t => t.f0 != 0)).length - (if (l.getD i zTup).f0 = 0 then 0 else 1) + (if t.f0 = 0 then 0 else 1) := by
  induction l generalizing i with
  | nil => simp at h
  | cons x l ih =>
    cases i with
    | zero =>
      simp only [List.set_cons_zero, List.filter_cons, List.getD_cons_zero]
      by_cases a : t.f0 = 0 <;> by_cases b : x.f0 = 0 <;> simp [a, b] <;> omega
    | succ i =>
      have := ih i (by simpa using h)
      simp only [List.set_cons_succ, List.filter_cons, List.getD_cons_succ]
      by_cases b : x.f0 = 0
      · simp only [b, if_pos]
        simpa using this
      · have b1 : (x.f0 != 0) = true := by simp [b]
        simp only [b1, if_pos, List.length_cons]
        omega
theorem filt_roomy (A : AH) : (A.roomy.slots.filter (fun t => t.f0 != 0)).length = (A.slots.filter (fun t => t.f0 != 0)).length := by
  unfold AH.roomy
  split
  · simp [zTup_f0]
  · rfl

theorem AH.Ok.put {A : AH} (hA : A.Ok) (t : ATup) (h1 : ¬ badTup t) : (A.put t).Ok := by
  have hb : 1 ≤ t.f0 ∧ 1 ≤ t.f1 ∧ t.f0 ≤ 2147483647 ∧ t.f1 ≤ 2147483647 := by
    simp [badTup] at h1
    omega
  refine ⟨fun no => ?_, ?_, ?_, ?_, ?_⟩
  · have := hA.given0 no
    have := hA.given0 t.f0
    simp only [AH.put]
    split
    · unfold mx
      split <;> omega
    · assumption
  · have := filt_set A.roomy.slots A.least t (by rw [A.roomy_len]; omega)
    rw [A.roomy_getD, A.least_free, filt_roomy] at this
    simp only [AH.put]
    rw [this, hA.many, if_pos rfl, if_neg (by omega)]
    omega
  · intro x hx
    simp only [AH.put] at hx
    rcases List.mem_or_eq_of_mem_set hx with hx | rfl
    · unfold AH.roomy at hx
      split at hx
      · simp at hx
        rcases hx with hx | rfl
        · exact hA.pos _ hx
        · decide
      · exact hA.pos _ hx
    · omega
  · intro p s
    rw [A.put_there t (by omega)]
    have hr := hA.rows p s
    by_cases e : s = (A.least : Int)
    · subst e
      rw [A.put_at, if_pos rfl]
      rw [A.least_not] at hr
      simp only [AH.put]
      by_cases e2 : p = (t.f0, t.f1)
      · subst e2
        simp
      · rw [if_neg e2]
        simp at hr
        simp [hr, Ne.symm e2]
    · have hat : A.there s = true → (A.put t).at s = A.at s := fun h => by
        obtain ⟨i, rfl, _⟩ := A.there_cases s h
        rw [A.put_at, if_neg (by omega)]
      have hm : s ∈ (A.put t).rows p ↔ s ∈ A.rows p := by
        simp only [AH.put]
        split
        · rename_i e2
          subst e2
          simp [e]
        · rfl
      rw [hm, hr]
      constructor
      · rintro ⟨a, b⟩
        exact ⟨.inr a, by rw [hat a]; exact b⟩
      · rintro ⟨a | a, b⟩
        · exact absurd a e
        · exact ⟨a, by rw [hat a] at b; exact b⟩
  · intro p
    simp only [AH.put]
    split
    · rw [List.nodup_append]
      refine ⟨hA.nodup _, by simp, ?_⟩
      rintro a ha b hb rfl
      simp at hb
      subst hb
      have := ((hA.rows _ _).1 ha).1
      rw [A.least_not] at this
      cases this
    · exact hA.nodup p

theorem AH.set_getD (A : AH) (n : Nat) (t : ATup) (h : n < A.slots.length) (i : Nat) : (A.slots.set n t).getD i zTup = if i = n then t else A.slots.getD i zTup := by
  simp only [List.getD_eq_getElem?_getD, List.getElem?_set]
  by_cases e : n = i
  · rw [if_pos e, if_pos e.symm, if_pos (by omega)]
    rfl
  · rw [if_neg e, if_neg (fun h => e h.symm)]

theorem AH.Ok.kill {A : AH} (hA : A.Ok) (s x c : Int) : (A.kill s x c).2.Ok := by
  unfold AH.kill
  cases e : A.there s with
  | false => exact hA
  | true =>
    obtain ⟨i, rfl, hi, hp⟩ := A.there_cases s e
    simp only [if_pos]
    have hat : ∀ k : Nat, ((A.slots.set i { A.at (i : Int) with f4 := x, f5 := c }).getD k zTup).f0 = (A.slots.getD k zTup).f0 ∧ ((A.slots.set i { A.at (i : Int) with f4 := x, f5 := c }).getD k zTup).f1 = (A.slots.getD k zTup).f1 := fun k => by
      rw [A.set_getD i _ hi]
      split
      · rename_i e
        subst e
        simp [AH.at]
      · exact ⟨rfl, rfl⟩
    refine ⟨hA.given0, ?_, ?_, ?_, hA.nodup⟩
    · have h0 : ({ A.at (i : Int) with f4 := x, f5 := c } : ATup).f0 = (A.slots.getD i zTup).f0 := by simp [AH.at]
      simp only [Int.toNat_natCast]
      generalize ({ A.at (i : Int) with f4 := x, f5 := c } : ATup) = T at h0
      have := filt_set A.slots i T hi
      rw [this, hA.many, h0]
      omega
    · intro y hy
      rcases List.mem_or_eq_of_mem_set hy with hy | rfl
      · exact hA.pos _ hy
      · have h0 : (A.at (i : Int)).f0 = (A.slots.getD i zTup).f0 := by simp [AH.at]
        simp only
        omega
    · intro p s
      have hr := hA.rows p s
      by_cases hs : s < 0
      · rw [AH.there_neg _ s hs] at hr ⊢
        simp only [hr]
        simp
      · obtain ⟨k, rfl⟩ : ∃ k : Nat, s = k := ⟨s.toNat, by omega⟩
        rw [AH.there_nat] at hr ⊢
        simp only [AH.at, Int.toNat_natCast] at hr ⊢
        have h2 := hat k
        simp only [AH.at, Int.toNat_natCast] at h2
        rw [h2.1, h2.2]
        exact hr

theorem AH.free_getD (A : AH) (i : Nat) (hi : i < A.slots.length) (hp : 0 < (A.slots.getD i zTup).f0) (k : Nat) : (A.free (i : Int)).2.slots.getD k zTup = if k = i then zTup else A.slots.getD k zTup := by
  unfold AH.free
  rw [if_pos ((A.there_nat i).2 hp)]
  exact A.set_getD i zTup hi k
theorem AH.Ok.free {A : AH} (hA : A.Ok) (s : Int) : (A.free s).2.Ok := by
  unfold AH.free
  cases e : A.there s with
  | false => exact hA
  | true =>
    obtain ⟨i, rfl, hi, hp⟩ := A.there_cases s e
    simp only [if_pos]
    refine ⟨hA.given0, ?_, ?_, ?_, ?_⟩
    · have := filt_set A.slots i zTup hi
      simp only [Int.toNat_natCast]
      rw [this, hA.many, if_neg (by omega), if_pos zTup_f0]
      omega
    · intro y hy
      rcases List.mem_or_eq_of_mem_set hy with hy | rfl
      · exact hA.pos _ hy
      · decide
    · intro p s
      have hr := hA.rows p s
      have hm : s ∈ (if p = ((A.at (i : Int)).f0, (A.at (i : Int)).f1) then (A.rows p).filter (fun x => !(x == (i : Int))) else A.rows p) ↔ s ∈ A.rows p ∧ ¬ (p = ((A.at (i : Int)).f0, (A.at (i : Int)).f1) ∧ s = (i : Int)) := by
        by_cases e2 : p = ((A.at (i : Int)).f0, (A.at (i : Int)).f1)
        · rw [if_pos e2]
          simp [e2]
        · rw [if_neg e2]
          simp [e2]
      refine hm.trans ?_
      rw [hr]
      by_cases hs : s < 0
      · rw [AH.there_neg _ s hs, AH.there_neg _ s hs]
        simp
      · obtain ⟨k, rfl⟩ : ∃ k : Nat, s = k := ⟨s.toNat, by omega⟩
        rw [AH.there_nat, AH.there_nat]
        simp only [AH.at, Int.toNat_natCast]
        rw [A.set_getD i zTup hi k]
        by_cases ek : k = i
        · subst ek
          rw [if_pos rfl]
          simp only [zTup_f0]
          constructor
          · rintro ⟨⟨_, a⟩, b⟩
            exact absurd ⟨a.symm, trivial⟩ b
          · rintro ⟨a, _⟩
            exact absurd a (by decide)
        · rw [if_neg ek]
          constructor
          · exact fun h => h.1
          · exact fun h => ⟨h, fun h2 => ek (by omega)⟩
    · intro p
      simp only
      split
      · exact (hA.nodup p).filter _
      · exact hA.nodup p

theorem AH.Ok.next {A : AH} (hA : A.Ok) (no : Int) : (A.next no).2.Ok := by
  unfold AH.next
  split
  · exact hA
  · rename_i h
    refine ⟨fun x => ?_, hA.many, hA.pos, hA.rows, hA.nodup⟩
    have h1 := hA.given0 no
    have h2 := hA.given0 x
    simp only
    split
    · omega
    · exact h2

theorem AH.Ok.step {A : AH} (hA : A.Ok) (s : AStep) : (A.step s).2.2.Ok := by
  unfold AH.step
  split
  · unfold AH.putE
    split
    · exact hA
    · rename_i h
      exact hA.put _ h
  · split
    · exact hA.kill _ _ _
    · split
      · exact hA.free _
      · exact hA.next _

theorem AH.step_len (A : AH) (s : AStep) : (A.step s).2.2.slots.length ≤ A.slots.length + 1 := by
  have hl := A.least_le
  unfold AH.step
  split
  · unfold AH.putE
    split
    · simp
    · have := A.put_len s.f1
      simp only
      omega
  · split
    · unfold AH.kill
      split <;> simp
    · split
      · unfold AH.free
        split <;> simp
      · unfold AH.next
        split <;> simp
/-- Rows that are not long. -/
def AH.Lim (A : AH) (m : Nat) : Prop := ∀ i : Nat, (A.slots.getD i zTup).f6.length < m
theorem AH.Lim.step {A : AH} {m : Nat} (hm : 0 < m) (hA : A.Lim m) (s : AStep) (hs : s.f1.f6.length < m) : (A.step s).2.2.Lim m := by
  intro i
  unfold AH.step
  split
  · unfold AH.putE
    split
    · exact hA i
    · simp only
      rw [A.put_getD]
      split
      · exact hs
      · exact hA i
  · split
    · unfold AH.kill
      cases e : A.there s.f2 with
      | false => exact hA i
      | true =>
        obtain ⟨j, e2, hj, hp⟩ := A.there_cases _ e
        simp only [if_pos, e2, Int.toNat_natCast]
        rw [A.set_getD j _ hj]
        split
        · simp only [AH.at, Int.toNat_natCast]
          exact hA j
        · exact hA i
    · split
      · unfold AH.free
        cases e : A.there s.f2 with
        | false => exact hA i
        | true =>
          obtain ⟨j, e2, hj, hp⟩ := A.there_cases _ e
          simp only [if_pos, e2, Int.toNat_natCast]
          rw [A.set_getD j _ hj]
          split
          · exact hm
          · exact hA i
      · unfold AH.next
        split <;> exact hA i
theorem AH.empty_lim {m : Nat} (hm : 0 < m) : AH.empty.Lim m := fun i => by
  simp [AH.empty, zTup]
  exact hm
end Go.Proofs.Ytljahhgankcalaa

/-! The law's puts, and works: the examples. -/
namespace Go.Proofs.Ytljahhgankcalaa
open Go.RowKit Go.Maps Go.MapKept Go.WideMaps
open Go.Proofs.YtljahhgankcalaaW.PrintWords Go.Proofs.YtljahhgankcalaaW.PrintLast Go.Proofs.YtljahhgankcalaaW.PrintMore
open PHeapThere
set_option linter.unusedVariables false
set_option linter.unusedSimpArgs false

set_option maxRecDepth 100000 in
theorem puts_calls (h : Nat) (t : ATup) (sl : Int) (v6 : Value) (A : AH) (F : Nat → Prop) (w : World) (H : HeapIs w h A F) (hA : A.Ok) (hl : A.slots.length < 2147483648)
    (hr : Kd.R kVal 91 w 0 (fun k => ¬ F k) v6 t.f6) (hx : t.f6.length < 3518437208883) :
    Calls Try.prog 44 #[.pointer (some ⟨h, 0, none⟩), .agg #[.int .i64 t.f0, .int .i64 t.f1, .int .i64 t.f2, .int .i64 t.f3, .int .i64 t.f4, .int .i64 t.f5, v6], .int .i64 sl] w fun e w' =>
      e = .returned (.bool (decide ((A.putE t).1 = sl) && decide ((A.putE t).2.1 = 0))) ∧ HeapIs w' h (A.putE t).2.2 (ext F w w') ∧ Chg w w' F := by
  obtain ⟨A6, c6, e6⟩ := Kd.R_slice hr
  subst e6
  obtain ⟨wA, hwA⟩ : ∃ wA, wA = w.alloc (.cells #[.int .i64 t.f0, .int .i64 t.f1, .int .i64 t.f2, .int .i64 t.f3, .int .i64 t.f4, .int .i64 t.f5, .slice A6 t.f6.length c6] 39) := ⟨_, rfl⟩
  have hB1 : Below w.heap.size w wA := by rw [hwA]; exact (Below.refl _ w).alloc (Nat.le_refl _) _
  have hp := put_calls h t (.slice A6 t.f6.length c6) (fun k => ¬ F k) A F wA (H.below hB1) hA hl (Kd.R_below hr hB1) hx (fun k hk hf => hk hf)
  generalize A.putE t = r at *
  obtain ⟨r1, r2, r3⟩ := r
  simp only at hp ⊢
  rw [hwA] at hp hB1
  have HB := Aside0.mk hB1
  clear H hA hl hr hx hB1 hwA
  go_enter Try.func44, Try.ntmps44
  go_wp2_with fail
  refine hp.mono ?_
  rintro e w2 ⟨rfl, h2, h3⟩
  have h23 := Aside0.mk (And.intro h2 h3)
  clear hp h2 h3
  by_cases e1 : r1 = sl
  · have b1 : (r1 == sl) = true := beq_iff_eq.2 e1
    have E1 := Aside0.mk e1
    by_cases e2 : r2 = 0
    · have b2 : (r2 == 0) = true := beq_iff_eq.2 e2
      have E2 := Aside0.mk e2
      clear e1 e2
      go_wp2
      go_ret
      exact ⟨by simp [E1.out, E2.out], ext_trans HB.out.size h23.out.2.size h23.out.1, Chg.after_below HB.out h23.out.2⟩
    · have b2 : (r2 == 0) = false := beq_eq_false_iff_ne.2 e2
      have E2 := Aside0.mk e2
      clear e1 e2
      go_wp2
      go_ret
      exact ⟨by simp [E1.out, E2.out], ext_trans HB.out.size h23.out.2.size h23.out.1, Chg.after_below HB.out h23.out.2⟩
  · have b1 : (r1 == sl) = false := beq_eq_false_iff_ne.2 e1
    have E1 := Aside0.mk e1
    clear e1
    go_wp2
    go_ret
    exact ⟨by simp [E1.out], ext_trans HB.out.size h23.out.2.size h23.out.1, Chg.after_below HB.out h23.out.2⟩
end Go.Proofs.Ytljahhgankcalaa

/-! The heap of a law, among blocks newer than the law's start; and works: the examples. -/
namespace Go.Proofs.Ytljahhgankcalaa
open Go.RowKit Go.Maps Go.MapKept Go.WideMaps
open Go.Proofs.YtljahhgankcalaaW.PrintWords Go.Proofs.YtljahhgankcalaaW.PrintLast Go.Proofs.YtljahhgankcalaaW.PrintMore
open PHeapThere
set_option linter.unusedVariables false
set_option linter.unusedSimpArgs false

/-- The blocks made since w0. -/
def newer (w0 w : World) (k : Nat) : Prop := w0.heap.size ≤ k ∧ k < w.heap.size
/-- In w the heap at h reads as A, by blocks made since w0 alone; all else stands. -/
structure St (w0 w : World) (h : Nat) (A : AH) : Prop where
  is : HeapIs w h A (newer w0 w)
  bel : Below w0.heap.size w0 w

theorem St.after {w0 w w' : World} {h : Nat} {A A' : AH} (H : St w0 w h A) (h1 : HeapIs w' h A' (ext (newer w0 w) w w')) (h2 : Chg w w' (newer w0 w)) : St w0 w' h A' := by
  have hs := H.bel.size
  have hs2 := h2.size
  refine ⟨?_, H.bel.trans (h2.below (by omega) (fun k hk => hk.1))⟩
  obtain ⟨sv, rb, gb, rg, gg, h1⟩ := h1
  exact ⟨sv, rb, gb, rg, gg, h1.mono (fun k hk => by
    rcases hk with hk | hk
    · exact ⟨hk.1, by have := hk.2; omega⟩
    · exact ⟨by omega, hk.2⟩) (fun k hk => hk.2)⟩
theorem St.after0 {w0 w w' : World} {h : Nat} {A A' : AH} (H : St w0 w h A) (h1 : HeapIs w' h A' (newer w0 w)) (h2 : Chg w w' (newer w0 w)) : St w0 w' h A' :=
  H.after (h1.ext h2.size) h2
theorem St.below {w0 w w' : World} {h : Nat} {A : AH} (H : St w0 w h A) (hB : Below w.heap.size w w') : St w0 w' h A :=
  H.after (H.is.ext_below hB) (Chg.of_below hB _)
theorem St.drew {w0 w : World} {h : Nat} {A : AH} (H : St w0 w h A) : St w0 w.drew h A := H.below (Below.refl _ _).drew
theorem St.alloc {w0 w : World} {h : Nat} {A : AH} (H : St w0 w h A) (o : Obj) : St w0 (w.alloc o) h A := H.below ((Below.refl _ w).alloc (Nat.le_refl _) o)

theorem St.start (w0 : World) (w : World) (hB : Below w0.heap.size w0 w) : Calls Try.prog 15 #[] w fun e w' => ∃ h, e = .returned (.pointer (some ⟨h, 0, none⟩)) ∧ St w0 w' h AH.empty := by
  refine (new_calls w).mono ?_
  rintro e w' ⟨h, rfl, h1, h2⟩
  refine ⟨h, rfl, ?_, hB.trans (h2.mono hB.size)⟩
  obtain ⟨sv, rb, gb, rg, gg, h1⟩ := h1
  have hs := hB.size
  exact ⟨sv, rb, gb, rg, gg, h1.mono (fun k hk => by
    rcases hk with hk | hk
    · exact hk.elim
    · exact ⟨by omega, hk.2⟩) (fun k hk => hk.2)⟩
section
variable {w0 w : World} {h : Nat} {A : AH}
theorem St.next (H : St w0 w h A) (hA : A.Ok) (no : Int) :
    Calls Try.prog 42 #[.pointer (some ⟨h, 0, none⟩), .int .i64 no] w fun e w' => e = .returned (.int .i64 (A.next no).1) ∧ St w0 w' h (A.next no).2 := by
  refine (next_calls h no A _ w H.is hA).mono ?_
  rintro e w' ⟨rfl, h1, h2⟩
  exact ⟨rfl, H.after0 h1 h2⟩
theorem St.kill (H : St w0 w h A) (s x c : Int) :
    Calls Try.prog 40 #[.pointer (some ⟨h, 0, none⟩), .int .i64 s, .int .i64 x, .int .i64 c] w fun e w' => e = .returned (.int .i64 (A.kill s x c).1) ∧ St w0 w' h (A.kill s x c).2 := by
  refine (kill_calls h s x c A _ w H.is).mono ?_
  rintro e w' ⟨rfl, h1, h2⟩
  exact ⟨rfl, H.after0 h1 h2⟩
theorem St.free (H : St w0 w h A) (hA : A.Ok) (hl : A.slots.length < 2147483648) (s : Int) :
    Calls Try.prog 41 #[.pointer (some ⟨h, 0, none⟩), .int .i64 s] w fun e w' => e = .returned (.int .i64 (A.free s).1) ∧ St w0 w' h (A.free s).2 := by
  refine (freed_calls h s A _ w H.is hA hl).mono ?_
  rintro e w' ⟨rfl, h1, h2⟩
  exact ⟨rfl, H.after h1 h2⟩
theorem St.len (H : St w0 w h A) :
    Calls Try.prog 19 #[.pointer (some ⟨h, 0, none⟩)] w fun e w' => e = .returned (.int .i64 A.many) ∧ w' = w := len_calls h A _ w H.is
theorem St.step (H : St w0 w h A) (hA : A.Ok) (hl : A.slots.length < 2147483648) (s : AStep) (A7 : Option Addr) (c7 : Nat)
    (hr : Kd.C kVal w A7 s.f1.f6.length s.f1.f6) (hc : s.f1.f6.length ≤ c7) (hx : s.f1.f6.length < 3518437208883) :
    Calls Try.prog 16 #[.agg (stepCells s A7 c7), .pointer (some ⟨h, 0, none⟩)] w fun e w' => e = .returned (.tuple #[.int .i64 (A.step s).1, .int .i64 (A.step s).2.1]) ∧ St w0 w' h (A.step s).2.2 := by
  refine (do_calls h s A7 c7 A _ w H.is hA hl hr hc hx).mono ?_
  rintro e w' ⟨rfl, h1, h2⟩
  exact ⟨rfl, H.after h1 h2⟩
/-- puts, of a tuple that was made since w. -/
theorem St.puts (H : St w0 w h A) (hA : A.Ok) (hl : A.slots.length < 2147483648) (t : ATup) (sl : Int) (v6 : Value) {w1 : World} (hB : Below w.heap.size w w1) (hr : Kd.R kVal 91 w1 w.heap.size (fun _ => True) v6 t.f6) (hx : t.f6.length < 3518437208883) :
    Calls Try.prog 44 #[.pointer (some ⟨h, 0, none⟩), .agg #[.int .i64 t.f0, .int .i64 t.f1, .int .i64 t.f2, .int .i64 t.f3, .int .i64 t.f4, .int .i64 t.f5, v6], .int .i64 sl] w1 fun e w' =>
      e = .returned (.bool (decide ((A.putE t).1 = sl) && decide ((A.putE t).2.1 = 0))) ∧ St w0 w' h (A.putE t).2.2 := by
  refine (puts_calls h t sl v6 A (newer w0 w) w1 (H.is.below hB) hA hl (Kd.R_lower (Kd.R_mono (Kd.R_bound hr) (fun k hk hf => by
    have h1 := hk.2.1
    have h2 := hf.2
    omega)) (Nat.zero_le _)) hx).mono ?_
  rintro e w' ⟨rfl, h1, h2⟩
  exact ⟨rfl, H.after (ext_trans hB.size h2.size h1) (Chg.after_below hB h2)⟩
end

/-- The heap of works, step by step. -/
def tp (a b : Int) : ATup := ⟨a, b, 3, 0, 0, 0, []⟩
def B0 : AH := AH.empty
def B1 : AH := (B0.next 1).2
def B2 : AH := (B1.next 1).2
def B3 : AH := (B2.next 2).2
def B4 : AH := (B3.putE (tp 1 2)).2.2
def B5 : AH := (B4.putE (tp 1 2)).2.2
def B6 : AH := (B5.free 0).2
def B7 : AH := (B6.putE (tp 1 2)).2.2
def B8 : AH := (B7.putE (tp 1 7)).2.2
def B9 : AH := (B8.next 1).2
def B10 : AH := (B9.kill 5 1 1).2
theorem AH.Ok.putE {A : AH} (hA : A.Ok) (t : ATup) : (A.putE t).2.2.Ok := by
  unfold AH.putE
  split
  · exact hA
  · rename_i h
    exact hA.put _ h
theorem B0_ok : B0.Ok := AH.empty_ok
theorem B1_ok : B1.Ok := B0_ok.next 1
theorem B2_ok : B2.Ok := B1_ok.next 1
theorem B3_ok : B3.Ok := B2_ok.next 2
theorem B4_ok : B4.Ok := B3_ok.putE _
theorem B5_ok : B5.Ok := B4_ok.putE _
theorem B6_ok : B6.Ok := B5_ok.free 0
theorem B7_ok : B7.Ok := B6_ok.putE _
theorem B8_ok : B8.Ok := B7_ok.putE _
theorem B9_ok : B9.Ok := B8_ok.next 1
theorem B1_1 : (B0.next 1).1 = 1 := by decide +kernel
theorem B2_1 : (B1.next 1).1 = 2 := by decide +kernel
theorem B3_1 : (B2.next 2).1 = 1 := by decide +kernel
theorem B4_1 : (decide ((B3.putE (tp 1 2)).1 = 0) && decide ((B3.putE (tp 1 2)).2.1 = 0)) = true := by decide +kernel
theorem B5_1 : (decide ((B4.putE (tp 1 2)).1 = 1) && decide ((B4.putE (tp 1 2)).2.1 = 0)) = true := by decide +kernel
theorem B6_1 : (B5.free 0).1 = 0 := by decide +kernel
theorem B7_1 : (decide ((B6.putE (tp 1 2)).1 = 0) && decide ((B6.putE (tp 1 2)).2.1 = 0)) = true := by decide +kernel
theorem B7_s : B7.rows (1, 2) = [1, 0] := by decide +kernel
theorem B8_1 : (decide ((B7.putE (tp 1 7)).1 = 2) && decide ((B7.putE (tp 1 7)).2.1 = 0)) = true := by decide +kernel
theorem B9_1 : (B8.next 1).1 = 8 := by decide +kernel
theorem B10_1 : (B9.kill 5 1 1).1 = 1 := by decide +kernel
theorem B10_m : B10.many = 3 := by decide +kernel
theorem B_len : B3.slots.length = 0 ∧ B4.slots.length = 1 ∧ B5.slots.length = 2 ∧ B6.slots.length = 2 ∧ B7.slots.length = 2 := by decide +kernel
end Go.Proofs.Ytljahhgankcalaa

/-! works: the examples are as they are told. -/
namespace Go.Proofs.Ytljahhgankcalaa
open Go.RowKit Go.Maps Go.MapKept Go.WideMaps
open Go.Proofs.YtljahhgankcalaaW.PrintWords Go.Proofs.YtljahhgankcalaaW.PrintLast Go.Proofs.YtljahhgankcalaaW.PrintMore
open PHeapThere
set_option linter.unusedVariables false
set_option linter.unusedSimpArgs false

theorem ints_10 : covenantref03_Ints.f 9 [1, 0] [1, 0] = some true := by decide +kernel

theorem pair_reads (w : World) (a b : Int) : Kd.C (Kd.int .i64) (w.alloc (.cells #[.int .i64 a, .int .i64 b] 3)) (some ⟨w.heap.size, 0, none⟩) 2 [a, b] :=
  Kd.C_of_reads (d := (0 : Int)) (h1 := fun _ => rfl) ⟨rfl, by decide, fun _ => ⟨_, rfl, fun j hj => by
    have : j = 0 ∨ j = 1 := by omega
    have hb : (w.alloc (.cells #[.int .i64 a, .int .i64 b] 3)).heap[w.heap.size]? = some (.cells #[.int .i64 a, .int .i64 b] 3 (0, 0)) := heap_alloc_new w _
    rcases this with rfl | rfl
    · exact (blk_cell hb 0)
    · exact (blk_cell hb 1)⟩⟩

set_option maxRecDepth 100000 in
set_option maxHeartbeats 1000000 in
theorem works_calls (w0 : World) : Calls Try.prog 13 #[] w0 fun e w' => e = .returned (.bool true) ∧ Below w0.heap.size w0 w' := by
  have tup := fun (a b : Int) (w : World) => covenantlaw11_tuple.calls a b a b 3 0 0 0 [] w rfl
  have HT := Aside0.mk tup
  clear tup
  go_enter Try.func13, Try.ntmps13
  go_wp2_with fail
  refine (St.start w0 w0 (Below.refl _ _)).mono ?_
  rintro e w1 ⟨h, rfl, s1⟩
  have n := s1.next (A := B0) B0_ok 1
  rw [B1_1] at n
  replace s1 := Aside0.mk s1
  go_wp2_with fail
  refine n.mono ?_
  clear n
  rintro e w2 ⟨rfl, s2⟩
  have n := s2.next (A := B1) B1_ok 1
  rw [B2_1] at n
  replace s2 := Aside0.mk s2
  go_wp2_with fail
  refine n.mono ?_
  clear n
  rintro e w3 ⟨rfl, s3⟩
  have n := s3.next (A := B2) B2_ok 2
  rw [B3_1] at n
  replace s3 := Aside0.mk s3
  go_wp2_with fail
  refine n.mono ?_
  clear n
  rintro e w4 ⟨rfl, s4⟩
  replace s4 := Aside0.mk s4
  have n := HT.out 1 2 w4
  go_wp2_with fail
  refine n.mono ?_
  clear n
  rintro e w5 ⟨v5, rfl, o5, b5⟩
  have n := s4.out.puts (A := B3) B3_ok (by rw [B_len.1]; decide) (tp 1 2) 0 v5 b5 o5 (by decide)
  rw [B4_1] at n
  clear o5 b5
  go_wp2_with fail
  refine n.mono ?_
  clear n
  rintro e w6 ⟨rfl, s6⟩
  replace s6 := Aside0.mk s6
  have n := HT.out 1 2 w6
  go_wp2_with fail
  refine n.mono ?_
  clear n
  rintro e w7 ⟨v7, rfl, o7, b7⟩
  have n := s6.out.puts (A := B4) B4_ok (by rw [B_len.2.1]; decide) (tp 1 2) 1 v7 b7 o7 (by decide)
  rw [B5_1] at n
  clear o7 b7
  go_wp2_with fail
  refine n.mono ?_
  clear n
  rintro e w8 ⟨rfl, s8⟩
  have n := s8.free (A := B5) B5_ok (by rw [B_len.2.2.1]; decide) 0
  rw [B6_1] at n
  replace s8 := Aside0.mk s8
  go_wp2_with fail
  refine n.mono ?_
  clear n
  rintro e w9 ⟨rfl, s9⟩
  replace s9 := Aside0.mk s9
  have n := HT.out 1 2 w9
  go_wp2_with fail
  refine n.mono ?_
  clear n
  rintro e wa ⟨va, rfl, oa, ba⟩
  have n := s9.out.puts (A := B6) B6_ok (by rw [B_len.2.2.2.1]; decide) (tp 1 2) 0 va ba oa (by decide)
  rw [B7_1] at n
  clear oa ba
  go_wp2_with fail
  refine n.mono ?_
  clear n
  rintro e wb ⟨rfl, sb⟩
  have n := slots_calls h 1 2 B7 _ wb sb.is (by exact ⟨okI_of (by decide) (by decide), okI_of (by decide) (by decide)⟩) (by rw [B7_s]; decide)
  rw [B7_s] at n
  replace sb := Aside0.mk sb
  go_wp2_with fail
  refine n.mono ?_
  clear n
  rintro e wc ⟨vc, rfl, oc, bc⟩
  have sc := Aside0.mk (sb.out.below bc)
  obtain ⟨Ac, cc, ec⟩ := Kd.R_slice oc
  subst ec
  replace oc := Aside0.mk oc
  clear bc
  go_wp2_with fail
  have n := covenantref03_Ints.calls 9 Ac cc [1, 0] _ 2 [1, 0] true _ (Kd.C_below (Kd.R_reads' oc.out).2.2 ((Below.refl _ wc).alloc (Nat.le_refl _) (.cells #[.int .i64 1, .int .i64 0] 3))) (Kd.R_reads' oc.out).2.1 (pair_reads wc 1 0) (by decide) ints_10
  refine n.mono ?_
  clear n oc
  rintro e wd ⟨rfl, hd⟩
  have sd := Aside0.mk (sc.out.below (((Below.refl _ wc).alloc (Nat.le_refl _) (.cells #[.int .i64 1, .int .i64 0] 3)).trans (hd.below.mono (by simp))))
  clear hd
  have n := HT.out 1 7 wd
  go_wp2_with fail
  refine n.mono ?_
  clear n
  rintro e we ⟨ve, rfl, oe, be⟩
  have n := sd.out.puts (A := B7) B7_ok (by rw [B_len.2.2.2.2]; decide) (tp 1 7) 2 ve be oe (by decide)
  rw [B8_1] at n
  clear oe be
  go_wp2_with fail
  refine n.mono ?_
  clear n
  rintro e wf ⟨rfl, sf⟩
  have n := sf.next (A := B8) B8_ok 1
  rw [B9_1] at n
  replace sf := Aside0.mk sf
  go_wp2_with fail
  refine n.mono ?_
  clear n
  rintro e wg ⟨rfl, sg⟩
  have n := sg.kill (A := B9) 5 1 1
  rw [B10_1] at n
  replace sg := Aside0.mk sg
  go_wp2_with fail
  refine n.mono ?_
  clear n
  rintro e wh ⟨rfl, sh⟩
  have n := sh.len (A := B10)
  rw [B10_m] at n
  replace sh := Aside0.mk sh
  go_wp2_with fail
  refine n.mono ?_
  clear n
  rintro e wi ⟨rfl, rfl⟩
  go_wp2
  go_ret
  exact ⟨rfl, sh.out.bel⟩
end Go.Proofs.Ytljahhgankcalaa

/-! large: it ends; and what is not large is small. -/
namespace Go.Proofs.Ytljahhgankcalaa
open Go.RowKit Go.Maps Go.MapKept Go.WideMaps
open Go.Proofs.YtljahhgankcalaaW.PrintWords Go.Proofs.YtljahhgankcalaaW.PrintLast Go.Proofs.YtljahhgankcalaaW.PrintMore
open PHeapThere
set_option linter.unusedVariables false
set_option linter.unusedSimpArgs false

/-- What a slice of steps is, in memory: no string is greater than memory. -/
def Sized (l : List AStep) : Prop := l.length ≤ 140737488351232 ∧ ∀ i : Nat, (l.getD i zStep).f1.f6.length ≤ 140737488351232 ∧ ∀ j : Nat, ((l.getD i zStep).f1.f6.getD j z91).f3.size ≤ 140737488351232

theorem wrap64_self {n : Int} (h0 : -9223372036854775808 ≤ n) (h1 : n ≤ 9223372036854775807) : wrap64 n = n := by unfold wrap64; omega
theorem large_inner (l : List AStep) (hl : Sized l) (x4 : Int) (h4 : 0 ≤ x4) (h4l : x4 < (l.length : Int)) : ∀ (n : Nat) (x3 x5 : Int), 0 ≤ x3 → x3 ≤ 281474976710656 → 0 ≤ x5 → 4 * x5 ≤ x3 → x5 + n = ((l.getD x4.toNat zStep).f1.f6.length : Int) →
    ∃ j x3', 0 ≤ x3' ∧ x3' ≤ 281474976710656 ∧ (x3' < 20000 → 4 * ((l.getD x4.toNat zStep).f1.f6.length : Int) ≤ x3') ∧ ∀ k, covenantlaw11_large.l1 (k + j) l x3 x4 x5 = covenantlaw11_large.l0 k l x3' (x4 + 1)
  | 0, x3, x5, a, a2, b, c, d => ⟨1, x3, a, a2, fun _ => by omega, fun k => by
      have hll := hl.1
      have e : wrap64 (x4 + 1) = x4 + 1 := wrap64_self (by omega) (by omega)
      rw [show k + 1 = (k + 0) + 1 from rfl, covenantlaw11_large.l1, if_pos h4, if_pos h4l, if_neg (by show ¬ x5 < ((l.getD x4.toNat zStep).f1.f6.length : Int); omega), e]⟩
  | n + 1, x3, x5, a, a2, b, c, d => by
    have hll := hl.1
    have hi := hl.2 x4.toNat
    have hs := hi.2 x5.toNat
    have e4 : wrap64 (x4 + 1) = x4 + 1 := wrap64_self (by omega) (by omega)
    by_cases h3 : x3 < 20000
    · have e5 : wrap64 (x5 + 1) = x5 + 1 := wrap64_self (by omega) (by omega)
      have e6 : wrap64 (x3 + 4) = x3 + 4 := wrap64_self (by omega) (by omega)
      have e7 : wrap64 (x3 + 4 + (((rd_T91 ((rd_T34 l x4).f1.f6) x5).f3).size : Int)) = x3 + 4 + (((rd_T91 ((rd_T34 l x4).f1.f6) x5).f3).size : Int) := wrap64_self (by omega) (by
        have : ((rd_T91 ((rd_T34 l x4).f1.f6) x5).f3).size ≤ 140737488351232 := hs
        omega)
      have hs' : ((rd_T91 ((rd_T34 l x4).f1.f6) x5).f3).size ≤ 140737488351232 := hs
      obtain ⟨j, x3', r1, r2, r3, r4⟩ := large_inner l hl x4 h4 h4l n (x3 + 4 + (((rd_T91 ((rd_T34 l x4).f1.f6) x5).f3).size : Int)) (x5 + 1) (by omega) (by omega) (by omega) (by omega) (by omega)
      refine ⟨j + 1, x3', r1, r2, r3, fun k => ?_⟩
      rw [← Nat.add_assoc, covenantlaw11_large.l1, if_pos h4, if_pos h4l, if_pos (by show x5 < ((l.getD x4.toNat zStep).f1.f6.length : Int); omega), if_pos h3, if_pos b, e5, e6, e7]
      exact r4 k
    · refine ⟨1, x3, a, a2, fun h => absurd h h3, fun k => ?_⟩
      rw [covenantlaw11_large.l1, if_pos h4, if_pos h4l, if_pos (by show x5 < ((l.getD x4.toNat zStep).f1.f6.length : Int); omega), if_neg h3, e4]

theorem large_outer (l : List AStep) (hl : Sized l) : ∀ (n : Nat) (x3 x4 : Int), 0 ≤ x3 → x3 ≤ 281474976710656 → 0 ≤ x4 → x4 + n = (l.length : Int) →
    ∃ k r, covenantlaw11_large.l0 k l x3 x4 = some r ∧ (r = false → x3 < 20000 ∧ l.length ≤ 120 ∧ ∀ i : Nat, x4 ≤ i → i < l.length → 4 * (l.getD i zStep).f1.f6.length < 20000)
  | 0, x3, x4, a, a2, b, c => by
    by_cases h3 : x3 < 20000
    · refine ⟨2, decide ((l.length : Int) > 120), ?_, fun h => ⟨h3, by have := of_decide_eq_false h; omega, fun i h1 h2 => by omega⟩⟩
      rw [covenantlaw11_large.l0, if_neg (by omega), covenantlaw11_large.j1, if_neg (by decide), if_neg (by omega)]
    · refine ⟨2, true, ?_, fun h => by cases h⟩
      rw [covenantlaw11_large.l0, if_neg (by omega), covenantlaw11_large.j1, if_neg (by decide), if_pos (by omega)]
  | n + 1, x3, x4, a, a2, b, c => by
    by_cases h3 : x3 < 20000
    · obtain ⟨j, x3', r1, r2, r3, r4⟩ := large_inner l hl x4 b (by omega) (l.getD x4.toNat zStep).f1.f6.length (x3 + 10) 0 (by omega) (by omega) (by omega) (by omega) (by omega)
      obtain ⟨k, r, q1, q2⟩ := large_outer l hl n x3' (x4 + 1) r1 r2 (by omega) (by omega)
      refine ⟨k + j + 1 + 1, r, ?_, fun h => ?_⟩
      · rw [covenantlaw11_large.l0, if_pos (by omega), decide_eq_true h3, covenantlaw11_large.j1, if_pos rfl, wrap64_self (by omega) (by omega), r4]
        exact q1
      · obtain ⟨w1, w2, w3⟩ := q2 h
        refine ⟨h3, w2, fun i h1 h2 => ?_⟩
        by_cases hi : i = x4.toNat
        · subst hi
          have := r3 w1
          omega
        · exact w3 i (by omega) h2
    · refine ⟨2, true, ?_, fun h => by cases h⟩
      rw [covenantlaw11_large.l0, if_pos (by omega), decide_eq_false h3, covenantlaw11_large.j1, if_neg (by decide), if_pos (by omega)]

theorem large_is (l : List AStep) (hl : Sized l) : ∃ k r, covenantlaw11_large.f k l = some r ∧ (r = false → l.length ≤ 120 ∧ ∀ i : Nat, (l.getD i zStep).f1.f6.length < 20000) := by
  obtain ⟨k, r, h1, h2⟩ := large_outer l hl l.length 0 0 (by omega) (by omega) (by omega) (by omega)
  refine ⟨k, r, h1, fun h => ⟨(h2 h).2.1, fun i => ?_⟩⟩
  by_cases hi : i < l.length
  · have := (h2 h).2.2 i (by omega) hi
    omega
  · rw [List.getD_eq_getElem?_getD, List.getElem?_eq_none (by omega)]
    decide
end Go.Proofs.Ytljahhgankcalaa

/-! HeapIDs: the walk. -/
namespace Go.Proofs.Ytljahhgankcalaa
open Go.RowKit Go.Maps Go.MapKept Go.WideMaps
open Go.Proofs.YtljahhgankcalaaW.PrintWords Go.Proofs.YtljahhgankcalaaW.PrintLast Go.Proofs.YtljahhgankcalaaW.PrintMore
open PHeapThere
attribute [local go_sem] max2_mx min2_mn max_two min_two
set_option linter.unusedVariables false
set_option linter.unusedSimpArgs false

/-- A law's loop over its steps: after k of them. -/
structure Inv (w0 w : World) (h : Nat) (A : AH) (F : Nat → Prop) (k : Nat) : Prop where
  is : HeapIs w h A F
  low : ∀ b, F b → w0.heap.size ≤ b
  bel : Below w0.heap.size w0 w
  ok : A.Ok
  len : A.slots.length ≤ k
  lim : A.Lim 20000
theorem Inv.of_st {w0 w : World} {h : Nat} (H : St w0 w h AH.empty) : Inv w0 w h AH.empty (newer w0 w) 0 :=
  ⟨H.is, fun b hb => hb.1, H.bel, AH.empty_ok, by simp [AH.empty], AH.empty_lim (by decide)⟩
theorem Inv.step {w0 w : World} {h : Nat} {A : AH} {F : Nat → Prop} {k : Nat} (H : Inv w0 w h A F k) (hk : k < 2147483648) (s : AStep) (A7 : Option Addr) (c7 : Nat)
    (hr : Kd.C kVal w A7 s.f1.f6.length s.f1.f6) (hc : s.f1.f6.length ≤ c7) (hx : s.f1.f6.length < 20000) :
    Calls Try.prog 16 #[.agg (stepCells s A7 c7), .pointer (some ⟨h, 0, none⟩)] w fun e w' => e = .returned (.tuple #[.int .i64 (A.step s).1, .int .i64 (A.step s).2.1]) ∧ Inv w0 w' h (A.step s).2.2 (ext F w w') (k + 1) ∧ Chg w w' F := by
  refine (do_calls h s A7 c7 A F w H.is H.ok (by have := H.len; omega) hr hc (by omega)).mono ?_
  rintro e w' ⟨rfl, h1, h2⟩
  have hb := H.bel.size
  refine ⟨rfl, ⟨h1, fun b hb' => ?_, H.bel.trans (h2.below hb H.low), H.ok.step s, by have := A.step_len s; have := H.len; omega, H.lim.step (by decide) s hx⟩, h2⟩
  rcases hb' with hb' | hb'
  · exact H.low b hb'
  · have := hb'.1
    omega
/-- Another block of the law's own has changed. -/
theorem Inv.other {w0 w w' : World} {h : Nat} {A : AH} {F S : Nat → Prop} {k : Nat} (H : Inv w0 w h A F k) (hc : Chg w w' S) (hS : ∀ b, F b → ¬ S b) (hl : ∀ b, S b → w0.heap.size ≤ b) : Inv w0 w' h A F k :=
  ⟨H.is.chg hc hS, H.low, H.bel.trans (hc.below H.bel.size hl), H.ok, H.len, H.lim⟩
theorem Inv.below {w0 w w' : World} {h : Nat} {A : AH} {F : Nat → Prop} {k : Nat} (H : Inv w0 w h A F k) (hB : Below w.heap.size w w') : Inv w0 w' h A F k :=
  H.other (Chg.of_below hB (fun _ => False)) (fun _ _ h => h) (fun _ h => h.elim)

theorem step_putE {A : AH} {s : AStep} (h : s.f0 = 0) : A.step s = A.putE s.f1 := by unfold AH.step; rw [if_pos h]
theorem step_kill {A : AH} {s : AStep} (h : s.f0 = 1) : A.step s = (0, (A.kill s.f2 s.f3 s.f4).1, (A.kill s.f2 s.f3 s.f4).2) := by unfold AH.step; rw [if_neg (by omega), if_pos h]
theorem step_free {A : AH} {s : AStep} (h : s.f0 = 2) : A.step s = (0, (A.free s.f2).1, (A.free s.f2).2) := by unfold AH.step; rw [if_neg (by omega), if_neg (by omega), if_pos h]
theorem step_next {A : AH} {s : AStep} (h0 : s.f0 ≠ 0) (h1 : s.f0 ≠ 1) (h2 : s.f0 ≠ 2) : A.step s = ((A.next s.f3).1, 0, (A.next s.f3).2) := by unfold AH.step; rw [if_neg h0, if_neg h1, if_neg h2]
theorem kill_given (A : AH) (s x c : Int) : (A.kill s x c).2.given = A.given := by unfold AH.kill; split <;> rfl
theorem free_given (A : AH) (s : Int) : (A.free s).2.given = A.given := by unfold AH.free; split <;> rfl

theorem step_cases (A : AH) (s : AStep) {n e : Int} {A' : AH} (h : A.step s = (n, e, A')) :
    ((e ≠ 0 ∨ s.f0 = 1 ∨ s.f0 = 2) ∧ A'.given = A.given) ∨
    (e = 0 ∧ s.f0 = 0 ∧ (1 ≤ s.f1.f0 ∧ s.f1.f0 ≤ 2147483647 ∧ 1 ≤ s.f1.f1 ∧ s.f1.f1 ≤ 2147483647) ∧ A'.given = fun y => if y = s.f1.f0 then mx (A.given s.f1.f0) s.f1.f1 else A.given y) ∨
    (e = 0 ∧ (s.f0 ≠ 0 ∧ s.f0 ≠ 1 ∧ s.f0 ≠ 2) ∧ (s.f3 < 1 ∨ 2147483647 < s.f3 ∨ A.given s.f3 = 2147483647) ∧ n = 0 ∧ A'.given = A.given) ∨
    (e = 0 ∧ (s.f0 ≠ 0 ∧ s.f0 ≠ 1 ∧ s.f0 ≠ 2) ∧ ¬ (s.f3 < 1 ∨ 2147483647 < s.f3 ∨ A.given s.f3 = 2147483647) ∧ n = A.given s.f3 + 1 ∧ A'.given = fun x => if x = s.f3 then A.given s.f3 + 1 else A.given x) := by
  by_cases h0 : s.f0 = 0
  · rw [step_putE h0] at h
    unfold AH.putE at h
    by_cases hb : badTup s.f1
    · rw [if_pos hb] at h
      injection h with h1 h
      injection h with h2 h3
      exact .inl ⟨.inl (by omega), by rw [← h3]⟩
    · rw [if_neg hb] at h
      injection h with h1 h
      injection h with h2 h3
      unfold badTup at hb
      exact .inr (.inl ⟨h2.symm, h0, by omega, by rw [← h3]; rfl⟩)
  · by_cases h1 : s.f0 = 1
    · rw [step_kill h1] at h
      injection h with h2 h
      injection h with h3 h4
      exact .inl ⟨.inr (.inl h1), by rw [← h4, kill_given]⟩
    · by_cases h2 : s.f0 = 2
      · rw [step_free h2] at h
        injection h with h3 h
        injection h with h4 h5
        exact .inl ⟨.inr (.inr h2), by rw [← h5, free_given]⟩
      · rw [step_next h0 h1 h2] at h
        injection h with h3 h
        injection h with h4 h5
        unfold AH.next at h3 h5
        by_cases hc : s.f3 < 1 ∨ 2147483647 < s.f3 ∨ A.given s.f3 = 2147483647
        · rw [if_pos hc] at h3 h5
          exact .inr (.inr (.inl ⟨h4.symm, ⟨h0, h1, h2⟩, hc, h3.symm, by rw [← h5]⟩))
        · rw [if_neg hc] at h3 h5
          exact .inr (.inr (.inr ⟨h4.symm, ⟨h0, h1, h2⟩, hc, h3.symm, by rw [← h5]⟩))

set_option maxRecDepth 100000 in
set_option maxHeartbeats 2000000 in
theorem ids_calls (A0 : Option Addr) (c0 : Nat) (l : List AStep) (w : World) (hr : Kd.C kStep w A0 l.length l) (hc : l.length ≤ c0) (hs : Sized l) :
    Calls Try.prog 3 #[.slice A0 l.length c0] w fun e w' => e = .returned (.bool true) ∧ Below w.heap.size w w' := by
  obtain ⟨kl, r, hlg, hsm⟩ := large_is l hs
  have HR := Aside0.mk hr
  have HC := Aside0.mk hc
  have HS := Aside0.mk hs
  have HLG := Aside0.mk hlg
  have HSM := Aside0.mk hsm
  clear hr hc hs hlg hsm
  go_enter Try.func3, Try.ntmps3
  go_wp2_with fail
  refine (works_calls w).mono ?_
  rintro e w1 ⟨rfl, b1⟩
  replace b1 := Aside0.mk b1
  go_wp2_with fail
  refine (covenantlaw11_large.calls kl A0 c0 l r w1 (Kd.C_below HR.out b1.out) HC.out HLG.out).mono ?_
  rintro e w2 ⟨rfl, d2⟩
  have b2 := Aside0.mk (b1.out.trans (d2.below.mono b1.out.size))
  clear d2
  cases r with
  | true =>
    go_wp2_with fail
    refine (works_calls w2).mono ?_
    rintro e w3 ⟨rfl, b3⟩
    have b4 := Aside0.mk (b2.out.trans (b3.mono b2.out.size))
    clear b3
    go_wp2
    go_ret
    exact ⟨rfl, b4.out⟩
  | false =>
    obtain ⟨hl120, hrow⟩ := HSM.out rfl
    have HROW := Aside0.mk hrow
    clear hrow
    go_wp2_with fail
    refine (St.start w w2 b2.out).mono ?_
    rintro e w3 ⟨h, rfl, s3⟩
    have hmm := @run_makeMap Try.prog
    replace s3 := Aside0.mk s3
    go_wp2
    go_loopw [5] (fun v5 wr => ∃ (k : Nat) (A : AH) (F : Nat → Prop) (mg : Int → Option Int), k ≤ l.length ∧ v5 = .int .i64 k ∧ Aside0 (Inv w wr h A F k) ∧ Aside0 (¬ F w3.heap.size) ∧ Aside0 (MapOf (Value.int .i64) (Value.int .i64) okI wr w3.heap.size mg) ∧ Aside0 (∀ no, (mg no).getD 0 = A.given no)) (fun v5 _ => l.length - (intOf v5).toNat)
    case atStart => exact ⟨0, AH.empty, newer w w3, fun _ => none, Nat.zero_le _, rfl, ⟨(Inv.of_st s3.out).below ((Below.refl _ w3).alloc (Nat.le_refl _) _)⟩, ⟨fun hf => by have := hf.2; omega⟩, ⟨MapOf.made w3 _ _ _⟩, ⟨fun no => rfl⟩⟩
    case round =>
      obtain ⟨k, A, F, mg, hk, rfl, HI, HF, HM, HG⟩ := hrel
      by_cases hlt : k < l.length
      · have b1 : decide ((k : Int) < (l.length : Int)) = true := decide_eq_true (by omega)
        have p0 : (0 : Int) ≤ (k : Int) := by omega
        have p1 : (k : Int) < (l.length : Int) := by omega
        have hrow := HROW.out k
        obtain ⟨ad, A7, c7, e1, hx⟩ := at_T34 (Kd.C_below HR.out HI.out.bel) k p0 p1
        have hre := fun (w' : World) (hb : Below w.heap.size w w') => at_T34 (Kd.C_below HR.out hb) k p0 p1
        have hrd : (l.getD k zStep) = rd_T34 l k := rfl
        rw [hrd] at hrow
        generalize rd_T34 l k = s at hx hre hrow
        clear hrd
        replace hre := Aside0.mk hre
        obtain ⟨x0, x1, x2, x3, x4, x5, x6, x7, x8, x9, x10, hc7, hr7⟩ := hx
        cases e1
        simp only [Int.toNat_natCast] at x0 x1 x2 x3 x4 x5 x6 x7 x8 x9 x10
        have hst := HI.out.step (by omega) s A7 c7 hr7 hc7 hrow
        have hok := HI.out.ok
        obtain ⟨n, e, A', hstep⟩ : ∃ n e A', A.step s = (n, e, A') := ⟨_, _, _, rfl⟩
        have hcs := Aside0.mk (step_cases A s hstep)
        rw [hstep] at hst
        simp only [stepCells] at hst
        clear hstep
        clear hr7 hc7 hrow
        go_wp2_with fail
        refine hst.mono ?_
        clear hst x0 x1 x2 x3 x4 x5 x6 x7 x8 x9 x10
        rintro ee w4 ⟨rfl, HI2, hch⟩
        have HF2 : ¬ ext F wr w4 w3.heap.size := fun hf => by
          rcases hf with hf | hf
          · exact HF.out hf
          · have := HM.out.lt
            omega
        have HM2 := HM.out.chg hch HF.out
        obtain ⟨ad2, A72, c72, e2, x0, x1, x2, x3, x4, x5, x6, x7, x8, x9, x10, _, _⟩ := hre.out w4 HI2.bel
        cases e2
        simp only [Int.toNat_natCast] at x0 x1 x2 x3 x4 x5 x6 x7 x8 x9 x10
        replace HI2 := Aside0.mk HI2
        replace HF2 := Aside0.mk HF2
        clear hch
        have hgn := Aside0.mk hok.given0
        clear hok
        have HM3 := Aside0.mk HM2
        clear HM2
        rcases hcs.out with ⟨hc, hg⟩ | ⟨he, h0, ht, hg⟩ | ⟨he, ⟨h0, h1, h2⟩, ht, hn, hg⟩ | ⟨he, ⟨h0, h1, h2⟩, ht, hn, hg⟩
        · clear hcs
          have HG2 := Aside0.mk (show ∀ no, (mg no).getD 0 = A'.given no from fun no => by rw [hg]; exact HG.out no)
          clear hg
          by_cases c0 : e = 0
          · subst c0
            by_cases c1 : s.f0 = 1
            · have d1 : (s.f0 == 1) = true := beq_iff_eq.2 c1
              clear c1 hc
              go_wp2
              go_roundw
              case measure => simp [intOf]; omega
              case rel => exact ⟨k + 1, A', _, mg, by omega, by go_num, HI2, HF2, HM3, HG2⟩
            · have d1 : (s.f0 == 1) = false := beq_eq_false_iff_ne.2 c1
              have d2 : (s.f0 == 2) = true := beq_iff_eq.2 (by omega)
              clear c1 hc
              go_wp2
              go_roundw
              case measure => simp [intOf]; omega
              case rel => exact ⟨k + 1, A', _, mg, by omega, by go_num, HI2, HF2, HM3, HG2⟩
          · have d0 : (e == 0) = false := beq_eq_false_iff_ne.2 c0
            clear hc
            go_wp2
            go_roundw
            case measure => simp [intOf]; omega
            case rel => exact ⟨k + 1, A', _, mg, by omega, by go_num, HI2, HF2, HM3, HG2⟩
        · clear hcs
          subst he
          have d1 : (s.f0 == 0) = true := beq_iff_eq.2 h0
          have d2 : (s.f0 == 1) = false := beq_eq_false_iff_ne.2 (by omega)
          have d3 : (s.f0 == 2) = false := beq_eq_false_iff_ne.2 (by omega)
          have hoki : okI s.f1.f0 := okI_of (by omega) (by omega)
          have hlk := gmap_look (HM3.out.drew) hoki
          rw [HG.out] at hlk
          obtain ⟨w5, hup, hm5, hc5, hs5⟩ := HM3.out.drew.store keyInt Try.underlying27 hoki (mx (A.given s.f1.f0) s.f1.f1)
          have HG2 := Aside0.mk (show ∀ no, ((upd mg s.f1.f0 (some (mx (A.given s.f1.f0) s.f1.f1))) no).getD 0 = A'.given no from fun no => by
            rw [hg]
            by_cases hx : no = s.f1.f0
            · subst hx; rw [upd_same]; simp
            · rw [upd_other _ _ hx]; simp [hx, HG.out no])
          have y1 := hc5.cell_some (p := ⟨(ad.add (k * 11)).block, (ad.add (k * 11)).off + 1, none⟩) x1 (HM3.out.no_cell x1)
          have y2 := hc5.cell_some (p := ⟨(ad.add (k * 11)).block, (ad.add (k * 11)).off + 2, none⟩) x2 (HM3.out.no_cell x2)
          replace hm5 := Aside0.mk hm5
          replace hc5 := Aside0.mk hc5
          clear h0 hg hoki hs5
          replace ht := Aside0.mk ht
          go_wp2_with fail
          go_region_held3 (fun w' => w'.cell? ⟨(ad.add (k * 11)).block, (ad.add (k * 11)).off + 1, none⟩ = some (.int .i64 s.f1.f0) ∧ w'.cell? ⟨(ad.add (k * 11)).block, (ad.add (k * 11)).off + 2, none⟩ = some (.int .i64 s.f1.f1)) (go_keep) ((fail))
          go_wp2
          go_roundw
          case measure => simp [intOf]; omega
          case rel => exact ⟨k + 1, A', _, _, by omega, by go_num, ⟨HI2.out.other (S := fun b => b = w3.heap.size) ⟨hc5.out.os, hc5.out.tape, hc5.out.output, hc5.out.size, hc5.out.block⟩ (fun b hb e => HF2.out (e ▸ hb)) (fun b hb => by rw [hb]; exact s3.out.bel.size)⟩, HF2, hm5, HG2⟩
        · clear hcs
          subst he
          subst hn
          have d1 : (s.f0 == 0) = false := beq_eq_false_iff_ne.2 h0
          have d2 : (s.f0 == 1) = false := beq_eq_false_iff_ne.2 h1
          have d3 : (s.f0 == 2) = false := beq_eq_false_iff_ne.2 h2
          have HG2 := Aside0.mk (show ∀ no, (mg no).getD 0 = A'.given no from fun no => by rw [hg]; exact HG.out no)
          clear h0 h1 h2 hg
          by_cases t1 : s.f3 < 1
          · have d4 : decide (s.f3 < 1) = true := decide_eq_true t1
            clear ht t1
            go_wp2
            go_roundw
            case measure => simp [intOf]; omega
            case rel => exact ⟨k + 1, A', _, mg, by omega, by go_num, HI2, HF2, HM3, HG2⟩
          · have d4 : decide (s.f3 < 1) = false := decide_eq_false t1
            by_cases t2 : 2147483647 < s.f3
            · have d5 : decide (2147483647 < s.f3) = true := decide_eq_true t2
              clear ht t1 t2
              go_wp2
              go_roundw
              case measure => simp [intOf]; omega
              case rel => exact ⟨k + 1, A', _, mg, by omega, by go_num, HI2, HF2, HM3, HG2⟩
            · have d5 : decide (2147483647 < s.f3) = false := decide_eq_false t2
              have hlk := gmap_look HM3.out (no := s.f3) (okI_of (by omega) (by omega))
              rw [HG.out, show A.given s.f3 = 2147483647 from by omega] at hlk
              clear ht t1 t2
              go_wp2
              go_roundw
              case measure => simp [intOf]; omega
              case rel => exact ⟨k + 1, A', _, mg, by omega, by go_num, HI2, HF2, HM3, HG2⟩
        · clear hcs
          subst he
          have hgi := hgn.out s.f3
          have d1 : (s.f0 == 0) = false := beq_eq_false_iff_ne.2 h0
          have d2 : (s.f0 == 1) = false := beq_eq_false_iff_ne.2 h1
          have d3 : (s.f0 == 2) = false := beq_eq_false_iff_ne.2 h2
          have d4 : decide (s.f3 < 1) = false := decide_eq_false (by omega)
          have d5 : decide (2147483647 < s.f3) = false := decide_eq_false (by omega)
          have d6 : (A.given s.f3 == 2147483647) = false := beq_eq_false_iff_ne.2 (by omega)
          have hoki : okI s.f3 := okI_of (by omega) (by omega)
          have hlk := gmap_look HM3.out hoki
          rw [HG.out] at hlk
          obtain ⟨w5, hup, hm5, hc5, hs5⟩ := HM3.out.store keyInt Try.underlying27 hoki (A.given s.f3 + 1)
          have HG2 := Aside0.mk (show ∀ no, ((upd mg s.f3 (some (A.given s.f3 + 1))) no).getD 0 = A'.given no from fun no => by
            rw [hg]
            by_cases hx : no = s.f3
            · subst hx; rw [upd_same]; simp
            · rw [upd_other _ _ hx]; simp [hx, HG.out no])
          have hG0 : 0 ≤ A.given s.f3 := hgi.1
          have hG1 : A.given s.f3 < 2147483647 := by omega
          subst hn
          replace hm5 := Aside0.mk hm5
          replace hc5 := Aside0.mk hc5
          clear h0 h1 h2 hg ht hgi hoki hs5
          go_wp2
          go_roundw
          case measure => simp [intOf]; omega
          case rel => exact ⟨k + 1, A', _, _, by omega, by go_num, ⟨HI2.out.other (S := fun b => b = w3.heap.size) ⟨hc5.out.os, hc5.out.tape, hc5.out.output, hc5.out.size, hc5.out.block⟩ (fun b hb e => HF2.out (e ▸ hb)) (fun b hb => by rw [hb]; exact s3.out.bel.size)⟩, HF2, hm5, HG2⟩
      · have b1 : decide ((k : Int) < (l.length : Int)) = false := decide_eq_false (by omega)
        go_wp2
        go_ret
        exact ⟨rfl, HI.out.bel⟩
end Go.Proofs.Ytljahhgankcalaa

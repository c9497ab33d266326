import Derived.Test.YtljahhgankcalaaHddM
/-! Steps keep the numbers together. -/
namespace Go.Proofs.Ytljahhgankcalaa
open Go.RowKit Go.Maps Go.MapKept Go.WideMaps
open Go.Proofs.YtljahhgankcalaaW.PrintWords Go.Proofs.YtljahhgankcalaaW.PrintLast Go.Proofs.YtljahhgankcalaaW.PrintMore
open PHeapThere
set_option linter.unusedVariables false
set_option linter.unusedSimpArgs false

theorem zTup_f0 : zTup.f0 = 0 := rfl

theorem AH.roomy_len (A : AH) : A.roomy.slots.length = max A.slots.length (A.least + 1) := by
  have h := A.least_le
  unfold AH.roomy
  split
  · simp
    omega
  · omega
theorem AH.roomy_getD (A : AH) (i : Nat) : A.roomy.slots.getD i zTup = A.slots.getD i zTup := by
  unfold AH.roomy
  split
  · simp only [List.getD_eq_getElem?_getD, List.getElem?_append]
    split
    · rfl
    · rename_i h
      rw [List.getElem?_eq_none (l := A.slots) (by omega)]
      cases hk : i - A.slots.length with
      | zero => simp
      | succ k => simp
  · rfl
theorem AH.least_free (A : AH) : (A.slots.getD A.least zTup).f0 = 0 := by
  by_cases h : A.least < A.slots.length
  · have h1 := List.findIdx_getElem (xs := A.slots) (p := fun t => t.f0 == 0) (w := by unfold AH.least at h; exact h)
    rw [List.getD_eq_getElem?_getD, List.getElem?_eq_getElem h]
    exact eq_of_beq h1
  · rw [List.getD_eq_getElem?_getD, List.getElem?_eq_none (by omega)]
    rfl
theorem AH.below_least (A : AH) (i : Nat) (h : i < A.least) : (A.slots.getD i zTup).f0 ≠ 0 := by
  have hl := A.least_le
  have h1 := List.not_of_lt_findIdx (xs := A.slots) (p := fun t => t.f0 == 0) h
  rw [List.getD_eq_getElem?_getD, List.getElem?_eq_getElem (by omega)]
  simpa using h1
theorem AH.put_len (A : AH) (t : ATup) : (A.put t).slots.length = max A.slots.length (A.least + 1) := by
  unfold AH.put
  simp only [List.length_set]
  exact A.roomy_len
theorem AH.put_getD (A : AH) (t : ATup) (i : Nat) : (A.put t).slots.getD i zTup = if i = A.least then t else A.slots.getD i zTup := by
  have h := A.roomy_len
  rw [← A.roomy_getD]
  unfold AH.put
  simp only [List.getD_eq_getElem?_getD, List.getElem?_set]
  by_cases e : A.least = i
  · rw [if_pos e, if_pos e.symm, if_pos (by omega)]
    rfl
  · rw [if_neg e, if_neg (fun h => e h.symm)]
theorem AH.there_nat (A : AH) (i : Nat) : A.there (i : Int) = true ↔ 0 < (A.slots.getD i zTup).f0 := by
  rw [A.there_iff]
  unfold AH.at
  constructor
  · intro h
    simpa using h.2.2
  · intro h
    refine ⟨by omega, ?_, by simpa using h⟩
    rcases Nat.lt_or_ge i A.slots.length with h1 | h1
    · omega
    · rw [List.getD_eq_getElem?_getD, List.getElem?_eq_none h1] at h
      exact absurd h (by decide)
theorem AH.there_neg (A : AH) (s : Int) (h : s < 0) : A.there s = false := by
  cases e : A.there s with
  | false => rfl
  | true =>
    have := (A.there_iff s).1 e
    omega
theorem AH.there_cases (A : AH) (s : Int) (h : A.there s = true) : ∃ i : Nat, s = i ∧ i < A.slots.length ∧ 0 < (A.slots.getD i zTup).f0 := by
  have h1 := (A.there_iff s).1 h
  refine ⟨s.toNat, by omega, by omega, ?_⟩
  exact h1.2.2
theorem AH.least_not (A : AH) : A.there (A.least : Int) = false := by
  cases e : A.there (A.least : Int) with
  | false => rfl
  | true =>
    have := (A.there_nat _).1 e
    rw [A.least_free] at this
    exact absurd this (by decide)
theorem AH.put_at (A : AH) (t : ATup) (i : Nat) : (A.put t).at (i : Int) = if i = A.least then t else A.at (i : Int) := by
  unfold AH.at
  simpa using A.put_getD t i
theorem AH.put_there (A : AH) (t : ATup) (ht : 0 < t.f0) (s : Int) : (A.put t).there s = true ↔ s = (A.least : Int) ∨ A.there s = true := by
  by_cases h : s < 0
  · rw [AH.there_neg _ s h, AH.there_neg _ s h]
    simp
    omega
  · obtain ⟨i, rfl⟩ : ∃ i : Nat, s = i := ⟨s.toNat, by omega⟩
    rw [AH.there_nat, AH.there_nat, AH.put_getD]
    by_cases e : i = A.least
    · rw [if_pos e]
      simp [ht, e]
    · rw [if_neg e]
      constructor
      · exact fun h => .inr h
      · rintro (h | h)
        · omega
        · exact h

theorem filt_set (l : List ATup) (i : Nat) (t : ATup) (h : i < l.length) : (((l.set i t).filter (fun t => t.f0 != 0)).length : Int) = (l.filter (fun t => t.f0 != 0)).length - (if (l.getD i zTup).f0 = 0 then 0 else 1) + (if t.f0 = 0 then 0 else 1) := by
  induction l generalizing i with
  | nil => simp at h
  | cons x l ih =>
    cases i with
    | zero =>
      simp only [List.set_cons_zero, List.filter_cons, List.getD_cons_zero]
      by_cases a : t.f0 = 0 <;> by_cases b : x.f0 = 0 <;> simp [a, b] <;> omega
    | succ i =>
      have := ih i (by simpa using h)
      simp only [List.set_cons_succ, List.filter_cons, List.getD_cons_succ]
      by_cases b : x.f0 = 0
      · simp only [b, if_pos]
        simpa using this
      · have b1 : (x.f0 != 0) = true := by simp [b]
        simp only [b1, if_pos, List.length_cons]
        omega
theorem filt_roomy (A : AH) : (A.roomy.slots.filter (fun t => t.f0 != 0)).length = (A.slots.filter (fun t => t.f0 != 0)).length := by
  unfold AH.roomy
  split
  · simp [zTup_f0]
  · rfl

theorem AH.Ok.put {A : AH} (hA : A.Ok) (t : ATup) (h1 : ¬ badTup t) : (A.put t).Ok := by
  have hb : 1 ≤ t.f0 ∧ 1 ≤ t.f1 ∧ t.f0 ≤ 2147483647 ∧ t.f1 ≤ 2147483647 := by
    simp [badTup] at h1
    omega
  refine ⟨fun no => ?_, ?_, ?_, ?_, ?_⟩
  · have := hA.given0 no
    have := hA.given0 t.f0
    simp only [AH.put]
    split
    · unfold mx
      split <;> omega
    · assumption
  · have := filt_set A.roomy.slots A.least t (by rw [A.roomy_len]; omega)
    rw [A.roomy_getD, A.least_free, filt_roomy] at this
    simp only [AH.put]
    rw [this, hA.many, if_pos rfl, if_neg (by omega)]
    omega
  · intro x hx
    simp only [AH.put] at hx
    rcases List.mem_or_eq_of_mem_set hx with hx | rfl
    · unfold AH.roomy at hx
      split at hx
      · simp at hx
        rcases hx with hx | rfl
        · exact hA.pos _ hx
        · decide
      · exact hA.pos _ hx
    · omega
  · intro p s
    rw [A.put_there t (by omega)]
    have hr := hA.rows p s
    by_cases e : s = (A.least : Int)
    · subst e
      rw [A.put_at, if_pos rfl]
      rw [A.least_not] at hr
      simp only [AH.put]
      by_cases e2 : p = (t.f0, t.f1)
      · subst e2
        simp
      · rw [if_neg e2]
        simp at hr
        simp [hr, Ne.symm e2]
    · have hat : A.there s = true → (A.put t).at s = A.at s := fun h => by
        obtain ⟨i, rfl, _⟩ := A.there_cases s h
        rw [A.put_at, if_neg (by omega)]
      have hm : s ∈ (A.put t).rows p ↔ s ∈ A.rows p := by
        simp only [AH.put]
        split
        · rename_i e2
          subst e2
          simp [e]
        · rfl
      rw [hm, hr]
      constructor
      · rintro ⟨a, b⟩
        exact ⟨.inr a, by rw [hat a]; exact b⟩
      · rintro ⟨a | a, b⟩
        · exact absurd a e
        · exact ⟨a, by rw [hat a] at b; exact b⟩
  · intro p
    simp only [AH.put]
    split
    · rw [List.nodup_append]
      refine ⟨hA.nodup _, by simp, ?_⟩
      rintro a ha b hb rfl
      simp at hb
      subst hb
      have := ((hA.rows _ _).1 ha).1
      rw [A.least_not] at this
      cases this
    · exact hA.nodup p

theorem AH.set_getD (A : AH) (n : Nat) (t : ATup) (h : n < A.slots.length) (i : Nat) : (A.slots.set n t).getD i zTup = if i = n then t else A.slots.getD i zTup := by
  simp only [List.getD_eq_getElem?_getD, List.getElem?_set]
  by_cases e : n = i
  · rw [if_pos e, if_pos e.symm, if_pos (by omega)]
    rfl
  · rw [if_neg e, if_neg (fun h => e h.symm)]

theorem AH.Ok.kill {A : AH} (hA : A.Ok) (s x c : Int) : (A.kill s x c).2.Ok := by
  unfold AH.kill
  cases e : A.there s with
  | false => exact hA
  | true =>
    obtain ⟨i, rfl, hi, hp⟩ := A.there_cases s e
    simp only [if_pos]
    have hat : ∀ k : Nat, ((A.slots.set i { A.at (i : Int) with f4 := x, f5 := c }).getD k zTup).f0 = (A.slots.getD k zTup).f0 ∧ ((A.slots.set i { A.at (i : Int) with f4 := x, f5 := c }).getD k zTup).f1 = (A.slots.getD k zTup).f1 := fun k => by
      rw [A.set_getD i _ hi]
      split
      · rename_i e
        subst e
        simp [AH.at]
      · exact ⟨rfl, rfl⟩
    refine ⟨hA.given0, ?_, ?_, ?_, hA.nodup⟩
    · have h0 : ({ A.at (i : Int) with f4 := x, f5 := c } : ATup).f0 = (A.slots.getD i zTup).f0 := by simp [AH.at]
      simp only [Int.toNat_natCast]
      generalize ({ A.at (i : Int) with f4 := x, f5 := c } : ATup) = T at h0
      have := filt_set A.slots i T hi
      rw [this, hA.many, h0]
      omega
    · intro y hy
      rcases List.mem_or_eq_of_mem_set hy with hy | rfl
      · exact hA.pos _ hy
      · have h0 : (A.at (i : Int)).f0 = (A.slots.getD i zTup).f0 := by simp [AH.at]
        simp only
        omega
    · intro p s
      have hr := hA.rows p s
      by_cases hs : s < 0
      · rw [AH.there_neg _ s hs] at hr ⊢
        simp only [hr]
        simp
      · obtain ⟨k, rfl⟩ : ∃ k : Nat, s = k := ⟨s.toNat, by omega⟩
        rw [AH.there_nat] at hr ⊢
        simp only [AH.at, Int.toNat_natCast] at hr ⊢
        have h2 := hat k
        simp only [AH.at, Int.toNat_natCast] at h2
        rw [h2.1, h2.2]
        exact hr

theorem AH.free_getD (A : AH) (i : Nat) (hi : i < A.slots.length) (hp : 0 < (A.slots.getD i zTup).f0) (k : Nat) : (A.free (i : Int)).2.slots.getD k zTup = if k = i then zTup else A.slots.getD k zTup := by
  unfold AH.free
  rw [if_pos ((A.there_nat i).2 hp)]
  exact A.set_getD i zTup hi k
theorem AH.Ok.free {A : AH} (hA : A.Ok) (s : Int) : (A.free s).2.Ok := by
  unfold AH.free
  cases e : A.there s with
  | false => exact hA
  | true =>
    obtain ⟨i, rfl, hi, hp⟩ := A.there_cases s e
    simp only [if_pos]
    refine ⟨hA.given0, ?_, ?_, ?_, ?_⟩
    · have := filt_set A.slots i zTup hi
      simp only [Int.toNat_natCast]
      rw [this, hA.many, if_neg (by omega), if_pos zTup_f0]
      omega
    · intro y hy
      rcases List.mem_or_eq_of_mem_set hy with hy | rfl
      · exact hA.pos _ hy
      · decide
    · intro p s
      have hr := hA.rows p s
      have hm : s ∈ (if p = ((A.at (i : Int)).f0, (A.at (i : Int)).f1) then (A.rows p).filter (fun x => !(x == (i : Int))) else A.rows p) ↔ s ∈ A.rows p ∧ ¬ (p = ((A.at (i : Int)).f0, (A.at (i : Int)).f1) ∧ s = (i : Int)) := by
        by_cases e2 : p = ((A.at (i : Int)).f0, (A.at (i : Int)).f1)
        · rw [if_pos e2]
          simp [e2]
        · rw [if_neg e2]
          simp [e2]
      refine hm.trans ?_
      rw [hr]
      by_cases hs : s < 0
      · rw [AH.there_neg _ s hs, AH.there_neg _ s hs]
        simp
      · obtain ⟨k, rfl⟩ : ∃ k : Nat, s = k := ⟨s.toNat, by omega⟩
        rw [AH.there_nat, AH.there_nat]
        simp only [AH.at, Int.toNat_natCast]
        rw [A.set_getD i zTup hi k]
        by_cases ek : k = i
        · subst ek
          rw [if_pos rfl]
          simp only [zTup_f0]
          constructor
          · rintro ⟨⟨_, a⟩, b⟩
            exact absurd ⟨a.symm, trivial⟩ b
          · rintro ⟨a, _⟩
            exact absurd a (by decide)
        · rw [if_neg ek]
          constructor
          · exact fun h => h.1
          · exact fun h => ⟨h, fun h2 => ek (by omega)⟩
    · intro p
      simp only
      split
      · exact (hA.nodup p).filter _
      · exact hA.nodup p

theorem AH.Ok.next {A : AH} (hA : A.Ok) (no : Int) : (A.next no).2.Ok := by
  unfold AH.next
  split
  · exact hA
  · rename_i h
    refine ⟨fun x => ?_, hA.many, hA.pos, hA.rows, hA.nodup⟩
    have h1 := hA.given0 no
    have h2 := hA.given0 x
    simp only
    split
    · omega
    · exact h2

theorem AH.Ok.step {A : AH} (hA : A.Ok) (s : AStep) : (A.step s).2.2.Ok := by
  unfold AH.step
  split
  · unfold AH.putE
    split
    · exact hA
    · rename_i h
      exact hA.put _ h
  · split
    · exact hA.kill _ _ _
    · split
      · exact hA.free _
      · exact hA.next _

theorem AH.step_len (A : AH) (s : AStep) : (A.step s).2.2.slots.length ≤ A.slots.length + 1 := by
  have hl := A.least_le
  unfold AH.step
  split
  · unfold AH.putE
    split
    · simp
    · have := A.put_len s.f1
      simp only
      omega
  · split
    · unfold AH.kill
      split <;> simp
    · split
      · unfold AH.free
        split <;> simp
      · unfold AH.next
        split <;> simp
/-- Rows that are not long. -/
def AH.Lim (A : AH) (m : Nat) : Prop := ∀ i : Nat, (A.slots.getD i zTup).f6.length < m
theorem AH.Lim.step {A : AH} {m : Nat} (hm : 0 < m) (hA : A.Lim m) (s : AStep) (hs : s.f1.f6.length < m) : (A.step s).2.2.Lim m := by
  intro i
  unfold AH.step
  split
  · unfold AH.putE
    split
    · exact hA i
    · simp only
      rw [A.put_getD]
      split
      · exact hs
      · exact hA i
  · split
    · unfold AH.kill
      cases e : A.there s.f2 with
      | false => exact hA i
      | true =>
        obtain ⟨j, e2, hj, hp⟩ := A.there_cases _ e
        simp only [if_pos, e2, Int.toNat_natCast]
        rw [A.set_getD j _ hj]
        split
        · simp only [AH.at, Int.toNat_natCast]
          exact hA j
        · exact hA i
    · split
      · unfold AH.free
        cases e : A.there s.f2 with
        | false => exact hA i
        | true =>
          obtain ⟨j, e2, hj, hp⟩ := A.there_cases _ e
          simp only [if_pos, e2, Int.toNat_natCast]
          rw [A.set_getD j _ hj]
          split
          · exact hm
          · exact hA i
      · unfold AH.next
        split <;> exact hA i
theorem AH.empty_lim {m : Nat} (hm : 0 < m) : AH.empty.Lim m := fun i => by
  simp [AH.empty, zTup]
  exact hm
end Go.Proofs.Ytljahhgankcalaa

/-! The law's puts, and works: the examples. -/
namespace Go.Proofs.Ytljahhgankcalaa
open Go.RowKit Go.Maps Go.MapKept Go.WideMaps
open Go.Proofs.YtljahhgankcalaaW.PrintWords Go.Proofs.YtljahhgankcalaaW.PrintLast Go.Proofs.YtljahhgankcalaaW.PrintMore
open PHeapThere
set_option linter.unusedVariables false
set_option linter.unusedSimpArgs false

set_option maxRecDepth 100000 in
theorem puts_calls (h : Nat) (t : ATup) (sl : Int) (v6 : Value) (A : AH) (F : Nat → Prop) (w : World) (H : HeapIs w h A F) (hA : A.Ok) (hl : A.slots.length < 2147483648)
    (hr : Kd.R kVal 91 w 0 (fun k => ¬ F k) v6 t.f6) (hx : t.f6.length < 3518437208883) :
    Calls Try.prog 44 #[.pointer (some ⟨h, 0, none⟩), .agg #[.int .i64 t.f0, .int .i64 t.f1, .int .i64 t.f2, .int .i64 t.f3, .int .i64 t.f4, .int .i64 t.f5, v6], .int .i64 sl] w fun e w' =>
      e = .returned (.bool (decide ((A.putE t).1 = sl) && decide ((A.putE t).2.1 = 0))) ∧ HeapIs w' h (A.putE t).2.2 (ext F w w') ∧ Chg w w' F := by
  obtain ⟨A6, c6, e6⟩ := Kd.R_slice hr
  subst e6
  obtain ⟨wA, hwA⟩ : ∃ wA, wA = w.alloc (.cells #[.int .i64 t.f0, .int .i64 t.f1, .int .i64 t.f2, .int .i64 t.f3, .int .i64 t.f4, .int .i64 t.f5, .slice A6 t.f6.length c6] 39) := ⟨_, rfl⟩
  have hB1 : Below w.heap.size w wA := by rw [hwA]; exact (Below.refl _ w).alloc (Nat.le_refl _) _
  have hp := put_calls h t (.slice A6 t.f6.length c6) (fun k => ¬ F k) A F wA (H.below hB1) hA hl (Kd.R_below hr hB1) hx (fun k hk hf => hk hf)
  generalize A.putE t = r at *
  obtain ⟨r1, r2, r3⟩ := r
  simp only at hp ⊢
  rw [hwA] at hp hB1
  have HB := Aside0.mk hB1
  clear H hA hl hr hx hB1 hwA
  go_enter Try.func44, Try.ntmps44
  go_wp2_with fail
  refine hp.mono ?_
  rintro e w2 ⟨rfl, h2, h3⟩
  have h23 := Aside0.mk (And.intro h2 h3)
  clear hp h2 h3
  by_cases e1 : r1 = sl
  · have b1 : (r1 == sl) = true := beq_iff_eq.2 e1
    have E1 := Aside0.mk e1
    by_cases e2 : r2 = 0
    · have b2 : (r2 == 0) = true := beq_iff_eq.2 e2
      have E2 := Aside0.mk e2
      clear e1 e2
      go_wp2
      go_ret
      exact ⟨by simp [E1.out, E2.out], ext_trans HB.out.size h23.out.2.size h23.out.1, Chg.after_below HB.out h23.out.2⟩
    · have b2 : (r2 == 0) = false := beq_eq_false_iff_ne.2 e2
      have E2 := Aside0.mk e2
      clear e1 e2
      go_wp2
      go_ret
      exact ⟨by simp [E1.out, E2.out], ext_trans HB.out.size h23.out.2.size h23.out.1, Chg.after_below HB.out h23.out.2⟩
  · have b1 : (r1 == sl) = false := beq_eq_false_iff_ne.2 e1
    have E1 := Aside0.mk e1
    clear e1
    go_wp2
    go_ret
    exact ⟨by simp [E1.out], ext_trans HB.out.size h23.out.2.size h23.out.1, Chg.after_below HB.out h23.out.2⟩
end Go.Proofs.Ytljahhgankcalaa

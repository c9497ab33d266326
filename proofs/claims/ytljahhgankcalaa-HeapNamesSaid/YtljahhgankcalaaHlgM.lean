import Derived.Test.YtljahhgankcalaaG5
/-! large: it ends; and what is not large is small. -/
namespace Go.Proofs.Ytljahhgankcalaa
open Go.RowKit Go.Maps Go.MapKept Go.WideMaps
open Go.Proofs.YtljahhgankcalaaW.PrintWords Go.Proofs.YtljahhgankcalaaW.PrintLast Go.Proofs.YtljahhgankcalaaW.PrintMore
open PHeapThere
set_option linter.unusedVariables false
set_option linter.unusedSimpArgs false

/-- What a slice of steps is, in memory: no string is greater than memory. -/
def Sized (l : List AStep) : Prop := l.length ≤ 140737488351232 ∧ ∀ i : Nat, (l.getD i zStep).f1.f6.length ≤ 140737488351232 ∧ ∀ j : Nat, ((l.getD i zStep).f1.f6.getD j z91).f3.size ≤ 140737488351232

theorem wrap64_self {n : Int} (h0 : -9223372036854775808 ≤ n) (h1 : n ≤ 9223372036854775807) : wrap64 n = n := by unfold wrap64; omega
theorem large_inner (l : List AStep) (hl : Sized l) (x4 : Int) (h4 : 0 ≤ x4) (h4l : x4 < (l.length : Int)) : ∀ (n : Nat) (x3 x5 : Int), 0 ≤ x3 → x3 ≤ 281474976710656 → 0 ≤ x5 → 4 * x5 ≤ x3 → x5 + n = ((l.getD x4.toNat zStep).f1.f6.length : Int) →
    ∃ j x3', 0 ≤ x3' ∧ x3' ≤ 281474976710656 ∧ (x3' < 20000 → 4 * ((l.getD x4.toNat zStep).f1.f6.length : Int) ≤ x3') ∧ ∀ k, covenantlaw11_large.l1 (k + j) l x3 x4 x5 = covenantlaw11_large.l0 k l x3' (x4 + 1)
  | 0, x3, x5, a, a2, b, c, d => ⟨1, x3, a, a2, fun _ => by omega, fun k => by
      have hll := hl.1
      have e : wrap64 (x4 + 1) = x4 + 1 := wrap64_self (by omega) (by omega)
      rw [show k + 1 = (k + 0) + 1 from rfl, covenantlaw11_large.l1, if_pos h4, if_pos h4l, if_neg (by show ¬ x5 < ((l.getD x4.toNat zStep).f1.f6.length : Int); omega), e]⟩
  | n + 1, x3, x5, a, a2, b, c, d => by
    have hll := hl.1
    have hi := hl.2 x4.toNat
    have hs := hi.2 x5.toNat
    have e4 : wrap64 (x4 + 1) = x4 + 1 := wrap64_self (by omega) (by omega)
    by_cases h3 : x3 < 20000
    · have e5 : wrap64 (x5 + 1) = x5 + 1 := wrap64_self (by omega) (by omega)
      have e6 : wrap64 (x3 + 4) = x3 + 4 := wrap64_self (by omega) (by omega)
      have e7 : wrap64 (x3 + 4 + (((rd_T91 ((rd_T34 l x4).f1.f6) x5).f3).size : Int)) = x3 + 4 + (((rd_T91 ((rd_T34 l x4).f1.f6) x5).f3).size : Int) := wrap64_self (by omega) (by
        have : ((rd_T91 ((rd_T34 l x4).f1.f6) x5).f3).size ≤ 140737488351232 := hs
        omega)
      have hs' : ((rd_T91 ((rd_T34 l x4).f1.f6) x5).f3).size ≤ 140737488351232 := hs
      obtain ⟨j, x3', r1, r2, r3, r4⟩ := large_inner l hl x4 h4 h4l n (x3 + 4 + (((rd_T91 ((rd_T34 l x4).f1.f6) x5).f3).size : Int)) (x5 + 1) (by omega) (by omega) (by omega) (by omega) (by omega)
      refine ⟨j + 1, x3', r1, r2, r3, fun k => ?_⟩
      rw [← Nat.add_assoc, covenantlaw11_large.l1, if_pos h4, if_pos h4l, if_pos (by show x5 < ((l.getD x4.toNat zStep).f1.f6.length : Int); omega), if_pos h3, if_pos b, e5, e6, e7]
      exact r4 k
    · refine ⟨1, x3, a, a2, fun h => absurd h h3, fun k => ?_⟩
      rw [covenantlaw11_large.l1, if_pos h4, if_pos h4l, if_pos (by show x5 < ((l.getD x4.toNat zStep).f1.f6.length : Int); omega), if_neg h3, e4]

theorem large_outer (l : List AStep) (hl : Sized l) : ∀ (n : Nat) (x3 x4 : Int), 0 ≤ x3 → x3 ≤ 281474976710656 → 0 ≤ x4 → x4 + n = (l.length : Int) →
    ∃ k r, covenantlaw11_large.l0 k l x3 x4 = some r ∧ (r = false → x3 < 20000 ∧ l.length ≤ 120 ∧ ∀ i : Nat, x4 ≤ i → i < l.length → 4 * (l.getD i zStep).f1.f6.length < 20000)
  | 0, x3, x4, a, a2, b, c => by
    by_cases h3 : x3 < 20000
    · refine ⟨2, decide ((l.length : Int) > 120), ?_, fun h => ⟨h3, by have := of_decide_eq_false h; omega, fun i h1 h2 => by omega⟩⟩
      rw [covenantlaw11_large.l0, if_neg (by omega), covenantlaw11_large.j1, if_neg (by decide), if_neg (by omega)]
    · refine ⟨2, true, ?_, fun h => by cases h⟩
      rw [covenantlaw11_large.l0, if_neg (by omega), covenantlaw11_large.j1, if_neg (by decide), if_pos (by omega)]
  | n + 1, x3, x4, a, a2, b, c => by
    by_cases h3 : x3 < 20000
    · obtain ⟨j, x3', r1, r2, r3, r4⟩ := large_inner l hl x4 b (by omega) (l.getD x4.toNat zStep).f1.f6.length (x3 + 10) 0 (by omega) (by omega) (by omega) (by omega) (by omega)
      obtain ⟨k, r, q1, q2⟩ := large_outer l hl n x3' (x4 + 1) r1 r2 (by omega) (by omega)
      refine ⟨k + j + 1 + 1, r, ?_, fun h => ?_⟩
      · rw [covenantlaw11_large.l0, if_pos (by omega), decide_eq_true h3, covenantlaw11_large.j1, if_pos rfl, wrap64_self (by omega) (by omega), r4]
        exact q1
      · obtain ⟨w1, w2, w3⟩ := q2 h
        refine ⟨h3, w2, fun i h1 h2 => ?_⟩
        by_cases hi : i = x4.toNat
        · subst hi
          have := r3 w1
          omega
        · exact w3 i (by omega) h2
    · refine ⟨2, true, ?_, fun h => by cases h⟩
      rw [covenantlaw11_large.l0, if_pos (by omega), decide_eq_false h3, covenantlaw11_large.j1, if_neg (by decide), if_pos (by omega)]

theorem large_is (l : List AStep) (hl : Sized l) : ∃ k r, covenantlaw11_large.f k l = some r ∧ (r = false → l.length ≤ 120 ∧ ∀ i : Nat, (l.getD i zStep).f1.f6.length < 20000) := by
  obtain ⟨k, r, h1, h2⟩ := large_outer l hl l.length 0 0 (by omega) (by omega) (by omega) (by omega)
  refine ⟨k, r, h1, fun h => ⟨(h2 h).2.1, fun i => ?_⟩⟩
  by_cases hi : i < l.length
  · have := (h2 h).2.2 i (by omega) hi
    omega
  · rw [List.getD_eq_getElem?_getD, List.getElem?_eq_none (by omega)]
    decide
end Go.Proofs.Ytljahhgankcalaa

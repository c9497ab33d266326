import Derived.Test.YtdammjolkcjogaaMsh
import Derived.Test.YtdammjolkcjogaaRw
import Derived.Sort.OwnSortedInts
/-! slices.Sort of ints, in the words of rows. -/
namespace Go.Proofs.Ytdammjolkcjogaa
open Go.RowKit Go.Maps Go.MapKept
open Go.Proofs.YtdammjolkcjogaaW.PrintWords
set_option linter.unusedVariables false

abbrev srt (xs : List Int) : List Int := xs.mergeSort fun x y => decide (x ≤ y)
theorem srt_perm (xs : List Int) : (srt xs).Perm xs := List.mergeSort_perm _ _
theorem srt_sorted (xs : List Int) : (srt xs).Pairwise (· ≤ ·) := by
  have h := List.pairwise_mergeSort (le := fun x y : Int => decide (x ≤ y)) (fun a b c h1 h2 => by simp at *; omega) (fun a b => by simp; omega) xs
  exact h.imp (fun h => by simpa using h)
/-- Numbers none of which comes twice, sorted, rise. -/
theorem srt_rise {xs : List Int} (h : xs.Nodup) : (srt xs).Pairwise (· < ·) := by
  have h1 := srt_sorted xs
  have h2 : (srt xs).Nodup := (srt_perm xs).nodup_iff.2 h
  have h3 := List.Pairwise.and h1 h2
  exact h3.imp (fun h => by omega)

theorem sortInt_calls (v : Value) (xs : List Int) (base : Nat) (ok : Nat → Prop) (w : World) (hr : Kd.R (Kd.int .i64) 3 w base ok v xs) (hs : xs.length < 4611686018427387904) :
    Calls Try.prog 45 #[v] w fun e w' => e = .returned (.tuple #[]) ∧ Kd.R (Kd.int .i64) 3 w' base ok v (srt xs) ∧ w.grownBy w' v.ownBlock := by
  have ho := Kd.own_of_R hr
  have h0 := hr.1
  obtain ⟨hl, ⟨rfl, hn⟩ | ⟨g, cap, cur, rfl, hb, hh, h1, h2, h3, h4⟩⟩ := ho
  · have hx : xs = [] := List.eq_nil_of_length_eq_zero hn
    subst hx
    refine (AnyM.slices_Sort_int_none Try.laysSort none 0 w).mono ?_
    rintro e w' ⟨rfl, rfl⟩
    exact ⟨rfl, by rw [show srt [] = [] from by simp [srt]]; exact hr, ⟨rfl, rfl, rfl, Nat.le_refl _, fun _ _ _ => rfl⟩⟩
  · have hlen : (srt xs).length = xs.length := (srt_perm xs).length_eq
    rw [Nat.mul_one] at h4
    refine (AnyM.slices_Sort_int Try.laysSort g 0 cap xs w (Go.holds_of_blockI hh h4) (Array.getElem?_eq_some_iff.1 hh).1 hs).mono ?_
    rintro e w' ⟨rfl, n, os, rfl⟩
    refine ⟨rfl, Kd.R_of_own ?_ h0, Go.grownBy_sortedI _⟩
    have := Go.ownsRow_sortedI (n := n) (os := os) hlen hb hh h1 h2 h3
    rw [hlen]
    exact this
end Go.Proofs.Ytdammjolkcjogaa

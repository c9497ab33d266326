import Derived.Test.YtljahhgankcalaaHtbM
import Derived.Test.YtljahhgankcalaaHlpM
/-! HeapRows: the plain law: the rows' slots, each once, are all that are there. -/
namespace Go.Proofs.Ytljahhgankcalaa
open Go.RowKit Go.Maps Go.MapKept Go.WideMaps
open Go.Proofs.YtljahhgankcalaaW.PrintWords Go.Proofs.YtljahhgankcalaaW.PrintLast Go.Proofs.YtljahhgankcalaaW.PrintMore
open PHeapThere
set_option linter.unusedVariables false

theorem nodup_sub {α : Type} [DecidableEq α] : ∀ (l1 l2 : List α), l1.Nodup → (∀ x ∈ l1, x ∈ l2) → l1.length ≤ l2.length
  | [], _, _, _ => Nat.zero_le _
  | x :: l1, l2, hn, h => by
    obtain ⟨hx, hn⟩ := List.nodup_cons.1 hn
    have hm := h x (List.mem_cons_self)
    have ih := nodup_sub l1 (l2.erase x) hn (fun y hy => (List.mem_erase_of_ne (fun e => hx (by rw [← e]; exact hy))).2 (h y (List.mem_cons_of_mem _ hy)))
    have := List.length_erase_of_mem hm
    have := List.length_pos_of_mem hm
    simp only [List.length_cons]
    omega

/-- The slots of the rows of vp, in their row. -/
def AH.flat (A : AH) (vp : List (Int × Int)) : List Int := vp.flatMap A.rows
theorem AH.mem_flat (A : AH) (vp : List (Int × Int)) (s : Int) : s ∈ A.flat vp ↔ ∃ p ∈ vp, s ∈ A.rows p := by simp [AH.flat, List.mem_flatMap]
theorem AH.flat_more (A : AH) (vp : List (Int × Int)) (p : Int × Int) : A.flat (vp ++ [p]) = A.flat vp ++ A.rows p := by simp [AH.flat]
theorem AH.flat_nodup {A : AH} (hA : A.Ok) : ∀ {vp : List (Int × Int)}, vp.Nodup → (A.flat vp).Nodup
  | [], _ => by simp [AH.flat]
  | p :: vp, h => by
    obtain ⟨h1, h2⟩ := List.nodup_cons.1 h
    have ih := AH.flat_nodup hA h2
    rw [show A.flat (p :: vp) = A.rows p ++ A.flat vp from by simp [AH.flat], List.nodup_append]
    refine ⟨hA.nodup p, ih, fun x hx y hy e => ?_⟩
    subst e
    obtain ⟨q, hq, hxq⟩ := (A.mem_flat vp x).1 hy
    have e1 := ((hA.rows p x).1 hx).2
    have e2 := ((hA.rows q x).1 hxq).2
    exact h1 (by rw [← e1, e2]; exact hq)
theorem AH.cnt_range {A : AH} (hA : A.Ok) (n : Nat) : ((List.range n).filter fun i : Nat => A.there i).length = A.cnt n := by
  induction n with
  | zero => rfl
  | succ n ih =>
    rw [List.range_succ, List.filter_append, List.length_append, ih, AH.cnt_succ hA]
    cases ht : A.there (n : Int) <;> simp [ht]
theorem AH.flat_count {A : AH} (hA : A.Ok) {vp : List (Int × Int)} (hn : vp.Nodup) (hall : ∀ p, A.rows p ≠ [] → p ∈ vp) : ((A.flat vp).length : Int) = A.many := by
  have hmem : ∀ s, s ∈ A.flat vp ↔ A.there s = true := fun s => by
    rw [A.mem_flat]
    constructor
    · rintro ⟨p, _, hs⟩; exact ((hA.rows p s).1 hs).1
    · intro ht
      have := (hA.rows _ s).2 ⟨ht, rfl⟩
      exact ⟨_, hall _ (fun e => by rw [e] at this; cases this), this⟩
  let l2 : List Int := ((List.range A.slots.length).filter fun i : Nat => A.there i).map (fun i : Nat => (i : Int))
  have h2 : l2.Nodup := by
    show List.Nodup _
    unfold List.Nodup
    rw [List.pairwise_map]
    exact (List.nodup_range.filter _).imp (fun h e => h (by omega))
  have hm2 : ∀ s, s ∈ l2 ↔ A.there s = true := fun s => by
    show s ∈ List.map _ _ ↔ _
    rw [List.mem_map]
    constructor
    · rintro ⟨i, hi, rfl⟩; exact (List.mem_filter.1 hi).2
    · intro ht
      obtain ⟨i, rfl, hi, _⟩ := A.there_cases s ht
      exact ⟨i, List.mem_filter.2 ⟨List.mem_range.2 hi, ht⟩, rfl⟩
  have e1 := nodup_sub _ _ (AH.flat_nodup hA hn) (fun x hx => (hm2 x).2 ((hmem x).1 hx))
  have e2 := nodup_sub _ _ h2 (fun x hx => (hmem x).2 ((hm2 x).1 hx))
  have e3 : l2.length = A.cnt A.slots.length := by
    show (List.map _ _).length = _
    rw [List.length_map, AH.cnt_range hA]
  have e4 := AH.cnt_all hA (Nat.le_refl A.slots.length)
  omega
theorem AH.flat_le {A : AH} (hA : A.Ok) {vp : List (Int × Int)} (hn : vp.Nodup) : (A.flat vp).length ≤ A.slots.length :=
  nodup_below _ _ (AH.flat_nodup hA hn) (fun x hx => by
    obtain ⟨p, _, hs⟩ := (A.mem_flat vp x).1 hx
    have := (A.there_iff x).1 ((hA.rows p x).1 hs).1
    omega)
end Go.Proofs.Ytljahhgankcalaa

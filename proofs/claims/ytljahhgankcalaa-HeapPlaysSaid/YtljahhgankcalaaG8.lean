import Derived.Shelf.SlGeneric
import Derived.Shelf.SortM.Plain
import Derived.Shelf.SortM.SortNone
import Derived.Ground.SlgmProg
import Derived.Test.YtljahhgankcalaaProg
import Derived.Test.YtljahhgankcalaaRw
import Derived.Sort.OwnSortedInts
import Derived.Shelf.SlicesG.CompactI
import Derived.Ground.SlgnProg
import Derived.Test.YtljahhgankcalaaDf
/-! slices.Sort laid at this program (written by the kit's lay-plain). -/
namespace Go.Proofs.Ytljahhgankcalaa
open Go.Shelf
def Try.laysSort_ren : Go.Shelf.Ren := ⟨fun | 5 => 77 | 8 => 100 | 7 => 99 | 19 => 117 | 20 => 118 | 10 => 108 | 11 => 109 | 12 => 110 | 13 => 111 | 14 => 112 | 15 => 113 | 16 => 114 | 17 => 115 | 18 => 116 | 30 => 119 | 31 => 120 | 32 => 121 | 33 => 122 | 34 => 123 | 35 => 124 | 40 => 125 | n => n, fun | 23 => 53 | 25 => 3 | 3 => 3 | 32 => 58 | 22 => 53 | 0 => 0 | 44 => 164 | 46 => 166 | 4 => 4 | 36 => 157 | 35 => 156 | 41 => 77 | 5 => 5 | 9 => 9 | 53 => 167 | 57 => 171 | 63 => 173 | 64 => 174 | n => n, fun | n => n⟩
theorem Try.laysSort : Go.Proofs.SlLaysM.n5 Try.prog Try.laysSort_ren := {
  mixed := by kernel_rfl
  f5 := ⟨Try.f77.name, by decide, Try.func77.trans (congrArg some (by kernel_rfl))⟩
  f7 := ⟨Try.f99.name, by decide, Try.func99.trans (congrArg some (by kernel_rfl))⟩
  f8 := Try.func100.trans (congrArg some (by kernel_rfl))
  f10 := ⟨Try.f108.name, by decide, Try.func108.trans (congrArg some (by kernel_rfl))⟩
  f11 := ⟨Try.f109.name, by decide, Try.func109.trans (congrArg some (by kernel_rfl))⟩
  f12 := ⟨Try.f110.name, by decide, Try.func110.trans (congrArg some (by kernel_rfl))⟩
  f13 := ⟨Try.f111.name, by decide, Try.func111.trans (congrArg some (by kernel_rfl))⟩
  f14 := ⟨Try.f112.name, by decide, Try.func112.trans (congrArg some (by kernel_rfl))⟩
  f15 := ⟨Try.f113.name, by decide, Try.func113.trans (congrArg some (by kernel_rfl))⟩
  f16 := ⟨Try.f114.name, by decide, Try.func114.trans (congrArg some (by kernel_rfl))⟩
  f17 := ⟨Try.f115.name, by decide, Try.func115.trans (congrArg some (by kernel_rfl))⟩
  f18 := ⟨Try.f116.name, by decide, Try.func116.trans (congrArg some (by kernel_rfl))⟩
  f19 := Try.func117.trans (congrArg some (by kernel_rfl))
  f20 := Try.func118.trans (congrArg some (by kernel_rfl))
  f30 := ⟨Try.f119.name, by decide, Try.func119.trans (congrArg some (by kernel_rfl))⟩
  f31 := Try.func120.trans (congrArg some (by kernel_rfl))
  f32 := Try.func121.trans (congrArg some (by kernel_rfl))
  f33 := ⟨Try.f122.name, by decide, Try.func122.trans (congrArg some (by kernel_rfl))⟩
  f34 := ⟨Try.f123.name, by decide, Try.func123.trans (congrArg some (by kernel_rfl))⟩
  f35 := ⟨Try.f124.name, by decide, Try.func124.trans (congrArg some (by kernel_rfl))⟩
  f40 := ⟨Try.f125.name, by decide, Try.func125.trans (congrArg some (by kernel_rfl))⟩
  t0 := Try.underlying0
  a0 := Try.isAgg0
  z0 := Try.sizeOf0
  v0 := Try.zeroValue0
  t3 := Try.underlying3
  a3 := Try.isAgg3
  z3 := Try.sizeOf3
  v3 := Try.zeroValue3
  t4 := Try.underlying4
  a4 := Try.isAgg4
  z4 := Try.sizeOf4
  v4 := Try.zeroValue4
  t5 := Try.underlying5
  a5 := Try.isAgg5
  z5 := Try.sizeOf5
  v5 := Try.zeroValue5
  t9 := Try.underlying9
  a9 := Try.isAgg9
  z9 := Try.sizeOf9
  v9 := Try.zeroValue9
  t22 := Try.underlying53
  a22 := Try.isAgg53
  z22 := Try.sizeOf53
  v22 := Try.zeroValue53
  t23 := Try.underlying53
  a23 := Try.isAgg53
  z23 := Try.sizeOf53
  v23 := Try.zeroValue53
  t25 := Try.underlying3
  a25 := Try.isAgg3
  z25 := Try.sizeOf3
  v25 := Try.zeroValue3
  t32 := Try.underlying58
  a32 := Try.isAgg58
  z32 := Try.sizeOf58
  v32 := Try.zeroValue58
  t35 := Try.underlying156
  a35 := Try.isAgg156
  z35 := Try.sizeOf156
  v35 := Try.zeroValue156
  t36 := Try.underlying157
  a36 := Try.isAgg157
  z36 := Try.sizeOf157
  v36 := Try.zeroValue157
  t41 := Try.underlying77
  a41 := Try.isAgg77
  z41 := Try.sizeOf77
  v41 := Try.zeroValue77
  t44 := Try.underlying164
  a44 := Try.isAgg164
  z44 := Try.sizeOf164
  v44 := Try.zeroValue164
  t46 := Try.underlying166
  a46 := Try.isAgg166
  z46 := Try.sizeOf166
  v46 := Try.zeroValue166
  t53 := Try.underlying167
  a53 := Try.isAgg167
  z53 := Try.sizeOf167
  v53 := Try.zeroValue167
  t57 := Try.underlying171
  a57 := Try.isAgg171
  z57 := Try.sizeOf171
  v57 := Try.zeroValue171
  t63 := Try.underlying173
  a63 := Try.isAgg173
  z63 := Try.sizeOf173
  v63 := Try.zeroValue173
  t64 := Try.underlying174
  a64 := Try.isAgg174
  z64 := Try.sizeOf174
  v64 := Try.zeroValue174 }
end Go.Proofs.Ytljahhgankcalaa

/-! slices.Sort of ints, in the words of rows. -/
namespace Go.Proofs.Ytljahhgankcalaa
open Go.RowKit Go.Maps Go.MapKept
open Go.Proofs.YtljahhgankcalaaW.PrintWords
set_option linter.unusedVariables false

abbrev srt (xs : List Int) : List Int := xs.mergeSort fun x y => decide (x ≤ y)
theorem srt_perm (xs : List Int) : (srt xs).Perm xs := List.mergeSort_perm _ _
theorem srt_sorted (xs : List Int) : (srt xs).Pairwise (· ≤ ·) := by
  have h := List.pairwise_mergeSort (le := fun x y : Int => decide (x ≤ y)) (fun a b c h1 h2 => by simp at *; omega) (fun a b => by simp; omega) xs
  exact h.imp (fun h => by simpa using h)
/-- Numbers none of which comes twice, sorted, rise. -/
theorem srt_rise {xs : List Int} (h : xs.Nodup) : (srt xs).Pairwise (· < ·) := by
  have h1 := srt_sorted xs
  have h2 : (srt xs).Nodup := (srt_perm xs).nodup_iff.2 h
  have h3 := List.Pairwise.and h1 h2
  exact h3.imp (fun h => by omega)

theorem sortInt_calls (v : Value) (xs : List Int) (base : Nat) (ok : Nat → Prop) (w : World) (hr : Kd.R (Kd.int .i64) 3 w base ok v xs) (hs : xs.length < 4611686018427387904) :
    Calls Try.prog 77 #[v] w fun e w' => e = .returned (.tuple #[]) ∧ Kd.R (Kd.int .i64) 3 w' base ok v (srt xs) ∧ w.grownBy w' v.ownBlock := by
  have ho := Kd.own_of_R hr
  have h0 := hr.1
  obtain ⟨hl, ⟨rfl, hn⟩ | ⟨g, cap, cur, rfl, hb, hh, h1, h2, h3, h4⟩⟩ := ho
  · have hx : xs = [] := List.eq_nil_of_length_eq_zero hn
    subst hx
    refine (AnyM.slices_Sort_int_none Try.laysSort none 0 w).mono ?_
    rintro e w' ⟨rfl, rfl⟩
    exact ⟨rfl, by rw [show srt [] = [] from by simp [srt]]; exact hr, ⟨rfl, rfl, rfl, Nat.le_refl _, fun _ _ _ => rfl⟩⟩
  · have hlen : (srt xs).length = xs.length := (srt_perm xs).length_eq
    rw [Nat.mul_one] at h4
    refine (AnyM.slices_Sort_int Try.laysSort g 0 cap xs w (Go.holds_of_blockI hh h4) (Array.getElem?_eq_some_iff.1 hh).1 hs).mono ?_
    rintro e w' ⟨rfl, n, os, rfl⟩
    refine ⟨rfl, Kd.R_of_own ?_ h0, Go.grownBy_sortedI _⟩
    have := Go.ownsRow_sortedI (n := n) (os := os) hlen hb hh h1 h2 h3
    rw [hlen]
    exact this
end Go.Proofs.Ytljahhgankcalaa

/-! slices.Compact laid at this program (written by the kit's lay-plain). -/
namespace Go.Proofs.Ytljahhgankcalaa
open Go.Shelf
def Try.laysCompact_ren : Go.Shelf.Ren := ⟨fun | 43 => 78 | n => n, fun | 22 => 53 | 23 => 3 | 3 => 3 | 4 => 4 | 0 => 0 | n => n, fun | n => n⟩
theorem Try.laysCompact : Go.Proofs.SlLaysN.n43 Try.prog Try.laysCompact_ren := {
  mixed := by kernel_rfl
  f43 := ⟨Try.f78.name, by decide, Try.func78.trans (congrArg some (by kernel_rfl))⟩
  t0 := Try.underlying0
  a0 := Try.isAgg0
  z0 := Try.sizeOf0
  v0 := Try.zeroValue0
  t3 := Try.underlying3
  a3 := Try.isAgg3
  z3 := Try.sizeOf3
  v3 := Try.zeroValue3
  t4 := Try.underlying4
  a4 := Try.isAgg4
  z4 := Try.sizeOf4
  v4 := Try.zeroValue4
  t22 := Try.underlying53
  a22 := Try.isAgg53
  z22 := Try.sizeOf53
  v22 := Try.zeroValue53
  t23 := Try.underlying3
  a23 := Try.isAgg3
  z23 := Try.sizeOf3
  v23 := Try.zeroValue3
  i23 := by kernel_rfl }
end Go.Proofs.Ytljahhgankcalaa

/-! slices.Compact of ints that rise or stay: each once. -/
namespace Go.Proofs.Ytljahhgankcalaa
open Go.RowKit Go.Maps Go.MapKept
open Go.Proofs.YtljahhgankcalaaW.PrintWords
set_option linter.unusedVariables false

theorem compact_facts {zs : List Int} (hs : zs.Pairwise (· ≤ ·)) : (Lib.compact zs).Pairwise (· < ·) ∧ (∀ x, x ∈ Lib.compact zs ↔ x ∈ zs) ∧ (Lib.compact zs).length ≤ zs.length := by
  have hget : ∀ j (hj : j < zs.length), zs.toArray[j]! = zs[j] := fun j hj => by
    rw [getElem!_pos zs.toArray j (by simpa using hj)]
    simp
  have hle : ∀ i j, i ≤ j → j < zs.length → zs.toArray[i]! ≤ zs.toArray[j]! := fun i j hij hj => by
    rw [hget i (by omega), hget j hj]
    rcases Nat.eq_or_lt_of_le hij with rfl | hlt
    · exact Int.le_refl _
    · exact (List.pairwise_iff_getElem.1 hs) i j (by omega) hj hlt
  unfold Lib.compact Lib.compactUpTo
  refine ⟨?_, fun x => ?_, ?_⟩
  · rw [List.pairwise_map]
    refine List.Pairwise.imp_of_mem (fun {i j} hi hj hij => ?_) (List.pairwise_lt_range.filter _)
    have h1 := List.mem_filter.1 hi
    have h2 := List.mem_filter.1 hj
    have h3 := List.mem_range.1 h2.1
    have h4 := h2.2
    simp only [Lib.keeps, decide_eq_true_eq] at h4
    rcases h4 with h4 | h4
    · omega
    · have h5 := hle i (j - 1) (by omega) (by omega)
      have h6 := hle (j - 1) j (by omega) h3
      omega
  · constructor
    · intro hx
      obtain ⟨j, hj, rfl⟩ := List.mem_map.1 hx
      have h3 := List.mem_range.1 (List.mem_filter.1 hj).1
      rw [hget j h3]
      exact List.getElem_mem h3
    · intro hx
      obtain ⟨j, hj, rfl⟩ := List.getElem_of_mem hx
      have : ∀ k (hk : k < zs.length), zs[k] ∈ ((List.range zs.length).filter (Lib.keeps zs.toArray)).map (zs.toArray[·]!) := by
        intro k
        induction k with
        | zero =>
          intro hk
          exact List.mem_map.2 ⟨0, List.mem_filter.2 ⟨List.mem_range.2 hk, by simp [Lib.keeps]⟩, hget 0 hk⟩
        | succ k ih =>
          intro hk
          by_cases he : zs.toArray[k + 1]! = zs.toArray[k]!
          · have := ih (by omega)
            rw [hget (k + 1) hk, hget k (by omega)] at he
            rw [he]
            exact this
          · exact List.mem_map.2 ⟨k + 1, List.mem_filter.2 ⟨List.mem_range.2 hk, by simp only [Lib.keeps, decide_eq_true_eq]; exact .inr he⟩, hget (k + 1) hk⟩
      exact this j hj
  · rw [List.length_map]
    refine Nat.le_trans (List.length_filter_le _ _) ?_
    simp

theorem compactInt_calls (v : Value) (xs : List Int) (base : Nat) (ok : Nat → Prop) (w : World) (hr : Kd.R (Kd.int .i64) 3 w base ok v xs) (hs : xs.length < 4611686018427387904) (hle : xs.Pairwise (· ≤ ·)) :
    Calls Try.prog 78 #[v] w fun e w' => ∃ v1, e = .returned v1 ∧ v1.ownBlock = v.ownBlock ∧ Kd.R (Kd.int .i64) 3 w' base ok v1 (Lib.compact xs) ∧ w.grownBy w' v.ownBlock := by
  have ho := Kd.own_of_R hr
  have h0 := hr.1
  obtain ⟨hl, ⟨rfl, hn⟩ | ⟨g, cap, cur, rfl, hb, hh, h1, h2, h3, h4⟩⟩ := ho
  · have hx : xs = [] := List.eq_nil_of_length_eq_zero hn
    subst hx
    refine (AnyG.slices_Compact_int_empty Try.laysCompact none 0 w).mono ?_
    rintro e w' ⟨rfl, rfl⟩
    exact ⟨_, rfl, rfl, hr, ⟨rfl, rfl, rfl, Nat.le_refl _, fun _ _ _ => rfl⟩⟩
  · have hlen := (compact_facts hle).2.2
    rw [Nat.mul_one] at h4
    refine (AnyG.slices_Compact_int Try.laysCompact g 0 cap xs w (Go.holds_of_blockI hh h4) (by omega) h1).mono ?_
    rintro e w' ⟨rfl, q, rfl⟩
    have hts : (Lib.compact xs ++ List.replicate (xs.length - (Lib.compact xs).length) 0).length = xs.length := by simp; omega
    have hgr : ∀ u : World, Sort.grow u #[] = u := fun u => by simp [Sort.grow]
    have hrow := Go.ownsRow_sortedI (n := q) (os := #[]) hts hb hh h1 h2 h3
    have hhp := Go.heap_sortedI (n := q) (os := #[]) (Lib.compact xs ++ List.replicate (xs.length - (Lib.compact xs).length) 0).toArray hh
    have hgw := Go.grownBy_sortedI (w := w) (g := g) (n := q) (os := #[]) (Lib.compact xs ++ List.replicate (xs.length - (Lib.compact xs).length) 0).toArray
    rw [hgr] at hrow hhp hgw
    have hR : Kd.R (Kd.int .i64) 3 _ base ok _ (Lib.compact xs ++ List.replicate (xs.length - (Lib.compact xs).length) 0) := Kd.R_of_own (by rw [hts]; exact hrow) h0
    have hpre := int_prefix hR (i := (Lib.compact xs).length) (by omega) hhp hhp rfl (fun _ _ => rfl)
    rw [List.take_left' rfl] at hpre
    exact ⟨_, rfl, rfl, hpre, hgw⟩
end Go.Proofs.Ytljahhgankcalaa

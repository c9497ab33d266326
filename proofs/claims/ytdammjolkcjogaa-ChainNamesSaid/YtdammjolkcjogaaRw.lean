import Derived.Test.YtdammjolkcjogaaMa
import Derived.Test.YtdammjolkcjogaaWKept
/-! Rows of elements: an element's cells, an element changed in place. -/
namespace Go.Proofs.Ytdammjolkcjogaa
open Go.RowKit Go.Maps Go.MapKept
open Go.Proofs.YtdammjolkcjogaaW.PrintWords
set_option linter.unusedVariables false

section
variable {α : Type} {d : Kd α} {e g : Nat} {w w1 : World} {base : Nat} {ok S : Nat → Prop} {v : Value} {xs : List α}
/-- A row stays where only blocks are changed that are none of its own cells. -/
theorem R_chg (h : d.R e w base ok v xs) (hc : Chg w w1 S)
    (hS : ∀ k q cells, ok k → q ∈ e :: d.E → w.heap[k]? = some (.cells cells q (0, 0)) → ¬ S k) : d.R e w1 base ok v xs :=
  Kd.R_mono (Kd.R_move (Kd.R_bound h) (fun k hk => by
    obtain ⟨h1, _, h3, q, hq, cells, h4⟩ := hk
    exact hc.block k h3 (hS k q cells h1 hq h4))) (fun _ hk => hk.1)
/-- .. a map. -/
theorem R_map {γ δ : Type} {kv : γ → Value} {ev : δ → Value} {okk : γ → Prop} {b : Nat} {f : γ → Option δ}
    (h : d.R e w base ok v xs) (hm : MapOf kv ev okk w b f) (hc : Chg w w1 (fun k => k = b)) : d.R e w1 base ok v xs :=
  R_chg h hc (fun k q cells _ _ hk e => by
    subst e
    obtain ⟨es, cl, hb⟩ := hm.isMap
    rw [hb] at hk
    cases hk)
/-- .. a block of cells of a type that is none of the row's. -/
theorem R_typ {t : Nat} {cs : Array Value} {fr : Nat × Nat}
    (h : d.R e w base ok v xs) (hg : w.heap[g]? = some (.cells cs t fr)) (ht : ∀ q, q ∈ e :: d.E → q ≠ t) (hc : Chg w w1 (fun k => k = g)) : d.R e w1 base ok v xs :=
  R_chg h hc (fun k q cells _ hq hk e => by
    subst e
    rw [hg] at hk
    injection hk with hk
    injection hk with _ hk
    exact ht q hq hk.symm)
theorem R_block (h : d.R e w base ok v xs) {b : Nat} (hb : v.ownBlock = some b) : ok b ∧ ∃ cells, w.heap[b]? = some (.cells cells e (0, 0)) := by
  obtain ⟨h0, inner, ho, hr⟩ := h
  exact ⟨h0 b hb, own_typed ho b hb⟩

theorem nth_cell {xs : List α} {i j s m : Nat} (hi : i < m) (hj : j < s) : i * s + j < m * s := by
  have : i * s + s ≤ m * s := by rw [← Nat.succ_mul]; exact Nat.mul_le_mul_right _ hi
  omega
/-- An element that is there: its block, its cells. -/
theorem R_elem (h : d.R e w base ok v xs) {i : Nat} (hi : i < xs.length) : ∃ g cap cur c, v = .slice (some ⟨g, 0, none⟩) xs.length cap ∧ ok g ∧ base ≤ g ∧ w.heap[g]? = some (.cells cur e (0, 0)) ∧ xs.length ≤ cap ∧ cap ≤ maxLen ∧ cur.size = cap * d.sz ∧
    d.M w base (fun k => ok k ∧ k ≠ g) xs[i] c ∧ c.length = d.sz ∧ ∀ j u, c[j]? = some u → cur[i * d.sz + j]? = some u := by
  obtain ⟨h0, inner, ⟨hl, ho⟩, hr⟩ := h
  rcases ho with ⟨_, hn⟩ | ⟨g, cap, cur, rfl, hg, hh, hc1, hc2, hsz, ht⟩
  · omega
  · have hM := hr.2 i xs[i] (List.getElem?_eq_getElem hi)
    have hM' := d.M_mono (ok' := fun k => ok k ∧ k ≠ g) (fun k hk => ⟨hk.1, fun e => hk.2 (by simp [Value.ownBlock, e])⟩) hM
    refine ⟨g, cap, cur, _, rfl, h0 g rfl, hg, hh, hc1, hc2, hsz, hM', d.K_len (d.K_of_M hM'), fun j u hu => ?_⟩
    rw [List.getElem?_take] at hu
    split at hu
    · rename_i hj
      rw [List.getElem?_drop, ← ht, List.getElem?_take] at hu
      split at hu
      · simpa using hu
      · cases hu
    · cases hu
/-- One element's cells have changed, and whatever it leads to: 'cur'' are the row's cells now. -/
theorem R_upd (h : d.R e w base ok v xs) {i : Nat} (hi : i < xs.length) {cap : Nat} (hv : v = .slice (some ⟨g, 0, none⟩) xs.length cap) {cur cur' : Array Value} (hg : w.heap[g]? = some (.cells cur e (0, 0)))
    (hc : Chg w w1 S) (hS : ∀ k, ok k → S k → k = g) (hg1 : w1.heap[g]? = some (.cells cur' e (0, 0))) (hsz : cur'.size = cur.size) (hk : ∀ k, k < i * d.sz ∨ i * d.sz + d.sz ≤ k → cur'[k]? = cur[k]?)
    {x : α} {c : List Value} (hx : d.M w1 base (fun k => ok k ∧ k ≠ g) x c) (hcell : ∀ j, j < d.sz → cur'[i * d.sz + j]? = c[j]?) : d.R e w1 base ok v (xs.set i x) := by
  have hb := Kd.R_bound h
  obtain ⟨h0, inner, ⟨hl, ho⟩, hr⟩ := hb
  subst hv
  rcases ho with ⟨hn, _⟩ | ⟨g', cap', cur0, he, hgb, hh, hc1, hc2, hs, ht⟩
  · cases hn
  · injection he with he1 he2 he3
    injection he1 with he1
    injection he1 with he1
    subst he1; subst he3
    rw [hg] at hh
    injection hh with hh
    injection hh with hh
    subst hh
    have hxl := d.K_len (d.K_of_M hx)
    have hcl : cur'.toList.length = cap * d.sz := by rw [← hs, ← hsz]; simp
    have hmem : ∀ q y, xs[q]? = some y → q ≠ i → ((cur'.toList.take (xs.length * d.sz)).drop (q * d.sz)).take d.sz = (inner.drop (q * d.sz)).take d.sz := fun q y hq hne => by
      have hql : q < xs.length := (List.getElem?_eq_some_iff.1 hq).1
      rw [← ht]
      apply List.ext_getElem?
      intro j
      rw [List.getElem?_take, List.getElem?_take]
      split
      · rename_i hj
        rw [List.getElem?_drop, List.getElem?_drop, List.getElem?_take, List.getElem?_take]
        split
        · rw [Array.getElem?_toList, Array.getElem?_toList]
          refine hk _ ?_
          rcases Nat.lt_or_gt_of_ne hne with hlt | hlt
          · left
            have : q * d.sz + d.sz ≤ i * d.sz := by rw [← Nat.succ_mul]; exact Nat.mul_le_mul_right _ hlt
            omega
          · right
            have : i * d.sz + d.sz ≤ q * d.sz := by rw [← Nat.succ_mul]; exact Nat.mul_le_mul_right _ hlt
            omega
        · rfl
      · rfl
    have hmine : ((cur'.toList.take (xs.length * d.sz)).drop (i * d.sz)).take d.sz = c := by
      apply List.ext_getElem?
      intro j
      rw [List.getElem?_take]
      split
      · rename_i hj
        rw [List.getElem?_drop, List.getElem?_take, if_pos (nth_cell (xs := xs) hi hj), Array.getElem?_toList]
        exact hcell j hj
      · rename_i hj
        rw [List.getElem?_eq_none (by omega)]
    refine ⟨fun k hk' => (h0 k hk').1, cur'.toList.take (xs.length * d.sz), ⟨?_, .inr ⟨g, cap, cur', by rw [List.length_set], hgb, hg1, by rw [List.length_set]; exact hc1, hc2, by rw [hsz, hs], by rw [List.length_set]⟩⟩, ?_, ?_⟩
    · rw [List.length_set, List.length_take, hcl]
      exact Nat.min_eq_left (Nat.mul_le_mul_right _ hc1)
    · rw [List.length_set, List.length_take, hcl]
      exact Nat.min_eq_left (Nat.mul_le_mul_right _ hc1)
    · intro q y hq
      by_cases hqi : q = i
      · subst hqi
        rw [List.getElem?_set_self hi] at hq
        cases hq
        rw [hmine]
        exact d.M_mono (fun k hk' => ⟨hk'.1, fun e => hk'.2 (by simpa [Value.ownBlock] using e)⟩) hx
      · rw [List.getElem?_set_ne (Ne.symm hqi)] at hq
        rw [hmem q y hq hqi]
        have hM := hr.2 q y hq
        refine d.M_mono (fun k hk' => ⟨hk'.1.1, hk'.2⟩) (d.M_move (fun k hk' => ?_) hM)
        obtain ⟨⟨ho1, _, hlt, _⟩, hne⟩ := hk'
        exact hc.block k hlt (fun hs' => hne (by simp [Value.ownBlock, hS k ho1 hs']))
end
end Go.Proofs.Ytdammjolkcjogaa

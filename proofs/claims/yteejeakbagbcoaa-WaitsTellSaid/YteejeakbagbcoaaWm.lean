import Derived.Test.YteejeakbagbcoaaWb
/-! waits.met: all that one comes to along waits. -/
namespace Go.Proofs.Yteejeakbagbcoaa
open Go.RowKit Go.Maps Go.MapKept Go.WideMaps
open Go.Proofs.YteejeakbagbcoaaW.PrintWords Go.Proofs.YteejeakbagbcoaaW.PrintLast Go.Proofs.YteejeakbagbcoaaW.PrintMore
set_option linter.unusedVariables false
set_option linter.unusedSimpArgs false

/-- How many waits are for somebody who is not met yet. -/
def unseen (es : Edges) (g : Int → Option Int) : Nat := ((es.map (·.2)).filter fun k => (g k).isNone).length
theorem unseen_le (es : Edges) (g : Int → Option Int) : unseen es g ≤ es.length := by
  unfold unseen
  refine Nat.le_trans (List.length_filter_le _ _) ?_
  simp
theorem filter_le2 {α : Type} (p q : α → Bool) (h : ∀ x, q x = true → p x = true) : ∀ (l : List α), (l.filter q).length ≤ (l.filter p).length
  | [] => Nat.le_refl _
  | x :: l => by
    have ih := filter_le2 p q h l
    simp only [List.filter_cons]
    by_cases hq : q x = true
    · simp [hq, h x hq, ih]
    · by_cases hp : p x = true <;> simp [hq, hp] <;> omega
theorem unseen_upd (es : Edges) (g : Int → Option Int) (k v : Int) : unseen es (upd g k (some v)) ≤ unseen es g :=
  filter_le2 _ _ (fun x hx => by
    by_cases h : x = k
    · subst h; rw [upd_same] at hx; simp at hx
    · rw [upd_other _ _ h] at hx; exact hx) _
theorem unseen_new (es : Edges) (g : Int → Option Int) {k : Int} (v : Int) (hk : ∃ n, (n, k) ∈ es) (hg : g k = none) : unseen es (upd g k (some v)) + 1 ≤ unseen es g := by
  obtain ⟨n, hn⟩ := hk
  exact Go.filter_lt (fun k => (g k).isNone) (fun x => (upd g k (some v) x).isNone) (fun x hx => by
    by_cases h : x = k
    · subst h; rw [upd_same] at hx; simp at hx
    · rw [upd_other _ _ h] at hx; exact hx) k (by simp [hg]) (by rw [upd_same]; rfl) _ (List.mem_map.2 ⟨(n, k), hn, rfl⟩)

/-- The search: who is met (g), who is still to be gone on from (st); n, of whom j waits have been gone along. -/
structure Met (es : Edges) (a : Int) (st : List Int) (g : Int → Option Int) (B : Int) : Prop where
  reach : ∀ k v, g k = some v → Path es a k ∧ 1 ≤ v ∧ v ≤ B
  stk : ∀ n ∈ st, n = a ∨ ∃ v, g n = some v
  closed : ∀ n, (n = a ∨ ∃ v, g n = some v) → n ∈ st ∨ ∀ k, (n, k) ∈ es → ∃ v, g k = some v
structure Met2 (es : Edges) (a : Int) (st : List Int) (g : Int → Option Int) (n : Int) (j : Nat) (B : Int) : Prop where
  from_ : n = a ∨ Path es a n
  reach : ∀ k v, g k = some v → Path es a k ∧ 1 ≤ v ∧ v ≤ B
  stk : ∀ n ∈ st, n = a ∨ ∃ v, g n = some v
  closed : ∀ m, (m = a ∨ ∃ v, g m = some v) → m ∈ st ∨ m = n ∨ ∀ k, (m, k) ∈ es → ∃ v, g k = some v
  done : ∀ k ∈ (outs es n).take j, ∃ v, g k = some v
theorem Met.start (es : Edges) (a : Int) : Met es a [a] (fun _ => none) 0 :=
  ⟨by simp, by simp, fun n h => by
    rcases h with rfl | ⟨v, hv⟩
    · simp
    · cases hv⟩
theorem Met.pop {es : Edges} {a n : Int} {st : List Int} {g : Int → Option Int} {B : Int} (h : Met es a (st ++ [n]) g B) : Met2 es a st g n 0 B := by
  refine ⟨?_, h.reach, fun m hm => h.stk m (List.mem_append_left _ hm), fun m hm => ?_, by simp⟩
  · rcases h.stk n (by simp) with h1 | ⟨v, hv⟩
    · exact .inl h1
    · exact .inr (h.reach n v hv).1
  · rcases h.closed m hm with h1 | h1
    · rcases List.mem_append.1 h1 with h1 | h1
      · exact .inl h1
      · exact .inr (.inl (List.mem_singleton.1 h1))
    · exact .inr (.inr h1)
theorem Met2.step {es : Edges} {a n : Int} {st st' : List Int} {g : Int → Option Int} {j : Nat} {B : Int} (h : Met2 es a st g n j B) (hj : j < (outs es n).length)
    (hst : (g (outs es n)[j] = none ∧ st' = st ++ [(outs es n)[j]]) ∨ ((∃ v, g (outs es n)[j] = some v) ∧ st' = st)) (hB : 0 ≤ B) :
    Met2 es a st' (upd g (outs es n)[j] (some ((g (outs es n)[j]).getD 0 + 1))) n (j + 1) (B + 1) := by
  have he : (n, (outs es n)[j]) ∈ es := mem_outs.1 (List.getElem_mem hj)
  have htk : (outs es n).take (j + 1) = (outs es n).take j ++ [(outs es n)[j]] := by rw [List.take_add_one, List.getElem?_eq_getElem hj]; rfl
  rw [← Nat.add_zero (j + 1)] at *
  generalize (outs es n)[j] = k at *
  have hup : ∀ m, (∃ v, g m = some v) → ∃ v, upd g k (some ((g k).getD 0 + 1)) m = some v := fun m ⟨v, hv⟩ => by
    by_cases hm : m = k
    · subst hm; exact ⟨_, upd_same _ _ _⟩
    · exact ⟨v, by rw [upd_other _ _ hm]; exact hv⟩
  have hk : ∃ v, upd g k (some ((g k).getD 0 + 1)) k = some v := ⟨_, upd_same _ _ _⟩
  refine ⟨h.from_, fun m v hv => ?_, fun m hm => ?_, fun m hm => ?_, fun m hm => ?_⟩
  · by_cases hmk : m = k
    · subst hmk
      rw [upd_same] at hv
      cases hv
      refine ⟨?_, ?_⟩
      · rcases h.from_ with rfl | hp
        · exact Path.one he
        · exact hp.more he
      · cases hg : g m with
        | none => simp; omega
        | some v => have := (h.reach m v hg).2; simp; omega
    · rw [upd_other _ _ hmk] at hv
      have := h.reach m v hv
      exact ⟨this.1, this.2.1, by omega⟩
  · rcases hst with ⟨_, rfl⟩ | ⟨_, rfl⟩
    · rcases List.mem_append.1 hm with hm | hm
      · exact (h.stk m hm).imp id (hup m)
      · rw [List.mem_singleton.1 hm]; exact .inr hk
    · exact (h.stk m hm).imp id (hup m)
  · have hclosed : (m = a ∨ ∃ v, g m = some v) → m ∈ st' ∨ m = n ∨ ∀ k', (m, k') ∈ es → ∃ v, upd g k (some ((g k).getD 0 + 1)) k' = some v := fun hm => by
      rcases h.closed m hm with h1 | h1 | h1
      · left
        rcases hst with ⟨_, rfl⟩ | ⟨_, rfl⟩
        · exact List.mem_append_left _ h1
        · exact h1
      · exact .inr (.inl h1)
      · exact .inr (.inr fun k' hk' => hup k' (h1 k' hk'))
    rcases hm with hm | ⟨v, hv⟩
    · exact hclosed (.inl hm)
    · by_cases hmk : m = k
      · subst hmk
        rcases hst with ⟨_, rfl⟩ | ⟨hs, _⟩
        · exact .inl (by simp)
        · exact hclosed (.inr hs)
      · rw [upd_other _ _ hmk] at hv
        exact hclosed (.inr ⟨v, hv⟩)
  · rw [htk] at hm
    rcases List.mem_append.1 hm with hm | hm
    · exact hup m (h.done m hm)
    · rw [List.mem_singleton.1 hm]; exact hk
theorem Met2.all {es : Edges} {a n : Int} {st : List Int} {g : Int → Option Int} {B : Int} (h : Met2 es a st g n (outs es n).length B) {B' : Int} (hB : B ≤ B') : Met es a st g B' := by
  refine ⟨fun k v hk => ?_, h.stk, fun m hm => ?_⟩
  · have := h.reach k v hk
    exact ⟨this.1, this.2.1, by omega⟩
  · rcases h.closed m hm with h1 | rfl | h1
    · exact .inl h1
    · exact .inr fun k hk => h.done k (by rw [List.take_length]; exact mem_outs.2 hk)
    · exact .inr h1
theorem Met.end_ {es : Edges} {a : Int} {g : Int → Option Int} {B : Int} (h : Met es a [] g B) (k : Int) : (∃ v, g k = some v) ↔ Path es a k := by
  constructor
  · rintro ⟨v, hv⟩
    exact (h.reach k v hv).1
  · intro hp
    refine Path.rec' (S := fun x => ∃ v, g x = some v) (fun k hk => ?_) (fun n k _ hn hk => ?_) hp
    · rcases h.closed a (.inl rfl) with h1 | h1
      · cases h1
      · exact h1 k hk
    · rcases h.closed n (.inr hn) with h1 | h1
      · cases h1
      · exact h1 k hk
end Go.Proofs.Yteejeakbagbcoaa

import Derived.Test.YteejeakbagbcoaaPWaitsTellx7
import Derived.Test.YteejeakbagbcoaaWp
/-! What the document's rise and Victim compute: the plain law. -/
namespace Go.Proofs.Yteejeakbagbcoaa
open Go.RowKit
open Go.Proofs.Yteejeakbagbcoaa.PWaitsTell Go.Proofs.YteejeakbagbcoaaW.PrintWords Go.Proofs.YteejeakbagbcoaaW.PrintLast Go.Proofs.YteejeakbagbcoaaW.PrintMore
set_option linter.unusedVariables false
set_option linter.unusedSimpArgs false

/-- An answer: rising, and of these numbers. -/
def RiseOf (s : Int → Prop) (r : List Int) : Prop := r.Pairwise (· < ·) ∧ ∀ x, x ∈ r ↔ s x
theorem insert_rise {acc : List Int} {j : Nat} {v : Int} (hs : acc.Pairwise (· < ·)) (hlo : ∀ y ∈ acc.take j, y < v) (hhi : ∀ y ∈ acc.drop j, v < y) :
    RiseOf (fun x => x ∈ acc ∨ x = v) (acc.take j ++ [v] ++ acc.drop j) := by
  have hp : (acc.take j ++ acc.drop j).Pairwise (· < ·) := by rw [List.take_append_drop]; exact hs
  obtain ⟨h1, h2, h3⟩ := List.pairwise_append.1 hp
  refine ⟨?_, fun x => ?_⟩
  · rw [List.append_assoc]
    refine List.pairwise_append.2 ⟨h1, ?_, ?_⟩
    · exact List.pairwise_cons.2 ⟨hhi, h2⟩
    · intro a ha b hb
      rcases List.mem_cons.1 hb with rfl | hb
      · exact hlo a ha
      · exact h3 a ha b hb
  · have : x ∈ acc ↔ x ∈ acc.take j ∨ x ∈ acc.drop j := by rw [← List.mem_append, List.take_append_drop]
    show _ ↔ (x ∈ acc ∨ x = v)
    rw [this]
    simp only [List.mem_append, List.mem_singleton]
    constructor
    · rintro ((h | h) | h)
      · exact .inl (.inl h)
      · exact .inr h
      · exact .inl (.inr h)
    · rintro ((h | h) | h)
      · exact .inl (.inl h)
      · exact .inr h
      · exact .inl (.inr h)
theorem wrap64_small {n : Nat} (h : n < 100000) : wrap64 ((n : Int) + 1) = ((n + 1 : Nat) : Int) := by unfold wrap64; omega
theorem rd_at {l : List Int} {i : Nat} (h : i < l.length) : rd l (i : Int) = l[i] := by simp [rd, h]

theorem rise_inner (l : List Int) (i : Nat) (hi : i < l.length) (hb : l.length < 100000)
    (ih : ∀ acc : List Int, acc.Pairwise (· < ·) → acc.length ≤ i + 1 → ∃ k r, covenantref15_rise.l0 k l acc ((i + 1 : Nat) : Int) = some r ∧ RiseOf (fun x => x ∈ acc ∨ x ∈ l.drop (i + 1)) r)
    (acc : List Int) (hs : acc.Pairwise (· < ·)) (hal : acc.length ≤ i) :
    ∀ (m j : Nat), acc.length - j = m → j ≤ acc.length → (∀ y ∈ acc.take j, y < l[i]) → ∃ k r, covenantref15_rise.l1 k l acc (i : Int) (j : Int) = some r ∧ RiseOf (fun x => (x ∈ acc ∨ x = l[i]) ∨ x ∈ l.drop (i + 1)) r := by
  intro m
  induction m with
  | zero =>
    intro j hm hj hlo
    obtain rfl : j = acc.length := by omega
    have hin := insert_rise hs hlo (by simp)
    obtain ⟨k, r, hr, h1, h2⟩ := ih _ hin.1 (by simp; omega)
    refine ⟨k + 1, r, ?_, h1, fun x => (h2 x).trans (or_congr (hin.2 x) Iff.rfl)⟩
    rw [covenantref15_rise.l1, if_neg (by omega)]
    simp only [Option.bind_some, List.nil_append, List.length_nil, Int.toNat_natCast]
    rw [if_pos (by omega), if_pos (by omega), if_pos (by simp; omega), if_pos (by omega), if_pos (by omega), if_pos (by simp; omega), if_pos (by simp; omega), rd_at hi, wrap64_small (by omega)]
    exact hr
  | succ m ihm =>
    intro j hm hj hlo
    have hjl : j < acc.length := by omega
    have hsplit : acc.drop j = acc[j] :: acc.drop (j + 1) := List.drop_eq_getElem_cons hjl
    have hp : (acc.drop j).Pairwise (· < ·) := hs.sublist (List.drop_sublist _ _)
    rw [hsplit] at hp
    obtain ⟨hgt, _⟩ := List.pairwise_cons.1 hp
    by_cases h1 : acc[j] < l[i]
    · obtain ⟨k, r, hr, hR⟩ := ihm (j + 1) (by omega) (by omega) (fun y hy => by
        rw [List.take_add_one, List.getElem?_eq_getElem hjl] at hy
        rcases List.mem_append.1 hy with hy | hy
        · exact hlo y hy
        · obtain rfl : y = acc[j] := by simpa using hy
          exact h1)
      refine ⟨k + 1, r, ?_, hR⟩
      rw [covenantref15_rise.l1, if_pos (by omega), if_pos (by omega), if_pos (by omega), if_pos (by omega), rd_at hjl, rd_at hi, if_pos h1, wrap64_small (by omega)]
      exact hr
    · by_cases h2 : acc[j] = l[i]
      · obtain ⟨k, r, hr, hR1, hR2⟩ := ih acc hs (by omega)
        refine ⟨k + 1, r, ?_, hR1, fun x => ?_⟩
        · rw [covenantref15_rise.l1, if_pos (by omega), if_pos (by omega), if_pos (by omega), if_pos (by omega), rd_at hjl, rd_at hi, if_neg h1, if_pos h2, wrap64_small (by omega)]
          exact hr
        · rw [hR2]
          constructor
          · rintro (h | h)
            · exact .inl (.inl h)
            · exact .inr h
          · rintro ((h | h) | h)
            · exact .inl h
            · exact .inl (by rw [h, ← h2]; exact List.getElem_mem hjl)
            · exact .inr h
      · have hin := insert_rise (v := l[i]) hs hlo (by
          rw [hsplit]
          intro y hy
          rcases List.mem_cons.1 hy with rfl | hy
          · omega
          · have := hgt y hy
            omega)
        have hlen : (acc.take j ++ [l[i]] ++ acc.drop j).length = acc.length + 1 := by simp only [List.length_append, List.length_take, List.length_drop, List.length_singleton]; omega
        obtain ⟨k, r, hr, h3, h4⟩ := ih _ hin.1 (by rw [hlen]; omega)
        refine ⟨k + 1, r, ?_, h3, fun x => (h4 x).trans (or_congr (hin.2 x) Iff.rfl)⟩
        rw [covenantref15_rise.l1, if_pos (by omega), if_pos (by omega), if_pos (by omega), if_pos (by omega), rd_at hjl, rd_at hi, if_neg h1, if_neg h2]
        simp only [Option.bind_some, List.nil_append, List.length_nil, Int.toNat_natCast]
        rw [if_pos (by omega), if_pos (by simp only [List.length_take]; omega), if_pos (by simp only [List.length_take]; omega), if_pos (by simp only [List.length_append, List.length_take, List.length_drop, List.length_singleton]; omega), wrap64_small (by omega)]
        exact hr
theorem rise_outer (l : List Int) (hb : l.length < 100000) : ∀ (m i : Nat) (acc : List Int), l.length - i = m → i ≤ l.length → acc.Pairwise (· < ·) → acc.length ≤ i →
    ∃ k r, covenantref15_rise.l0 k l acc (i : Int) = some r ∧ RiseOf (fun x => x ∈ acc ∨ x ∈ l.drop i) r := by
  intro m
  induction m with
  | zero =>
    intro i acc hm hi hs hal
    obtain rfl : i = l.length := by omega
    refine ⟨1, acc, ?_, hs, fun x => by simp⟩
    rw [covenantref15_rise.l0, if_neg (by omega)]
  | succ m ihm =>
    intro i acc hm hi hs hal
    have hil : i < l.length := by omega
    obtain ⟨k, r, hr, h1, h2⟩ := rise_inner l i hil hb (fun acc hs hal => ihm (i + 1) acc (by omega) (by omega) hs hal) acc hs hal _ 0 rfl (Nat.zero_le _) (by simp)
    refine ⟨k + 1, r, ?_, h1, fun x => ?_⟩
    · rw [covenantref15_rise.l0, if_pos (by omega)]
      exact hr
    · refine (h2 x).trans ?_
      show ((x ∈ acc ∨ x = l[i]) ∨ x ∈ l.drop (i + 1)) ↔ (x ∈ acc ∨ x ∈ l.drop i)
      rw [List.drop_eq_getElem_cons hil, List.mem_cons]
      constructor
      · rintro ((h | h) | h)
        · exact .inl h
        · exact .inr (.inl h)
        · exact .inr (.inr h)
      · rintro (h | h | h)
        · exact .inl (.inl h)
        · exact .inl (.inr h)
        · exact .inr h
theorem rise_some (l : List Int) (hb : l.length < 100000) : ∃ k r, covenantref15_rise.f k l = some r ∧ RiseOf (fun x => x ∈ l) r := by
  obtain ⟨k, r, h, h1, h2⟩ := rise_outer l hb _ 0 [] rfl (Nat.zero_le _) (by simp) (by simp)
  exact ⟨k, r, h, h1, fun x => by rw [h2]; simp⟩
theorem victim_walk (l : List Int) (hb : l.length < 100000) : ∀ (m i : Nat) (n : Int), l.length - i = m → i ≤ l.length → ∃ k, covenantref15_Victim.l0 k l n (i : Int) = some ((l.drop i).foldl mx n) := by
  intro m
  induction m with
  | zero =>
    intro i n hm hi
    obtain rfl : i = l.length := by omega
    exact ⟨1, by rw [covenantref15_Victim.l0, if_neg (by omega)]; simp⟩
  | succ m ihm =>
    intro i n hm hi
    have hil : i < l.length := by omega
    obtain ⟨k, h⟩ := ihm (i + 1) (mx n l[i]) (by omega) (by omega)
    exact ⟨k + 1, by rw [covenantref15_Victim.l0, if_pos (by omega), if_pos (by omega), rd_at hil, wrap64_small (by omega), h, List.drop_eq_getElem_cons hil]; rfl⟩
theorem victim_some (x : Int) (l : List Int) (hb : (x :: l).length < 100000) : ∃ k, covenantref15_Victim.f k (x :: l) = some (l.foldl mx x) := by
  obtain ⟨k, h⟩ := victim_walk (x :: l) hb _ 1 x rfl (by simp)
  exact ⟨k, by rw [covenantref15_Victim.f, if_neg (by simp; omega), if_pos (by simp)]; exact h⟩
theorem foldl_mx : ∀ (l : List Int) (x : Int), l.foldl mx x = l.foldl max x
  | [], _ => rfl
  | y :: l, x => by
    rw [List.foldl_cons, List.foldl_cons, show mx x y = max x y from by unfold mx; omega]
    exact foldl_mx l _
end Go.Proofs.Yteejeakbagbcoaa

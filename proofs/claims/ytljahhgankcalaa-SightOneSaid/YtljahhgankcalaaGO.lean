import Derived.Test.YtljahhgankcalaaGhM
import Derived.BigRegion
import Derived.BigQuiet
import Derived.Deep.CutBlock
import Derived.Deep.RegionHeld3
/-! SightOne, the plain law: the table of transactions beneath three who act. -/
namespace Go.Proofs.Ytljahhgankcalaa
open Go.RowKit Go.Maps Go.MapKept Go.WideMaps Go.Shelf
open Go.Proofs.YtljahhgankcalaaW.PrintWords Go.Proofs.YtljahhgankcalaaW.PrintLast Go.Proofs.YtljahhgankcalaaW.PrintMore
set_option linter.unusedVariables false
set_option linter.unusedSimpArgs false

/-! ### who stands above whom -/
theorem TT.Ok.up_sub {T : TT} (h : T.Ok) : ∀ (n : Nat) (a c : Int), a ≤ n → c ∈ T.up a → ∃ l, T.up a = l ++ T.up c
  | 0, a, c, ha, hc => by
    have : T.is a = false := by
      cases e : T.is a with
      | false => rfl
      | true => have := (T.is_iff a).1 e; omega
    rw [TT.up_no this] at hc
    cases hc
  | n + 1, a, c, ha, hc => by
    cases e : T.is a with
    | false =>
      rw [TT.up_no e] at hc
      cases hc
    | true =>
      have hp := h.par_lt e
      rw [h.up_yes e] at hc
      rcases List.mem_cons.1 hc with rfl | hc
      · exact ⟨[], rfl⟩
      · obtain ⟨l, hl⟩ := h.up_sub n _ c (by omega) hc
        exact ⟨a :: l, by rw [h.up_yes e, hl]; rfl⟩
theorem TT.Ok.up_tail {T : TT} (h : T.Ok) {a c : Int} (hc : c ∈ T.up a) : ∃ l, T.up a = l ++ T.up c := h.up_sub a.toNat a c (by omega) hc
theorem TT.Ok.mem_is {T : TT} (h : T.Ok) {a c : Int} (hc : c ∈ T.up a) : T.is c = true := h.up_is _ _ _ hc
theorem TT.Ok.top_of {T : TT} (h : T.Ok) {a c : Int} (hc : c ∈ T.up a) : T.top c = T.top a := by
  obtain ⟨l, hl⟩ := h.up_tail hc
  unfold TT.top
  rw [hl, List.getLastD_eq_getLast?, List.getLastD_eq_getLast?, List.getLast?_append, h.up_yes (h.mem_is hc)]
  simp [List.getLast?_cons]
theorem TT.Ok.top_mem {T : TT} (h : T.Ok) {a : Int} (ha : T.is a = true) : T.top a ∈ T.up a := by
  unfold TT.top
  rw [h.up_yes ha, List.getLastD_eq_getLast?, List.getLast?_eq_some_getLast (by simp)]
  exact List.getLast_mem _
theorem TT.Ok.counts_up {T : TT} (h : T.Ok) {a c : Int} (ha : T.counts a = true) (hc : c ∈ T.up a) : T.counts c = true := by
  obtain ⟨l, hl⟩ := h.up_tail hc
  unfold TT.counts at ha ⊢
  rw [Bool.and_eq_true, hl, List.all_append, Bool.and_eq_true] at ha
  rw [Bool.and_eq_true]
  exact ⟨h.mem_is hc, ha.2.2⟩
theorem TT.Ok.num_top {T : TT} (h : T.Ok) {a : Int} (ha : T.counts a = true) : T.number (T.top a) = (T.at (T.top a)).f2 := by
  have h1 := h.top_mem (TT.counts_is ha)
  unfold TT.number
  rw [if_pos (h.counts_up ha h1), h.top_of h1]
theorem TT.Ok.done_eq {T : TT} (h : T.Ok) (a : Int) : T.done a = if T.counts a = true then (T.at (T.top a)).f2 else 0 := by
  unfold TT.done
  split
  · rename_i e
    exact h.num_top e
  · rfl

/-! ### begin -/
section
variable {T : TT} {p : Int}
theorem TT.begin_at (h : p = 0 ∨ (T.is p = true ∧ (T.at p).f1 = 1)) : T.begin p = ((T.all.length : Int) + 1, 0, { T with all := T.all ++ [⟨p, 1, 0⟩] }) := by
  unfold TT.begin
  rw [if_pos h]
theorem TT.more_at (x : TOne) {a : Int} (ha : T.is a = true) : TT.at { T with all := T.all ++ [x] } a = T.at a := by
  have h1 := (T.is_iff a).1 ha
  unfold TT.at
  rw [List.getD_eq_getElem?_getD, List.getD_eq_getElem?_getD, List.getElem?_append_left (by omega)]
theorem TT.more_new (x : TOne) : TT.at { T with all := T.all ++ [x] } ((T.all.length : Int) + 1) = x := by
  unfold TT.at
  rw [show ((T.all.length : Int) + 1 - 1).toNat = T.all.length from by omega]
  simp [List.getD_eq_getElem?_getD]
theorem TT.more_is (x : TOne) {a : Int} : TT.is { T with all := T.all ++ [x] } a = true ↔ T.is a = true ∨ a = (T.all.length : Int) + 1 := by
  rw [TT.is_iff, TT.is_iff]
  simp only [List.length_append, List.length_cons, List.length_nil]
  omega
theorem TT.Ok.more_up (h : T.Ok) (x : TOne) (h2 : TT.Ok { T with all := T.all ++ [x] }) : ∀ (n : Nat) (a : Int), a ≤ n → T.is a = true → TT.up { T with all := T.all ++ [x] } a = T.up a
  | 0, a, ha, hi => by have := (T.is_iff a).1 hi; omega
  | n + 1, a, ha, hi => by
    rw [h2.up_yes ((TT.more_is x).2 (.inl hi)), h.up_yes hi, TT.more_at x hi]
    congr 1
    have hp := h.par_lt hi
    cases e : T.is (T.at a).f0 with
    | true => exact h.more_up x h2 n _ (by omega) e
    | false =>
      rw [TT.up_no e, TT.up_no]
      cases e2 : TT.is { T with all := T.all ++ [x] } (T.at a).f0 with
      | false => rfl
      | true =>
        have h3 := (TT.is_iff _ _).1 e2
        have h4 := (T.is_iff a).1 hi
        have h5 := (not_congr (T.is_iff (T.at a).f0)).1 (by rw [e]; simp)
        simp only [List.length_append, List.length_cons, List.length_nil] at h3
        omega
/-- What a new one leaves as it was. -/
structure SameAt (T T' : TT) (a : Int) : Prop where
  up : T'.up a = T.up a
  counts : T'.counts a = T.counts a
  top : T'.top a = T.top a
  done : T'.done a = T.done a
theorem SameAt.old {T' : TT} {a : Int} (h : SameAt T T' a) (q : Int) : T'.old q a = T.old q a := by
  unfold TT.old
  rw [h.done]
theorem TT.Ok.more_same (h : T.Ok) (x : TOne) (h2 : TT.Ok { T with all := T.all ++ [x] }) {a : Int} (ha : T.is a = true) : SameAt T { T with all := T.all ++ [x] } a := by
  have hu : ∀ c, T.is c = true → TT.up { T with all := T.all ++ [x] } c = T.up c := fun c hc => h.more_up x h2 c.toNat c (by omega) hc
  have ht : TT.top { T with all := T.all ++ [x] } a = T.top a := by
    unfold TT.top
    rw [hu a ha]
  have hcn : TT.counts { T with all := T.all ++ [x] } a = T.counts a := by
    unfold TT.counts
    rw [hu a ha, ha, (TT.more_is x).2 (.inl ha)]
    congr 1
    rw [Bool.eq_iff_iff, List.all_eq_true, List.all_eq_true]
    constructor
    · intro H c hc
      rw [← TT.more_at x (h.mem_is hc)]
      exact H c hc
    · intro H c hc
      rw [TT.more_at x (h.mem_is hc)]
      exact H c hc
  refine ⟨hu a ha, hcn, ht, ?_⟩
  rw [h2.done_eq, h.done_eq, hcn, ht, TT.more_at x (h.top_is ha)]
end

/-! ### the ends -/
theorem TT.put_at (T : TT) {k a : Int} (hk : T.is k = true) (ha : 1 ≤ a) (s : Int) : (T.put k s).at a = if a = k then { T.at k with f1 := s } else T.at a := by
  have h1 := (T.is_iff k).1 hk
  by_cases e : a = k
  · subst e
    rw [if_pos rfl]
    unfold TT.put
    conv => lhs; unfold TT.at
    rw [List.getD_eq_getElem?_getD, List.getElem?_set_self (by omega)]
    rfl
  · rw [if_neg e]
    unfold TT.put
    conv => lhs; unfold TT.at
    rw [List.getD_eq_getElem?_getD, List.getElem?_set_ne (by omega), ← List.getD_eq_getElem?_getD]
    rfl
theorem TT.mark_at (f t : Int) : ∀ (l : List Int) (T : TT), (∀ k ∈ l, T.is k = true) → ∀ a, 1 ≤ a →
    ((T.mark f t l).at a).f2 = (T.at a).f2 ∧ (a ∉ l → (T.mark f t l).at a = T.at a) ∧ (t ≠ 3 → f < 3 → (((T.mark f t l).at a).f1 = 3 ↔ (T.at a).f1 = 3))
  | [], T, _, a, ha => ⟨rfl, fun _ => rfl, fun _ _ => Iff.rfl⟩
  | k :: l, T, hl, a, ha => by
    have hk := hl k (by simp)
    have hstep : ∀ T1, T1 = (if (T.at k).f1 ≤ f then T.put k t else T) → (T1.at a).f2 = (T.at a).f2 ∧ (a ≠ k → T1.at a = T.at a) ∧ (t ≠ 3 → f < 3 → ((T1.at a).f1 = 3 ↔ (T.at a).f1 = 3)) ∧ ∀ c ∈ l, T1.is c = true := by
      intro T1 hT1
      subst hT1
      split
      · rename_i hf
        refine ⟨?_, ?_, ?_, ?_⟩
        · rw [T.put_at hk ha]
          split
          · rename_i e; subst e; rfl
          · rfl
        · intro hne
          rw [T.put_at hk ha, if_neg hne]
        · intro h3 hf3
          rw [T.put_at hk ha]
          split
          · rename_i e
            subst e
            exact ⟨fun e => absurd e h3, fun e => by omega⟩
          · exact Iff.rfl
        · intro c hc
          rw [(T.put_same hk t).is]
          exact hl c (by simp [hc])
      · exact ⟨rfl, fun _ => rfl, fun _ _ => Iff.rfl, fun c hc => hl c (by simp [hc])⟩
    obtain ⟨s1, s2, s3, s4⟩ := hstep _ rfl
    obtain ⟨r1, r2, r3⟩ := TT.mark_at f t l _ s4 a ha
    show ((TT.mark _ f t l).at a).f2 = _ ∧ (_ → (TT.mark _ f t l).at a = _) ∧ (_ → _ → (((TT.mark _ f t l).at a).f1 = 3 ↔ _))
    refine ⟨r1.trans s1, fun hn => ?_, fun h1 h2 => (r3 h1 h2).trans (s3 h1 h2)⟩
    rw [List.mem_cons, not_or] at hn
    exact (r2 hn.2).trans (s2 hn.1)
theorem TT.mem_belc (T : TT) (id : Int) : ∀ (d : Nat) (k : Int), ∀ a ∈ T.belc id d k, id ∈ T.up a ∧ k ≤ a
  | 0, k, a, ha => by simp [TT.belc] at ha
  | d + 1, k, a, ha => by
    simp only [TT.belc] at ha
    split at ha
    · rename_i h
      rcases List.mem_cons.1 ha with rfl | ha
      · exact ⟨List.contains_iff_mem.1 h, Int.le_refl _⟩
      · have := T.mem_belc id d (k + 1) a ha
        exact ⟨this.1, by omega⟩
    · have := T.mem_belc id d (k + 1) a ha
      exact ⟨this.1, by omega⟩
section
variable {T : TT} {id : Int}
theorem TT.Ok.endd_at (h : T.Ok) (hi : T.is id = true) (h1 : (T.at id).f1 = 1) (f t : Int) : (T.endd id f t).1 = 0 ∧ SameUp T (T.endd id f t).2 ∧ ((T.endd id f t).2.at id).f1 = t ∧
    ∀ a, T.is a = true → ((T.endd id f t).2.at a).f2 = (T.at a).f2 ∧ (id ∉ T.up a → (T.endd id f t).2.at a = T.at a) ∧ (t ≠ 3 → f < 3 → (((T.endd id f t).2.at a).f1 = 3 ↔ (T.at a).f1 = 3)) := by
  have hs := T.endd_same h id f t
  have he : T.endd id f t = (0, (T.put id t).mark f t (T.bel id)) := by unfold TT.endd; rw [if_pos hi, if_pos h1]
  rw [he] at hs ⊢
  have hp := T.put_same hi t
  have hbel : ∀ a ∈ T.bel id, id ∈ T.up a ∧ id + 1 ≤ a := fun a ha => T.mem_belc id _ _ a ha
  have hbi : ∀ k ∈ T.bel id, (T.put id t).is k = true := fun k hk => by
    rw [hp.is]
    cases e : T.is k with
    | true => rfl
    | false =>
      have := (hbel k hk).1
      rw [TT.up_no e] at this
      cases this
  have hid := (T.is_iff id).1 hi
  refine ⟨rfl, hs, ?_, fun a ha => ?_⟩
  · have := (TT.mark_at f t (T.bel id) (T.put id t) hbi id hid.1).2.1 (fun hm => by have := (hbel id hm).2; omega)
    rw [this, T.put_at hi hid.1, if_pos rfl]
  · have ha1 := ((T.is_iff a).1 ha).1
    obtain ⟨m1, m2, m3⟩ := TT.mark_at f t (T.bel id) (T.put id t) hbi a ha1
    refine ⟨m1.trans ?_, fun hn => ?_, fun h3 hf => (m3 h3 hf).trans ?_⟩
    · rw [T.put_at hi ha1]
      split
      · rename_i e; subst e; rfl
      · rfl
    · rw [m2 (fun hm => hn (hbel a hm).1), T.put_at hi ha1, if_neg]
      rintro rfl
      exact hn (List.contains_iff_mem.1 (h.up_self ha))
    · rw [T.put_at hi ha1]
      split
      · rename_i e
        subst e
        exact ⟨fun e => absurd e h3, fun e => by omega⟩
      · exact Iff.rfl
/-- Taken back: who stands below it counts no longer. -/
theorem TT.Ok.abort_at (h : T.Ok) (hi : T.is id = true) (h1 : (T.at id).f1 = 1) : (T.abort id).1 = 0 ∧ SameUp T (T.abort id).2 ∧
    ∀ a, T.is a = true → ((T.abort id).2.at a).f2 = (T.at a).f2 ∧ (id ∉ T.up a → (T.abort id).2.at a = T.at a) ∧ ((T.abort id).2.counts a = true ↔ T.counts a = true ∧ id ∉ T.up a) := by
  obtain ⟨e1, e2, e3, e4⟩ := h.endd_at hi h1 2 3
  refine ⟨e1, e2, fun a ha => ⟨(e4 a ha).1, (e4 a ha).2.1, ?_⟩⟩
  have hu := SameUp.up e2 a
  have his := SameUp.is e2 a
  show TT.counts (T.endd id 2 3).2 a = true ↔ _
  unfold TT.counts
  rw [hu, his, ha, Bool.true_and, Bool.true_and, List.all_eq_true, List.all_eq_true]
  constructor
  · intro H
    have hn : id ∉ T.up a := fun hm => by
      have := H id hm
      rw [e3] at this
      simp at this
    refine ⟨fun c hc => ?_, hn⟩
    have hcn : id ∉ T.up c := fun hm => by
      obtain ⟨l, hl⟩ := h.up_tail hc
      exact hn (by rw [hl]; exact List.mem_append_right _ hm)
    rw [← (e4 c (h.mem_is hc)).2.1 hcn]
    exact H c hc
  · rintro ⟨H, hn⟩ c hc
    have hcn : id ∉ T.up c := fun hm => by
      obtain ⟨l, hl⟩ := h.up_tail hc
      exact hn (by rw [hl]; exact List.mem_append_right _ hm)
    rw [(e4 c (h.mem_is hc)).2.1 hcn]
    exact H c hc
/-- Committed: who stands below it has its number. -/
theorem TT.Ok.commit_at (h : T.Ok) (hi : T.is id = true) (h1 : (T.at id).f1 = 1) (h0 : (T.at id).f0 = 0) : (T.commit id).1 = 0 ∧ (T.commit id).2.last = T.last + 1 ∧
    (∀ a, (T.commit id).2.is a = T.is a ∧ (T.commit id).2.up a = T.up a ∧ (T.commit id).2.top a = T.top a) ∧
    ∀ a, T.is a = true → (id ∉ T.up a → (T.commit id).2.at a = T.at a) ∧ ((T.commit id).2.at a).f2 = (if a = id then T.last + 1 else (T.at a).f2) ∧ (T.commit id).2.counts a = T.counts a := by
  obtain ⟨e1, e2, e3, e4⟩ := h.endd_at hi h1 1 2
  have hok := h.endd id 1 2
  have he : T.commit id = (0, (T.endd id 1 2).2.num id) := by
    unfold TT.commit
    rw [if_pos e1, if_pos (by rw [SameUp.par e2]; exact h0)]
  rw [he]
  generalize (T.endd id 1 2).2 = T1 at e1 e2 e3 e4 hok
  have hid := (T.is_iff id).1 hi
  have hid1 : T1.is id = true := (SameUp.is e2 id).trans hi
  have hat : ∀ a, 1 ≤ a → (T1.num id).at a = if a = id then { T1.at id with f2 := T1.last + 1 } else T1.at a := by
    intro a ha
    have hl := SameUp.len e2
    by_cases e : a = id
    · subst e
      rw [if_pos rfl]
      unfold TT.num
      conv => lhs; unfold TT.at
      rw [List.getD_eq_getElem?_getD, List.getElem?_set_self (by omega)]
      rfl
    · rw [if_neg e]
      unfold TT.num
      conv => lhs; unfold TT.at
      rw [List.getD_eq_getElem?_getD, List.getElem?_set_ne (by omega), ← List.getD_eq_getElem?_getD]
      rfl
  have his : ∀ a, (T1.num id).is a = T1.is a := fun a => by
    unfold TT.is TT.num
    simp
  have hok2 := hok.num hid1
  have hup : ∀ (n : Nat) (a : Int), a ≤ n → (T1.num id).up a = T1.up a := by
    intro n
    induction n with
    | zero =>
      intro a ha
      have e : T1.is a = false := by
        cases e : T1.is a with
        | false => rfl
        | true => have := (T1.is_iff a).1 e; omega
      rw [TT.up_no e, TT.up_no ((his a).trans e)]
    | succ n ih =>
      intro a ha
      cases e : T1.is a with
      | false => rw [TT.up_no e, TT.up_no ((his a).trans e)]
      | true =>
        have hp := hok.par_lt e
        rw [hok2.up_yes ((his a).trans e), hok.up_yes e, hat a ((T1.is_iff a).1 e).1]
        have : (if a = id then { T1.at id with f2 := T1.last + 1 } else T1.at a).f0 = (T1.at a).f0 := by
          split
          · rename_i e; subst e; rfl
          · rfl
        rw [this, ih _ (by omega)]
  have hup' : ∀ a, (T1.num id).up a = T1.up a := fun a => hup a.toNat a (by omega)
  refine ⟨rfl, ?_, fun a => ⟨(his a).trans (SameUp.is e2 a), (hup' a).trans (SameUp.up e2 a), ?_⟩, fun a ha => ?_⟩
  · show T1.last + 1 = _
    rw [e2.2]
  · unfold TT.top
    rw [hup', SameUp.up e2]
  · have ha1 := ((T.is_iff a).1 ha).1
    obtain ⟨f1, f2, f3⟩ := e4 a ha
    refine ⟨fun hn => ?_, ?_, ?_⟩
    · rw [hat a ha1, if_neg, f2 hn]
      rintro rfl
      exact hn (List.contains_iff_mem.1 (h.up_self ha))
    · rw [hat a ha1]
      split
      · show T1.last + 1 = _
        rw [e2.2]
      · exact f1
    · unfold TT.counts
      rw [hup', SameUp.up e2, his, SameUp.is e2, ha]
      congr 1
      rw [Bool.eq_iff_iff, List.all_eq_true, List.all_eq_true]
      have key : ∀ c ∈ T.up a, (((T1.num id).at c).f1 != 3) = ((T.at c).f1 != 3) := fun c hc => by
        have hci := h.mem_is hc
        have := (e4 c hci).2.2 (by decide) (by decide)
        have h5 : ((T1.num id).at c).f1 = (T1.at c).f1 := by
          rw [hat c ((T.is_iff c).1 hci).1]
          split
          · rename_i e; subst e; rfl
          · rfl
        rw [h5]
        by_cases h6 : (T.at c).f1 = 3
        · rw [h6, this.2 h6]
        · have h7 : ¬ (T1.at c).f1 = 3 := fun e => h6 (this.1 e)
          exact (bne_iff_ne.2 h7).trans (bne_iff_ne.2 h6).symm
      constructor
      · intro H c hc
        rw [← key c hc]
        exact H c hc
      · intro H c hc
        rw [key c hc]
        exact H c hc
end
end Go.Proofs.Ytljahhgankcalaa

/-! SightOne, the plain law: who acts; what begin, commit and abort do. -/
namespace Go.Proofs.Ytljahhgankcalaa
open Go.RowKit Go.Maps Go.MapKept Go.WideMaps Go.Shelf
open Go.Proofs.YtljahhgankcalaaW.PrintWords Go.Proofs.YtljahhgankcalaaW.PrintLast Go.Proofs.YtljahhgankcalaaW.PrintMore
set_option linter.unusedVariables false
set_option linter.unusedSimpArgs false

/-- Who acts: its transaction and its savepoints, each with what it made of rows; nothing: it has none. -/
abbrev Tr := List (Int × (Int → Option Int))
def Tr.ids (P : Tr) : List Int := P.map Prod.fst
def Tr.top (P : Tr) : Int := (Tr.ids P).headD 0
def Tr.sub (P : Tr) : Int := (Tr.ids P).getLastD 0
def setW (who : Nat → Tr) (k : Nat) (P : Tr) : Nat → Tr := fun i => if i = k then P else who i
theorem setW_same (who : Nat → Tr) (k : Nat) (P : Tr) : setW who k P k = P := by simp [setW]
theorem setW_other (who : Nat → Tr) {k i : Nat} (P : Tr) (h : i ≠ k) : setW who k P i = who i := by simp [setW, h]
theorem Tr.ids_app (P Q : Tr) : Tr.ids (P ++ Q) = Tr.ids P ++ Tr.ids Q := by simp [Tr.ids]
theorem Tr.mem_split {P : Tr} {a : Int} (h : a ∈ Tr.ids P) : ∃ Q p R, P = Q ++ p :: R ∧ p.1 = a := by
  obtain ⟨p, hp, rfl⟩ := List.mem_map.1 h
  obtain ⟨Q, R, rfl⟩ := List.append_of_mem hp
  exact ⟨Q, p, R, rfl, rfl⟩
theorem Tr.top_cons (p : Int × (Int → Option Int)) (R : Tr) : Tr.top (p :: R) = p.1 := rfl
theorem Tr.top_split (Q : Tr) (p : Int × (Int → Option Int)) (R : Tr) : Tr.top (Q ++ p :: R) = (p.1 :: (Tr.ids Q).reverse).getLastD 0 := by
  cases Q with
  | nil => rfl
  | cons q Q => simp [Tr.top, Tr.ids, List.getLastD_eq_getLast?, List.getLast?_cons]
theorem Tr.top_mem {P : Tr} (h : P ≠ []) : Tr.top P ∈ Tr.ids P := by
  cases P with
  | nil => exact absurd rfl h
  | cons p P => simp [Tr.top, Tr.ids]

structure Tp (T : TT) (who : Nat → Tr) : Prop where
  ok : T.Ok
  up : ∀ k Q p R, who k = Q ++ p :: R → T.is p.1 = true ∧ (T.at p.1).f1 = 1 ∧ (T.at p.1).f2 = 0 ∧ T.up p.1 = p.1 :: (Tr.ids Q).reverse
  cov : ∀ a, T.counts a = true → T.done a = 0 → ∃ k, a ∈ Tr.ids (who k)
  dn : ∀ a, T.is a = true → 0 ≤ (T.at a).f2 ∧ (T.at a).f2 ≤ T.last
  apart : ∀ k k' a, a ∈ Tr.ids (who k) → a ∈ Tr.ids (who k') → k = k'
section
variable {T : TT} {who : Nat → Tr} {k : Nat} {a : Int}
theorem Tp.up_mem (H : Tp T who) (h : a ∈ Tr.ids (who k)) {c : Int} (hc : c ∈ T.up a) : c ∈ Tr.ids (who k) := by
  obtain ⟨Q, p, R, e, rfl⟩ := Tr.mem_split h
  rw [(H.up k Q p R e).2.2.2] at hc
  rw [e, Tr.ids_app]
  rcases List.mem_cons.1 hc with rfl | hc
  · simp [Tr.ids]
  · exact List.mem_append_left _ (List.mem_reverse.1 hc)
theorem Tp.one (H : Tp T who) (h : a ∈ Tr.ids (who k)) : T.is a = true ∧ (T.at a).f1 = 1 ∧ (T.at a).f2 = 0 := by
  obtain ⟨Q, p, R, e, rfl⟩ := Tr.mem_split h
  have := H.up k Q p R e
  exact ⟨this.1, this.2.1, this.2.2.1⟩
theorem Tp.pos (H : Tp T who) (h : a ∈ Tr.ids (who k)) : 1 ≤ a := ((T.is_iff a).1 (H.one h).1).1
theorem Tp.counts (H : Tp T who) (h : a ∈ Tr.ids (who k)) : T.counts a = true := by
  unfold TT.counts
  rw [(H.one h).1, Bool.true_and, List.all_eq_true]
  intro c hc
  rw [(H.one (H.up_mem h hc)).2.1]
  rfl
theorem Tp.top (H : Tp T who) (h : a ∈ Tr.ids (who k)) : T.top a = Tr.top (who k) := by
  obtain ⟨Q, p, R, e, rfl⟩ := Tr.mem_split h
  unfold TT.top
  rw [(H.up k Q p R e).2.2.2, e, Tr.top_split]
theorem ne_of_mem {P : Tr} (h : a ∈ Tr.ids P) : P ≠ [] := by
  rintro rfl
  simp [Tr.ids] at h
theorem Tp.done (H : Tp T who) (h : a ∈ Tr.ids (who k)) : T.done a = 0 := by
  rw [H.ok.done_eq, if_pos (H.counts h), H.top h]
  exact (H.one (Tr.top_mem (ne_of_mem h))).2.2
theorem Tp.not_old (H : Tp T who) (h : a ∈ Tr.ids (who k)) (q : Int) : T.old q a = false := by
  unfold TT.old
  rw [H.done h]
  rfl
theorem Tp.notin (H : Tp T who) {Q R : Tr} {p : Int × (Int → Option Int)} (e : who k = Q ++ p :: R) : p.1 ∉ Tr.ids Q := by
  intro h
  obtain ⟨h1, h2, h3, h4⟩ := H.up k Q p R e
  have h5 := H.ok.up_yes h1
  rw [h4] at h5
  injection h5 with _ h5
  have h6 : p.1 ∈ T.up (T.at p.1).f0 := by rw [← h5]; exact List.mem_reverse.2 h
  have h7 := H.ok.up_le _ _ _ h6
  have h8 := H.ok.par_lt h1
  omega
theorem Tp.top_par (H : Tp T who) {R : Tr} {p : Int × (Int → Option Int)} (e : who k = p :: R) : (T.at p.1).f0 = 0 := by
  obtain ⟨h1, h2, h3, h4⟩ := H.up k [] p R e
  have h5 := H.ok.up_yes h1
  rw [h4] at h5
  injection h5 with _ h5
  have h8 := H.ok.par_lt h1
  have h9 := (T.is_iff p.1).1 h1
  cases e2 : T.is (T.at p.1).f0 with
  | true =>
    rw [H.ok.up_yes e2] at h5
    simp [Tr.ids] at h5
  | false =>
    have := (not_congr (T.is_iff (T.at p.1).f0)).1 (by rw [e2]; simp)
    omega
theorem Tp.own_iff (H : Tp T who) (hk : who k ≠ []) (a : Int) : T.own (Tr.top (who k)) a = true ↔ a ∈ Tr.ids (who k) := by
  have ht := Tr.top_mem hk
  unfold TT.own
  simp only [Bool.and_eq_true, decide_eq_true_eq, beq_iff_eq]
  constructor
  · rintro ⟨⟨_, h1⟩, h2⟩
    have h3 : T.done a = 0 := by
      rw [H.ok.done_eq, if_pos h1, h2]
      exact (H.one ht).2.2
    obtain ⟨k', h4⟩ := H.cov a h1 h3
    have h5 := Tr.top_mem (ne_of_mem h4)
    rw [← H.top h4, h2] at h5
    have := H.apart k k' _ ht h5
    subst this
    exact h4
  · intro h
    have := H.pos ht
    exact ⟨⟨by omega, H.counts h⟩, H.top h⟩
theorem Tp.blocks (H : Tp T who) (hk : who k ≠ []) {k' : Nat} (hne : k' ≠ k) (h : a ∈ Tr.ids (who k')) : T.blocks (Tr.top (who k)) a = true := by
  have h1 := H.pos h
  have h2 : ¬ Tr.top (who k') = Tr.top (who k) := fun e => by
    have h5 := Tr.top_mem (ne_of_mem h)
    rw [e] at h5
    exact hne (H.apart _ _ _ h5 (Tr.top_mem hk))
  have h3 := Tr.top_mem (ne_of_mem h)
  have h4 : T.number (T.top a) = 0 := by
    rw [H.ok.num_top (H.counts h), H.top h]
    exact (H.one h3).2.2
  unfold TT.blocks
  rw [h4, H.counts h, H.top h]
  simp [h2]
  omega
theorem Tp.old_last (H : Tp T who) {q : Int} (hq : T.last ≤ q) (a : Int) : T.old q a = T.old T.last a := by
  unfold TT.old
  rw [H.ok.done_eq]
  split
  · rename_i h
    have := (H.dn _ (H.ok.top_is (TT.counts_is h))).2
    by_cases h0 : 0 < (T.at (T.top a)).f2
    · rw [decide_eq_true h0, decide_eq_true this, decide_eq_true (by omega)]
    · rw [decide_eq_false h0, Bool.false_and, Bool.false_and]
  · rfl

theorem snoc_split {α : Type} {P Q R : List α} {x p : α} (h : P ++ [x] = Q ++ p :: R) : (R = [] ∧ Q = P ∧ p = x) ∨ ∃ R', R = R' ++ [x] ∧ P = Q ++ p :: R' := by
  rcases List.eq_nil_or_concat R with rfl | ⟨R', y, rfl⟩
  · left
    have := List.append_inj' (show P ++ [x] = Q ++ [p] from h) rfl
    exact ⟨rfl, this.1.symm, by have := this.2; simp at this; exact this.symm⟩
  · right
    have h2 : P ++ [x] = (Q ++ p :: R') ++ [y] := by rw [h]; simp
    have := List.append_inj' h2 rfl
    exact ⟨R', by have := this.2; simp at this; rw [this]; simp, this.1⟩

/-- One more begins. -/
theorem Tp.begin (H : Tp T who) {p : Int} (hp : (who k = [] ∧ p = 0) ∨ (who k ≠ [] ∧ p = Tr.sub (who k))) (f : Int → Option Int) :
    (T.begin p).1 = (T.all.length : Int) + 1 ∧ (T.begin p).2.1 = 0 ∧ Tp (T.begin p).2.2 (setW who k (who k ++ [((T.all.length : Int) + 1, f)])) ∧ (T.begin p).2.2.last = T.last ∧
      (∀ a, T.is a = true → SameAt T (T.begin p).2.2 a ∧ (T.begin p).2.2.is a = true) := by
  have hsub : who k ≠ [] → ∃ Q q, who k = Q ++ [q] ∧ q.1 = Tr.sub (who k) := fun h => by
    rcases List.eq_nil_or_concat (who k) with e | ⟨Q, q, e⟩
    · exact absurd e h
    · refine ⟨Q, q, by rw [e]; simp, ?_⟩
      rw [e]
      simp [Tr.sub, Tr.ids, List.getLastD_eq_getLast?]
  have hb : p = 0 ∨ (T.is p = true ∧ (T.at p).f1 = 1) := by
    rcases hp with ⟨_, rfl⟩ | ⟨h, rfl⟩
    · exact .inl rfl
    · obtain ⟨Q, q, e, hq⟩ := hsub h
      have := H.up k Q q [] e
      rw [← hq]
      exact .inr ⟨this.1, this.2.1⟩
  have hok := H.ok.begin p
  rw [TT.begin_at hb] at hok ⊢
  refine ⟨rfl, rfl, ?_, rfl, fun a ha => ⟨H.ok.more_same _ hok ha, (TT.more_is _).2 (.inl ha)⟩⟩
  have hsame : ∀ a, T.is a = true → _ := fun a ha => H.ok.more_same (⟨p, 1, 0⟩ : TOne) hok ha
  have hnew : T.is ((T.all.length : Int) + 1) = false := by
    cases e : T.is ((T.all.length : Int) + 1) with
    | false => rfl
    | true => have := (T.is_iff _).1 e; omega
  have hold : ∀ k Q q R, who k = Q ++ q :: R → TT.is { T with all := T.all ++ [⟨p, 1, 0⟩] } q.1 = true ∧ (TT.at { T with all := T.all ++ [⟨p, 1, 0⟩] } q.1).f1 = 1 ∧ (TT.at { T with all := T.all ++ [⟨p, 1, 0⟩] } q.1).f2 = 0 ∧ TT.up { T with all := T.all ++ [⟨p, 1, 0⟩] } q.1 = q.1 :: (Tr.ids Q).reverse := by
    intro k Q q R e
    obtain ⟨h1, h2, h3, h4⟩ := H.up k Q q R e
    refine ⟨(TT.more_is _).2 (.inl h1), ?_, ?_, ?_⟩
    · rw [TT.more_at _ h1]; exact h2
    · rw [TT.more_at _ h1]; exact h3
    · rw [(hsame _ h1).up]; exact h4
  have hids : ∀ i, ∀ a ∈ Tr.ids (setW who k (who k ++ [((T.all.length : Int) + 1, f)]) i), a ∈ Tr.ids (who i) ∨ (a = (T.all.length : Int) + 1 ∧ i = k) := by
    intro i a ha
    by_cases e : i = k
    · subst e
      rw [setW_same, Tr.ids_app, List.mem_append] at ha
      rcases ha with ha | ha
      · exact .inl ha
      · exact .inr ⟨by simpa [Tr.ids] using ha, rfl⟩
    · rw [setW_other _ _ e] at ha
      exact .inl ha
  refine ⟨hok, ?_, ?_, ?_, ?_⟩
  · intro i Q q R e
    by_cases hi : i = k
    · subst hi
      rw [setW_same] at e
      rcases snoc_split e with ⟨rfl, rfl, rfl⟩ | ⟨R', rfl, e2⟩
      · have h1 : TT.is { T with all := T.all ++ [⟨p, 1, 0⟩] } ((T.all.length : Int) + 1) = true := (TT.more_is _).2 (.inr rfl)
        refine ⟨h1, ?_, ?_, ?_⟩
        · rw [TT.more_new]
        · rw [TT.more_new]
        · rw [hok.up_yes h1, TT.more_new]
          congr 1
          rcases hp with ⟨h, rfl⟩ | ⟨h, rfl⟩
          · rw [h, TT.up_no]
            · rfl
            · simp [TT.is]
          · obtain ⟨Q, q, e, hq⟩ := hsub h
            have h5 := hold i Q q [] e
            have h6 := h5.2.2.2
            rw [hq] at h6
            refine h6.trans ?_
            rw [← hq, e]
            simp [Tr.ids]
      · exact hold i Q q R' e2
    · rw [setW_other _ _ hi] at e
      exact hold i Q q R e
  · intro a ha hd
    rcases (TT.more_is _).1 (TT.counts_is ha) with h | rfl
    · have hs := hsame a h
      obtain ⟨i, hi⟩ := H.cov a (hs.counts ▸ ha) (hs.done ▸ hd)
      refine ⟨i, ?_⟩
      by_cases e : i = k
      · subst e
        rw [setW_same, Tr.ids_app]
        exact List.mem_append_left _ hi
      · rw [setW_other _ _ e]
        exact hi
    · exact ⟨k, by rw [setW_same, Tr.ids_app]; simp [Tr.ids]⟩
  · intro a ha
    rcases (TT.more_is _).1 ha with h | rfl
    · rw [TT.more_at _ h]
      exact H.dn a h
    · rw [TT.more_new]
      exact ⟨Int.le_refl _, H.ok.last0⟩
  · intro i j a hi hj
    rcases hids i a hi with h1 | ⟨h1, h2⟩ <;> rcases hids j a hj with h3 | ⟨h3, h4⟩
    · exact H.apart i j a h1 h3
    · have := (H.one h1).1
      rw [h3, hnew] at this
      cases this
    · have := (H.one h3).1
      rw [h1, hnew] at this
      cases this
    · rw [h2, h4]

/-- One is taken back, and what stands below it. -/
theorem Tp.abort (H : Tp T who) {Q R : Tr} {p : Int × (Int → Option Int)} (e : who k = Q ++ p :: R) :
    (T.abort p.1).1 = 0 ∧ Tp (T.abort p.1).2 (setW who k Q) ∧ (T.abort p.1).2.last = T.last ∧ (∀ a, (T.abort p.1).2.is a = T.is a) ∧ ∀ a, T.is a = true → ∀ q, (T.abort p.1).2.old q a = T.old q a := by
  have hm : p.1 ∈ Tr.ids (who k) := by rw [e, Tr.ids_app]; simp [Tr.ids]
  obtain ⟨hi, h1, h2⟩ := H.one hm
  obtain ⟨e1, e2, e3⟩ := H.ok.abort_at hi h1
  have hok := H.ok.abort p.1
  generalize (T.abort p.1).2 = T1 at e1 e2 e3 hok ⊢
  have hnot : ∀ a, a ∈ Tr.ids Q → p.1 ∉ T.up a := fun a ha hu => by
    obtain ⟨Q1, q, R1, e4, rfl⟩ := Tr.mem_split ha
    have h5 := (H.up k Q1 q (R1 ++ p :: R) (by rw [e, e4]; simp)).2.2.2
    rw [h5] at hu
    refine H.notin e ?_
    rw [e4, Tr.ids_app]
    rcases List.mem_cons.1 hu with h6 | h6
    · rw [h6]; simp [Tr.ids]
    · exact List.mem_append_left _ (List.mem_reverse.1 h6)
  have hnot2 : ∀ i a, i ≠ k → a ∈ Tr.ids (who i) → p.1 ∉ T.up a := fun i a hne ha hu => hne (H.apart _ _ _ (H.up_mem ha hu) hm)
  have hin : ∀ a, a ∈ Tr.ids (p :: R) → p.1 ∈ T.up a := fun a ha => by
    obtain ⟨Q1, q, R1, e4, rfl⟩ := Tr.mem_split ha
    have h5 := (H.up k (Q ++ Q1) q R1 (by rw [e, e4]; simp)).2.2.2
    rw [h5]
    cases Q1 with
    | nil =>
      injection e4 with e4 _
      rw [e4]
      simp
    | cons q1 Q1 =>
      injection e4 with e4 _
      rw [e4]
      simp [Tr.ids]
  have hdone : ∀ a, T.is a = true → T1.done a = T.done a := by
    intro a ha
    rw [hok.done_eq, H.ok.done_eq, SameUp.top e2]
    by_cases hc : T.counts a = true
    · by_cases hu : p.1 ∈ T.up a
      · rw [if_neg (fun h => ((e3 a ha).2.2.1 h).2 hu), if_pos hc, ← H.ok.top_of hu, H.top hm]
        exact (H.one (Tr.top_mem (ne_of_mem hm))).2.2.symm
      · rw [if_pos ((e3 a ha).2.2.2 ⟨hc, hu⟩), if_pos hc, (e3 _ (H.ok.top_is ha)).1]
    · rw [if_neg hc, if_neg (fun h => hc ((e3 a ha).2.2.1 h).1)]
  have hids : ∀ i, ∀ a ∈ Tr.ids (setW who k Q i), a ∈ Tr.ids (who i) ∧ p.1 ∉ T.up a := by
    intro i a ha
    by_cases e5 : i = k
    · subst e5
      rw [setW_same] at ha
      exact ⟨by rw [e, Tr.ids_app]; exact List.mem_append_left _ ha, hnot a ha⟩
    · rw [setW_other _ _ e5] at ha
      exact ⟨ha, hnot2 i a e5 ha⟩
  refine ⟨e1, ⟨hok, ?_, ?_, ?_, ?_⟩, e2.2, SameUp.is e2, fun a ha q => ?_⟩
  · intro i Q1 q R1 e4
    have hq := hids i q.1 (by rw [e4, Tr.ids_app]; simp [Tr.ids])
    have h5 : ∃ R2, who i = Q1 ++ q :: R2 := by
      by_cases e5 : i = k
      · subst e5
        rw [setW_same] at e4
        exact ⟨R1 ++ p :: R, by rw [e, e4]; simp⟩
      · rw [setW_other _ _ e5] at e4
        exact ⟨R1, e4⟩
    obtain ⟨R2, h5⟩ := h5
    obtain ⟨h6, h7, h8, h9⟩ := H.up i Q1 q R2 h5
    rw [(e3 _ h6).2.1 hq.2, SameUp.is e2, SameUp.up e2]
    exact ⟨h6, h7, h8, h9⟩
  · intro a ha hd
    have his := TT.counts_is ha
    rw [SameUp.is e2] at his
    obtain ⟨h5, h6⟩ := (e3 a his).2.2.1 ha
    obtain ⟨i, h7⟩ := H.cov a h5 ((hdone a his).symm.trans hd)
    refine ⟨i, ?_⟩
    by_cases e5 : i = k
    · subst e5
      rw [setW_same]
      rw [e, Tr.ids_app, List.mem_append] at h7
      rcases h7 with h7 | h7
      · exact h7
      · exact absurd (hin a h7) h6
    · rw [setW_other _ _ e5]
      exact h7
  · intro a ha
    rw [SameUp.is e2] at ha
    rw [(e3 a ha).1, e2.2]
    exact H.dn a ha
  · intro i j a h5 h6
    exact H.apart i j a (hids i a h5).1 (hids j a h6).1
  · unfold TT.old
    rw [hdone a ha]

/-- A transaction is committed. -/
theorem Tp.commit (H : Tp T who) {R : Tr} {p : Int × (Int → Option Int)} (e : who k = p :: R) :
    (T.commit p.1).1 = 0 ∧ Tp (T.commit p.1).2 (setW who k []) ∧ (T.commit p.1).2.last = T.last + 1 ∧ (∀ a, (T.commit p.1).2.is a = T.is a) ∧
      (∀ a, T.is a = true → ∀ q, q ≤ T.last → (T.commit p.1).2.old q a = T.old q a) ∧ ∀ a, T.is a = true → (T.commit p.1).2.old (T.last + 1) a = (T.old T.last a || (Tr.ids (who k)).contains a) := by
  have hne : who k ≠ [] := by rw [e]; simp
  have htp : Tr.top (who k) = p.1 := by rw [e]; rfl
  have hm : p.1 ∈ Tr.ids (who k) := by rw [e]; simp [Tr.ids]
  obtain ⟨hi, h1, h2⟩ := H.one hm
  obtain ⟨e1, e2, e3, e4⟩ := H.ok.commit_at hi h1 (H.top_par e)
  have hok := H.ok.commit p.1
  have hl0 := H.ok.last0
  generalize (T.commit p.1).2 = T1 at e1 e2 e3 e4 hok ⊢
  have hmem : ∀ a, a ∈ Tr.ids (who k) ↔ T.counts a = true ∧ T.top a = p.1 := fun a => by
    rw [← H.own_iff hne, htp]
    unfold TT.own
    have := H.pos hm
    simp only [Bool.and_eq_true, decide_eq_true_eq, beq_iff_eq]
    exact ⟨fun h => ⟨h.1.2, h.2⟩, fun h => ⟨⟨by omega, h.1⟩, h.2⟩⟩
  have hdone : ∀ a, T.is a = true → T1.done a = if a ∈ Tr.ids (who k) then T.last + 1 else T.done a := by
    intro a ha
    rw [hok.done_eq, H.ok.done_eq, (e3 a).2.2, (e4 a ha).2.2, (e4 _ (H.ok.top_is ha)).2.1]
    by_cases hc : T.counts a = true
    · rw [if_pos hc]
      by_cases ht : T.top a = p.1
      · rw [if_pos ht, if_pos ((hmem a).2 ⟨hc, ht⟩)]
      · rw [if_neg ht, if_neg (fun h => ht ((hmem a).1 h).2), if_pos hc]
    · rw [if_neg hc, if_neg (fun h => hc ((hmem a).1 h).1), if_neg hc]
  have hnot2 : ∀ i a, i ≠ k → a ∈ Tr.ids (who i) → p.1 ∉ T.up a := fun i a hne ha hu => hne (H.apart _ _ _ (H.up_mem ha hu) hm)
  have hids : ∀ i, ∀ a ∈ Tr.ids (setW who k [] i), i ≠ k ∧ a ∈ Tr.ids (who i) := by
    intro i a ha
    by_cases e5 : i = k
    · subst e5
      rw [setW_same] at ha
      simp [Tr.ids] at ha
    · rw [setW_other _ _ e5] at ha
      exact ⟨e5, ha⟩
  refine ⟨e1, ⟨hok, ?_, ?_, ?_, ?_⟩, e2, fun a => (e3 a).1, fun a ha q hq => ?_, fun a ha => ?_⟩
  · intro i Q1 q R1 e5
    have hq := hids i q.1 (by rw [e5, Tr.ids_app]; simp [Tr.ids])
    rw [setW_other _ _ hq.1] at e5
    obtain ⟨h6, h7, h8, h9⟩ := H.up i Q1 q R1 e5
    rw [(e4 _ h6).1 (hnot2 i _ hq.1 hq.2), (e3 _).1, (e3 _).2.1]
    exact ⟨h6, h7, h8, h9⟩
  · intro a ha hd
    have his := TT.counts_is ha
    rw [(e3 a).1] at his
    rw [(e4 a his).2.2] at ha
    rw [hdone a his] at hd
    split at hd
    · omega
    · rename_i hn
      obtain ⟨i, h7⟩ := H.cov a ha hd
      refine ⟨i, ?_⟩
      rw [setW_other _ _ (fun e5 => hn (by rw [← e5]; exact h7))]
      exact h7
  · intro a ha
    rw [(e3 a).1] at ha
    rw [(e4 a ha).2.1, e2]
    have := H.dn a ha
    split <;> omega
  · intro i j a h5 h6
    exact H.apart i j a (hids i a h5).2 (hids j a h6).2
  · unfold TT.old
    rw [hdone a ha]
    split
    · rename_i h5
      rw [H.done h5, decide_eq_false (by omega : ¬ T.last + 1 ≤ q)]
      simp
    · rfl
  · unfold TT.old
    rw [hdone a ha]
    by_cases h5 : a ∈ Tr.ids (who k)
    · rw [if_pos h5, List.contains_iff_mem.2 h5]
      simp
      omega
    · have h6 : (Tr.ids (who k)).contains a = false := by
        cases h7 : (Tr.ids (who k)).contains a with
        | false => rfl
        | true => exact absurd (List.contains_iff_mem.1 h7) h5
      rw [if_neg h5, h6, Bool.or_false]
      have := H.old_last (q := T.last + 1) (by omega) a
      exact this
end
end Go.Proofs.Ytljahhgankcalaa

/-! SightOne, the plain law: what is seen of a row. -/
namespace Go.Proofs.Ytljahhgankcalaa
open Go.RowKit Go.Maps Go.MapKept Go.WideMaps Go.Shelf
open Go.Proofs.YtljahhgankcalaaW.PrintWords Go.Proofs.YtljahhgankcalaaW.PrintLast Go.Proofs.YtljahhgankcalaaW.PrintMore
set_option linter.unusedVariables false
set_option linter.unusedSimpArgs false

def ownB (Q : Tr) (a : Int) : Bool := (Tr.ids Q).contains a
theorem ownB_iff (Q : Tr) (a : Int) : ownB Q a = true ↔ a ∈ Tr.ids Q := List.contains_iff_mem
theorem ownB_app {Q R : Tr} {a : Int} (h : ownB Q a = true) : ownB (Q ++ R) a = true := by
  rw [ownB_iff, Tr.ids_app]
  exact List.mem_append_left _ ((ownB_iff Q a).1 h)
theorem not_true {b : Bool} (h : ¬ b = true) : b = false := by
  cases b with
  | true => exact absurd rfl h
  | false => rfl
/-- What was made of a row at last. -/
def lw (Q : Tr) (r : Int) : Option Int := Q.foldl (fun o p => match p.2 r with | some n => some n | none => o) none
theorem lw_snoc (Q : Tr) (p : Int × (Int → Option Int)) (r : Int) : lw (Q ++ [p]) r = match p.2 r with | some n => some n | none => lw Q r := by
  unfold lw
  rw [List.foldl_append]
  rfl
def Tch (A : AH) (D : Int → Bool) (r : Int) : Prop := ∃ s ∈ A.rows (1, r + 1), touched D (A.at s) = true
/-- A row is seen by one number; or it is not seen. -/
def Shows (A : AH) (D : Int → Bool) (r n : Int) : Prop :=
  (n = -1 ∧ ∀ s ∈ A.rows (1, r + 1), shown D (A.at s) = false) ∨
  (0 ≤ n ∧ ∃ s ∈ A.rows (1, r + 1), shown D (A.at s) = true ∧ (A.at s).f6 = [valOf n] ∧ ∀ x ∈ A.rows (1, r + 1), shown D (A.at x) = true → x = s)
theorem Tch.app {A : AH} {Q R : Tr} {r : Int} (h : Tch A (ownB Q) r) : Tch A (ownB (Q ++ R)) r := by
  obtain ⟨s, h1, h2⟩ := h
  refine ⟨s, h1, ?_⟩
  unfold touched at h2 ⊢
  simp only [Bool.or_eq_true, Bool.and_eq_true] at h2 ⊢
  rcases h2 with h2 | ⟨h2, h3⟩
  · exact .inl (ownB_app h2)
  · exact .inr ⟨h2, ownB_app h3⟩
section
variable {A A' : AH} {D D' old old' : Int → Bool} {r n : Int} {who who' : Nat → Tr} {com com' : Int → Int} {k : Nat}
theorem touched_congr {t t' : ATup} (h2 : D' t'.f2 = D t.f2) (h4 : t'.f4 = t.f4) (h : t.f4 ≠ 0 → D' t'.f4 = D t.f4) : touched D' t' = touched D t := by
  unfold touched
  rw [h2, h4]
  by_cases e : t.f4 = 0
  · rw [e]; rfl
  · rw [← h4, h e, h4]
theorem shown_congr {t t' : ATup} (h2 : D' t'.f2 = D t.f2) (h4 : t'.f4 = t.f4) (h : t.f4 ≠ 0 → D' t'.f4 = D t.f4) : shown D' t' = shown D t := by
  unfold shown
  rw [h2, h4]
  by_cases e : t.f4 = 0
  · rw [e]; rfl
  · rw [← h4, h e, h4]
theorem touched_iff (t : ATup) : touched D t = true ↔ D t.f2 = true ∨ (t.f4 ≠ 0 ∧ D t.f4 = true) := by
  unfold touched
  simp
theorem shown_iff (t : ATup) : shown D t = true ↔ D t.f2 = true ∧ ¬ (t.f4 ≠ 0 ∧ D t.f4 = true) := by
  unfold shown
  by_cases e : t.f4 = 0
  · simp [e]
  · cases h : D t.f4 <;> simp [e, h]
theorem Tch.iff_of (hV : ∀ s, s ∈ A'.rows (1, r + 1) ↔ s ∈ A.rows (1, r + 1)) (h : ∀ s ∈ A.rows (1, r + 1), touched D' (A'.at s) = touched D (A.at s)) : Tch A' D' r ↔ Tch A D r := by
  constructor
  · rintro ⟨s, h1, h2⟩
    have h3 := (hV s).1 h1
    exact ⟨s, h3, by rw [← h s h3]; exact h2⟩
  · rintro ⟨s, h1, h2⟩
    exact ⟨s, (hV s).2 h1, by rw [h s h1]; exact h2⟩
/-- What is seen stays: the old versions as they were, the new ones not seen. -/
theorem Shows.keep (H : Shows A D r n) (hV : ∀ s ∈ A.rows (1, r + 1), s ∈ A'.rows (1, r + 1) ∧ shown D' (A'.at s) = shown D (A.at s) ∧ (A'.at s).f6 = (A.at s).f6) (hN : ∀ s ∈ A'.rows (1, r + 1), s ∈ A.rows (1, r + 1) ∨ shown D' (A'.at s) = false) : Shows A' D' r n := by
  rcases H with ⟨h1, h2⟩ | ⟨h1, s, h2, h3, h4, h5⟩
  · refine .inl ⟨h1, fun s hs => ?_⟩
    rcases hN s hs with h | h
    · rw [(hV s h).2.1]; exact h2 s h
    · exact h
  · refine .inr ⟨h1, s, (hV s h2).1, by rw [(hV s h2).2.1]; exact h3, by rw [(hV s h2).2.2]; exact h4, fun x hx e => ?_⟩
    rcases hN x hx with h | h
    · exact h5 x h (by rw [← (hV x h).2.1]; exact e)
    · rw [h] at e; cases e

structure Hr (A : AH) (old : Int → Bool) (who : Nat → Tr) (com : Int → Int) (r : Int) : Prop where
  mm : ∀ s ∈ A.rows (1, r + 1), ∀ k Q R, who k = Q ++ R → ownB Q (A.at s).f4 = true → ownB Q (A.at s).f2 = true ∨ old (A.at s).f2 = true
  lock : ∀ k k', Tch A (ownB (who k)) r → Tch A (ownB (who k')) r → k = k'
  wn : ∀ k Q R, who k = Q ++ R → lw Q r = none → ¬ Tch A (ownB Q) r
  ws : ∀ k Q R, who k = Q ++ R → ∀ n, lw Q r = some n → Tch A (ownB Q) r ∧ Shows A (ownB Q) r n
  oo : ∀ k Q R, who k = Q ++ R → Tch A (ownB Q) r → ∀ s ∈ A.rows (1, r + 1), old (A.at s).f2 = true → (A.at s).f4 ≠ 0 ∧ (ownB Q (A.at s).f4 = true ∨ old (A.at s).f4 = true)
  mo : ∀ s ∈ A.rows (1, r + 1), (A.at s).f4 ≠ 0 → old (A.at s).f4 = true → old (A.at s).f2 = true
  u : Shows A old r (com r)

theorem Hr.move (H : Hr A old who com r) (hV : ∀ s, s ∈ A'.rows (1, r + 1) ↔ s ∈ A.rows (1, r + 1)) (hat : ∀ s ∈ A.rows (1, r + 1), A'.at s = A.at s)
    (ho : ∀ s ∈ A.rows (1, r + 1), old' (A.at s).f2 = old (A.at s).f2 ∧ ((A.at s).f4 ≠ 0 → old' (A.at s).f4 = old (A.at s).f4))
    (hq : ∀ k Q' R', who' k = Q' ++ R' → ∃ Q R, who k = Q ++ R ∧ lw Q' r = lw Q r ∧ ∀ s ∈ A.rows (1, r + 1), ownB Q' (A.at s).f2 = ownB Q (A.at s).f2 ∧ ownB Q' (A.at s).f4 = ownB Q (A.at s).f4) (hc : com' r = com r) : Hr A' old' who' com' r := by
  have ht : ∀ Q' Q, (∀ s ∈ A.rows (1, r + 1), ownB Q' (A.at s).f2 = ownB Q (A.at s).f2 ∧ ownB Q' (A.at s).f4 = ownB Q (A.at s).f4) → (Tch A' (ownB Q') r ↔ Tch A (ownB Q) r) := fun Q' Q h => Tch.iff_of hV (fun s hs => by
    rw [hat s hs]
    exact touched_congr (h s hs).1 rfl (fun _ => (h s hs).2))
  have hs : ∀ Q' Q, (∀ s ∈ A.rows (1, r + 1), ownB Q' (A.at s).f2 = ownB Q (A.at s).f2 ∧ ownB Q' (A.at s).f4 = ownB Q (A.at s).f4) → ∀ n, Shows A (ownB Q) r n → Shows A' (ownB Q') r n := fun Q' Q h n hn => hn.keep (fun s hs => ⟨(hV s).2 hs, by
    rw [hat s hs]
    exact ⟨shown_congr (h s hs).1 rfl (fun _ => (h s hs).2), rfl⟩⟩) (fun s hs => .inl ((hV s).1 hs))
  refine ⟨?_, ?_, ?_, ?_, ?_, ?_, ?_⟩
  · intro s hs' k Q' R' e h
    have h1 := (hV s).1 hs'
    obtain ⟨Q, R, e2, _, h3⟩ := hq k Q' R' e
    rw [hat s h1] at h ⊢
    rw [(h3 s h1).1, (ho s h1).1]
    rw [(h3 s h1).2] at h
    exact H.mm s h1 k Q R e2 h
  · intro i j h1 h2
    obtain ⟨Q1, R1, e1, _, h3⟩ := hq i (who' i) [] (by simp)
    obtain ⟨Q2, R2, e2, _, h4⟩ := hq j (who' j) [] (by simp)
    refine H.lock i j ?_ ?_
    · rw [e1]; exact ((ht _ _ h3).1 h1).app
    · rw [e2]; exact ((ht _ _ h4).1 h2).app
  · intro k Q' R' e h
    obtain ⟨Q, R, e2, h2, h3⟩ := hq k Q' R' e
    rw [h2] at h
    rw [ht _ _ h3]
    exact H.wn k Q R e2 h
  · intro k Q' R' e n h
    obtain ⟨Q, R, e2, h2, h3⟩ := hq k Q' R' e
    rw [h2] at h
    have := H.ws k Q R e2 n h
    exact ⟨(ht _ _ h3).2 this.1, hs _ _ h3 n this.2⟩
  · intro k Q' R' e h s hs'
    have h1 := (hV s).1 hs'
    obtain ⟨Q, R, e2, h2, h3⟩ := hq k Q' R' e
    rw [hat s h1, (ho s h1).1, (h3 s h1).2]
    intro h4
    have := H.oo k Q R e2 ((ht _ _ h3).1 h) s h1 h4
    rw [(ho s h1).2 this.1]
    exact this
  · intro s hs' h2 h3
    have h1 := (hV s).1 hs'
    rw [hat s h1] at h2 h3 ⊢
    rw [(ho s h1).2 h2] at h3
    rw [(ho s h1).1]
    exact H.mo s h1 h2 h3
  · rw [hc]
    exact H.u.keep (fun s hs => ⟨(hV s).2 hs, by
      rw [hat s hs]
      exact ⟨shown_congr (ho s hs).1 rfl (fun h => (ho s hs).2 h), rfl⟩⟩) (fun s hs => .inl ((hV s).1 hs))

theorem lw_nil (r : Int) : lw [] r = none := rfl
theorem Tch_nil : ¬ Tch A (ownB []) r := by
  rintro ⟨s, _, h⟩
  rw [touched_iff] at h
  rcases h with h | h
  · simp [ownB, Tr.ids] at h
  · simp [ownB, Tr.ids] at h

/-- A transaction is committed. -/
theorem Hr.commit (H : Hr A old who com r) (k : Nat) (ho : ∀ s ∈ A.rows (1, r + 1), old' (A.at s).f2 = (old (A.at s).f2 || ownB (who k) (A.at s).f2) ∧ ((A.at s).f4 ≠ 0 → old' (A.at s).f4 = (old (A.at s).f4 || ownB (who k) (A.at s).f4)))
    (hd : ∀ a, ownB (who k) a = true → old a = false) (h0 : ∀ i, ownB (who i) 0 = false) (hc : com' r = (lw (who k) r).getD (com r)) : Hr A old' (setW who k []) com' r := by
  have hpre : ∀ i Q R, setW who k [] i = Q ++ R → (Q = [] ∧ i = k) ∨ (i ≠ k ∧ who i = Q ++ R) := by
    intro i Q R e
    by_cases e5 : i = k
    · subst e5
      rw [setW_same] at e
      exact .inl ⟨(List.append_eq_nil_iff.1 e.symm).1, rfl⟩
    · rw [setW_other _ _ e5] at e
      exact .inr ⟨e5, e⟩
  cases hl : lw (who k) r with
  | none =>
    have hn := H.wn k (who k) [] (by simp) hl
    rw [hl] at hc
    refine H.move (fun _ => Iff.rfl) (fun _ _ => rfl) (fun s hs => ?_) (fun i Q' R' e => ?_) hc
    · have h1 : ¬ touched (ownB (who k)) (A.at s) = true := fun h => hn ⟨s, hs, h⟩
      rw [touched_iff] at h1
      refine ⟨?_, fun h4 => ?_⟩
      · rw [(ho s hs).1, not_true (fun h => h1 (.inl h)), Bool.or_false]
      · rw [(ho s hs).2 h4, not_true (fun h => h1 (.inr ⟨h4, h⟩)), Bool.or_false]
    · rcases hpre i Q' R' e with ⟨rfl, rfl⟩ | ⟨h1, h2⟩
      · exact ⟨[], who i, rfl, rfl, fun _ _ => ⟨rfl, rfl⟩⟩
      · exact ⟨Q', R', h2, rfl, fun _ _ => ⟨rfl, rfl⟩⟩
  | some n =>
    rw [hl] at hc
    obtain ⟨hT, hS⟩ := H.ws k (who k) [] (by simp) n hl
    have hfree : ∀ i, i ≠ k → ¬ Tch A (ownB (who i)) r := fun i hne h => hne (H.lock i k h hT)
    have hnone : ∀ i Q R, setW who k [] i = Q ++ R → ¬ Tch A (ownB Q) r := by
      intro i Q R e h
      rcases hpre i Q R e with ⟨rfl, _⟩ | ⟨h1, h2⟩
      · exact Tch_nil h
      · refine hfree i h1 ?_
        rw [h2]
        exact h.app
    refine ⟨?_, ?_, ?_, ?_, ?_, ?_, ?_⟩
    · intro s hs i Q R e h
      by_cases h4 : (A.at s).f4 = 0
      · rcases hpre i Q R e with ⟨rfl, _⟩ | ⟨h1, h2⟩
        · simp [ownB, Tr.ids] at h
        · have := ownB_app (R := R) h
          rw [← h2, h4, h0] at this
          cases this
      · exact absurd ⟨s, hs, (touched_iff _).2 (.inr ⟨h4, h⟩)⟩ (hnone i Q R e)
    · intro i j h
      exact absurd h (hnone i _ [] (by simp))
    · intro i Q R e _
      exact hnone i Q R e
    · intro i Q R e m hm
      exfalso
      rcases hpre i Q R e with ⟨rfl, _⟩ | ⟨h1, h2⟩
      · cases hm
      · exact hnone i Q R e (H.ws i Q R h2 m hm).1
    · intro i Q R e h
      exact absurd h (hnone i Q R e)
    · intro s hs h4 h5
      rw [(ho s hs).2 h4, Bool.or_eq_true] at h5
      rw [(ho s hs).1, Bool.or_eq_true]
      rcases h5 with h5 | h5
      · exact .inl (H.mo s hs h4 h5)
      · rcases H.mm s hs k (who k) [] (by simp) h5 with h6 | h6
        · exact .inr h6
        · exact .inl h6
    · rw [hc]
      refine hS.keep (fun s hs => ⟨hs, ?_, rfl⟩) (fun s hs => .inl hs)
      rw [Bool.eq_iff_iff, shown_iff, shown_iff, (ho s hs).1, Bool.or_eq_true]
      constructor
      · rintro ⟨h1, h2⟩
        by_cases h3 : ownB (who k) (A.at s).f2 = true
        · refine ⟨h3, fun h4 => h2 ⟨h4.1, ?_⟩⟩
          rw [(ho s hs).2 h4.1, h4.2, Bool.or_true]
        · have h5 : old (A.at s).f2 = true := by
            rcases h1 with h1 | h1
            · exact h1
            · exact absurd h1 h3
          obtain ⟨h6, h7⟩ := H.oo k (who k) [] (by simp) hT s hs h5
          refine absurd ⟨h6, ?_⟩ h2
          rw [(ho s hs).2 h6, Bool.or_eq_true]
          exact h7.symm
      · rintro ⟨h1, h2⟩
        refine ⟨.inr h1, fun h4 => ?_⟩
        have h5 := h4.2
        rw [(ho s hs).2 h4.1, Bool.or_eq_true] at h5
        rcases h5 with h5 | h5
        · have h6 := H.mo s hs h4.1 h5
          rw [hd _ h1] at h6
          cases h6
        · exact h2 ⟨h4.1, h5⟩

/-! ### a row is written -/
structure Wrote (A A' : AH) (r sub n : Int) (o : Option Int) : Prop where
  other : ∀ q, q ≠ r → (∀ s, s ∈ A'.rows (1, q + 1) ↔ s ∈ A.rows (1, q + 1)) ∧ ∀ s ∈ A.rows (1, q + 1), A'.at s = A.at s
  rows : (n < 0 ∧ ∀ s, s ∈ A'.rows (1, r + 1) ↔ s ∈ A.rows (1, r + 1)) ∨
    (0 ≤ n ∧ ∃ x, x ∉ A.rows (1, r + 1) ∧ A'.at x = ⟨1, r + 1, sub, 0, 0, 0, [valOf n]⟩ ∧ ∀ s, s ∈ A'.rows (1, r + 1) ↔ s = x ∨ s ∈ A.rows (1, r + 1))
  at_ : ∀ s ∈ A.rows (1, r + 1), A'.at s = if o = some s then { A.at s with f4 := sub, f5 := 0 } else A.at s
theorem Wrote.mem {sub : Int} {o : Option Int} (W : Wrote A A' r sub n o) {s : Int} (hs : s ∈ A.rows (1, r + 1)) : s ∈ A'.rows (1, r + 1) := by
  rcases W.rows with ⟨_, h⟩ | ⟨_, x, _, _, h⟩
  · exact (h s).2 hs
  · exact (h s).2 (.inr hs)
theorem Wrote.new {sub : Int} {o : Option Int} (W : Wrote A A' r sub n o) {s : Int} (hs : s ∈ A'.rows (1, r + 1)) : s ∈ A.rows (1, r + 1) ∨ A'.at s = ⟨1, r + 1, sub, 0, 0, 0, [valOf n]⟩ := by
  rcases W.rows with ⟨_, h⟩ | ⟨_, x, _, h1, h⟩
  · exact .inl ((h s).1 hs)
  · rcases (h s).1 hs with rfl | h2
    · exact .inr h1
    · exact .inl h2
theorem Wrote.f2 {sub : Int} {o : Option Int} (W : Wrote A A' r sub n o) {s : Int} (hs : s ∈ A.rows (1, r + 1)) : (A'.at s).f2 = (A.at s).f2 ∧ (A'.at s).f6 = (A.at s).f6 := by
  rw [W.at_ s hs]
  split
  · exact ⟨rfl, rfl⟩
  · exact ⟨rfl, rfl⟩

/-- Who is to write: what it sees of the row, and that none else may. -/
structure Asks (A : AH) (old : Int → Bool) (who : Nat → Tr) (r : Int) (k : Nat) (P0 : Tr) (sub : Int) (f : Int → Option Int) (P : Int → Bool) (o : Option Int) : Prop where
  eq : who k = P0 ++ [(sub, f)]
  dis : ∀ i a, ownB (who i) a = true → old a = false
  s0 : sub ≠ 0
  so : ∀ i, i ≠ k → ownB (who i) sub = false
  sp : ownB P0 sub = false
  w0 : ∀ i, ownB (who i) 0 = false
  free : ∀ i, i ≠ k → ¬ Tch A (ownB (who i)) r
  pc : (Tch A (ownB (who k)) r ∧ P = ownB (who k)) ∨ (¬ Tch A (ownB (who k)) r ∧ P = old)
  om : ∀ x, o = some x ↔ x ∈ A.rows (1, r + 1) ∧ shown P (A.at x) = true
section
variable {P0 : Tr} {sub : Int} {f : Int → Option Int} {P : Int → Bool} {o : Option Int}
theorem Asks.sold (K : Asks A old who r k P0 sub f P o) : old sub = false := K.dis k sub (by rw [K.eq, ownB_iff, Tr.ids_app]; simp [Tr.ids])
theorem Asks.sown (K : Asks A old who r k P0 sub f P o) : ownB (who k) sub = true := by rw [K.eq, ownB_iff, Tr.ids_app]; simp [Tr.ids]
/-- A look that does not know the writer's savepoint sees what it saw. -/
theorem Asks.shown (K : Asks A old who r k P0 sub f P o) (W : Wrote A A' r sub n o) (hs : D sub = false) (hD : ∀ a b, D a = true → P a = true → D b = true → P b = true) {s : Int} (hm : s ∈ A.rows (1, r + 1)) : shown D (A'.at s) = shown D (A.at s) := by
  rw [W.at_ s hm]
  split
  · rename_i e
    have h := ((K.om s).1 e).2
    rw [shown_iff] at h
    rw [Bool.eq_iff_iff, shown_iff, shown_iff]
    constructor
    · rintro ⟨h1, _⟩
      exact ⟨h1, fun h2 => h.2 ⟨h2.1, hD _ _ h1 h.1 h2.2⟩⟩
    · rintro ⟨h1, _⟩
      refine ⟨h1, fun h2 => ?_⟩
      have : D sub = true := h2.2
      rw [hs] at this
      cases this
  · rfl
theorem Asks.touched (K : Asks A old who r k P0 sub f P o) (W : Wrote A A' r sub n o) (hs : D sub = false) (hD : ∀ a b, P a = true → b ≠ 0 → D b = true → (P b = true ∨ D a = true)) {s : Int} (hm : s ∈ A.rows (1, r + 1)) : touched D (A'.at s) = touched D (A.at s) := by
  rw [W.at_ s hm]
  split
  · rename_i e
    have h := ((K.om s).1 e).2
    rw [shown_iff] at h
    rw [Bool.eq_iff_iff, touched_iff, touched_iff]
    constructor
    · rintro (h1 | ⟨_, h2⟩)
      · exact .inl h1
      · have : D sub = true := h2
        rw [hs] at this
        cases this
    · rintro (h1 | ⟨h1, h2⟩)
      · exact .inl h1
      · rcases hD _ _ h.1 h1 h2 with h3 | h3
        · exact absurd ⟨h1, h3⟩ h.2
        · exact .inl h3
  · rfl
theorem new_touched {t : ATup} (h : t = ⟨1, r + 1, sub, 0, 0, 0, [valOf n]⟩) (D : Int → Bool) : Go.Proofs.Ytljahhgankcalaa.touched D t = D sub ∧ Go.Proofs.Ytljahhgankcalaa.shown D t = D sub := by
  subst h
  unfold Go.Proofs.Ytljahhgankcalaa.touched Go.Proofs.Ytljahhgankcalaa.shown
  simp
theorem Asks.snap (K : Asks A old who r k P0 sub f P o) (W : Wrote A A' r sub n o) (hD : ∀ a, D a = true → old a = true) {m : Int} (H : Shows A D r m) : Shows A' D r m := by
  have hs : D sub = false := not_true (fun h => by have := hD _ h; rw [K.sold] at this; cases this)
  refine H.keep (fun s hm => ⟨W.mem hm, K.shown W hs ?_ hm, (W.f2 hm).2⟩) (fun s hm => ?_)
  · intro a b h1 h2 h3
    rcases K.pc with ⟨_, rfl⟩ | ⟨_, rfl⟩
    · have h4 := K.dis k a h2
      rw [hD _ h1] at h4
      cases h4
    · exact hD _ h3
  · rcases W.new hm with h | h
    · exact .inl h
    · exact .inr ((new_touched h D).2.trans hs)
/-- .. another one's, or an earlier savepoint's. -/
theorem Asks.tch (K : Asks A old who r k P0 sub f P o) (W : Wrote A A' r sub n o) {i : Nat} {Q R : Tr} (e : who i = Q ++ R) (hs : ownB Q sub = false) : (Tch A' (ownB Q) r ↔ Tch A (ownB Q) r) ∧ ∀ m, Shows A (ownB Q) r m → Shows A' (ownB Q) r m := by
  have hsub : ∀ a, ownB Q a = true → ownB (who i) a = true := fun a h => by rw [e]; exact ownB_app h
  have hno : ¬ Tch A (ownB Q) r ∨ P = ownB (who k) ∧ i = k := by
    by_cases h : i = k
    · subst h
      rcases K.pc with ⟨_, h2⟩ | ⟨h1, _⟩
      · exact .inr ⟨h2, rfl⟩
      · exact .inl (fun h2 => h1 (by rw [e]; exact h2.app))
    · exact .inl (fun h2 => K.free i h (by rw [e]; exact h2.app))
  have ht : ∀ s ∈ A.rows (1, r + 1), Go.Proofs.Ytljahhgankcalaa.touched (ownB Q) (A'.at s) = Go.Proofs.Ytljahhgankcalaa.touched (ownB Q) (A.at s) := by
    intro s hm
    rcases hno with h | ⟨h, rfl⟩
    · rw [not_true (b := Go.Proofs.Ytljahhgankcalaa.touched (ownB Q) (A.at s)) (fun h2 => h ⟨s, hm, h2⟩)]
      have h3 : ¬ Go.Proofs.Ytljahhgankcalaa.touched (ownB Q) (A.at s) = true := fun h2 => h ⟨s, hm, h2⟩
      rw [touched_iff] at h3
      refine not_true (fun h4 => ?_)
      rw [touched_iff, W.at_ s hm] at h4
      split at h4
      · rcases h4 with h4 | ⟨_, h4⟩
        · exact h3 (.inl h4)
        · have : ownB Q sub = true := h4
          rw [hs] at this
          cases this
      · exact h3 h4
    · exact K.touched W hs (fun a b h1 h2 h3 => .inl (by rw [h]; exact hsub b h3)) hm
  have hsw : ∀ s ∈ A.rows (1, r + 1), Go.Proofs.Ytljahhgankcalaa.shown (ownB Q) (A'.at s) = Go.Proofs.Ytljahhgankcalaa.shown (ownB Q) (A.at s) := by
    intro s hm
    rcases hno with h | ⟨h, rfl⟩
    · have h3 : ¬ Go.Proofs.Ytljahhgankcalaa.touched (ownB Q) (A.at s) = true := fun h2 => h ⟨s, hm, h2⟩
      rw [touched_iff] at h3
      rw [not_true (b := Go.Proofs.Ytljahhgankcalaa.shown (ownB Q) (A.at s)) (fun h2 => h3 (.inl ((shown_iff _).1 h2).1))]
      refine not_true (fun h2 => h3 (.inl ?_))
      have := ((shown_iff _).1 h2).1
      rwa [(W.f2 hm).1] at this
    · exact K.shown W hs (fun a b h1 h2 h3 => by rw [h]; exact hsub b h3) hm
  refine ⟨⟨?_, ?_⟩, fun m hm => hm.keep (fun s hm => ⟨W.mem hm, hsw s hm, (W.f2 hm).2⟩) (fun s hm => ?_)⟩
  · rintro ⟨s, h1, h2⟩
    rcases W.new h1 with h | h
    · exact ⟨s, h, by rw [← ht s h]; exact h2⟩
    · rw [(new_touched h _).1, hs] at h2
      cases h2
  · rintro ⟨s, h1, h2⟩
    exact ⟨s, W.mem h1, by rw [ht s h1]; exact h2⟩
  · rcases W.new hm with h | h
    · exact .inl h
    · exact .inr ((new_touched h _).2.trans hs)

theorem Hr.write (H : Hr A old who com r) (K : Asks A old who r k P0 sub f P o) (W : Wrote A A' r sub n o) (hn : n = -1 ∨ 0 ≤ n) (hno : o = none → 0 ≤ n) :
    Hr A' old (setW who k (P0 ++ [(sub, upd f r (some n))])) com r := by
  have hown : ∀ g a, ownB (P0 ++ [(sub, g)]) a = ownB (who k) a := fun g a => by
    rw [K.eq]
    unfold ownB
    rw [Tr.ids_app, Tr.ids_app]
    rfl
  have hownf : ∀ g, ownB (P0 ++ [(sub, g)]) = ownB (who k) := fun g => funext (hown g)
  have hpre : ∀ i Q R, setW who k (P0 ++ [(sub, upd f r (some n))]) i = Q ++ R → (i = k ∧ Q = P0 ++ [(sub, upd f r (some n))]) ∨ (ownB Q sub = false ∧ ∃ R', who i = Q ++ R' ∧ (i ≠ k ∨ ∃ R'', P0 = Q ++ R'')) := by
    intro i Q R e
    by_cases e5 : i = k
    · subst e5
      rw [setW_same] at e
      rcases List.eq_nil_or_concat R with rfl | ⟨R', y, rfl⟩
      · exact .inl ⟨rfl, by rw [e]; simp⟩
      · right
        have h2 : P0 ++ [(sub, upd f r (some n))] = (Q ++ R') ++ [y] := by rw [e]; simp
        have h3 := (List.append_inj' h2 rfl).1
        refine ⟨not_true (fun h => ?_), R' ++ [(sub, f)], by rw [K.eq, h3]; simp, .inr ⟨R', h3⟩⟩
        have := ownB_app (R := R') h
        rw [← h3, K.sp] at this
        cases this
    · rw [setW_other _ _ e5] at e
      refine .inr ⟨not_true (fun h => ?_), R, e, .inl e5⟩
      have := ownB_app (R := R) h
      rw [← e, K.so i e5] at this
      cases this
  have hmk : ∀ s ∈ A.rows (1, r + 1), o = some s → P (A.at s).f2 = true ∧ (A'.at s).f4 = sub := fun s hs e => ⟨((shown_iff _).1 ((K.om s).1 e).2).1, by rw [W.at_ s hs, if_pos e]⟩
  have hkeep : ∀ s ∈ A.rows (1, r + 1), o ≠ some s → A'.at s = A.at s := fun s hs e => by rw [W.at_ s hs, if_neg e]
  -- what the writer's own look comes to
  have hunseen : ∀ s ∈ A.rows (1, r + 1), Go.Proofs.Ytljahhgankcalaa.shown (ownB (who k)) (A'.at s) = false := by
    intro s hs
    by_cases e : o = some s
    · refine not_true (fun h => ((shown_iff _).1 h).2 ⟨?_, ?_⟩)
      · rw [(hmk s hs e).2]; exact K.s0
      · rw [(hmk s hs e).2]; exact K.sown
    · rw [hkeep s hs e]
      refine not_true (fun h => ?_)
      rcases K.pc with ⟨_, rfl⟩ | ⟨h1, _⟩
      · exact e ((K.om s).2 ⟨hs, h⟩)
      · exact h1 ⟨s, hs, (touched_iff _).2 (.inl ((shown_iff _).1 h).1)⟩
  have hTch : Tch A' (ownB (who k)) r := by
    rcases W.rows with ⟨h1, h2⟩ | ⟨h1, x, h2, h3, h4⟩
    · cases ho : o with
      | none => have := hno ho; omega
      | some x =>
        have hx := ((K.om x).1 ho).1
        exact ⟨x, (h2 x).2 hx, (touched_iff _).2 (.inr (by rw [(hmk x hx ho).2]; exact ⟨K.s0, K.sown⟩))⟩
    · exact ⟨x, (h4 x).2 (.inl rfl), (new_touched h3 _).1.trans K.sown⟩
  have hShows : Shows A' (ownB (who k)) r n := by
    rcases W.rows with ⟨h1, h2⟩ | ⟨h1, x, h2, h3, h4⟩
    · refine .inl ⟨by omega, fun s hs => hunseen s ((h2 s).1 hs)⟩
    · refine .inr ⟨h1, x, (h4 x).2 (.inl rfl), (new_touched h3 _).2.trans K.sown, by rw [h3], fun s hs e => ?_⟩
      rcases (h4 s).1 hs with h5 | h5
      · exact h5
      · rw [hunseen s h5] at e
        cases e
  have hfree : ∀ i, i ≠ k → ¬ Tch A' (ownB (who i)) r := fun i hi h => K.free i hi (((K.tch W (i := i) (Q := who i) (R := []) (by simp) (K.so i hi)).1).1 h)
  have hoB : ∀ i, ownB (setW who k (P0 ++ [(sub, upd f r (some n))]) i) = ownB (who i) := fun i => by
    by_cases e5 : i = k
    · subst e5
      rw [setW_same]
      exact hownf _
    · rw [setW_other _ _ e5]
  refine ⟨?_, ?_, ?_, ?_, ?_, ?_, ?_⟩
  · intro s hs i Q R e h
    rcases W.new hs with hm | hm
    · rw [(W.f2 hm).1]
      by_cases ho : o = some s
      · have h1 := hmk s hm ho
        rw [h1.2] at h
        rcases hpre i Q R e with ⟨rfl, rfl⟩ | ⟨h2, _⟩
        · rw [hown]
          rcases K.pc with ⟨_, rfl⟩ | ⟨_, rfl⟩
          · exact .inl h1.1
          · exact .inr h1.1
        · rw [h2] at h
          cases h
      · rw [hkeep s hm ho] at h
        rcases hpre i Q R e with ⟨rfl, rfl⟩ | ⟨h2, R', e2, _⟩
        · rw [hown] at h ⊢
          exact H.mm s hm i (who i) [] (by simp) h
        · exact H.mm s hm i Q R' e2 h
    · rw [hm] at h
      have h2 : ownB (setW who k (P0 ++ [(sub, upd f r (some n))]) i) 0 = true := by rw [e]; exact ownB_app h
      rw [hoB, K.w0] at h2
      cases h2
  · intro i j h1 h2
    rw [hoB] at h1 h2
    by_cases hi : i = k
    · by_cases hj : j = k
      · rw [hi, hj]
      · exact absurd h2 (hfree j hj)
    · exact absurd h1 (hfree i hi)
  · intro i Q R e h
    rcases hpre i Q R e with ⟨rfl, rfl⟩ | ⟨h2, R', e2, _⟩
    · rw [lw_snoc] at h
      simp only [upd_same] at h
      cases h
    · rw [(K.tch W e2 h2).1]
      exact H.wn i Q R' e2 h
  · intro i Q R e m h
    rcases hpre i Q R e with ⟨rfl, rfl⟩ | ⟨h2, R', e2, _⟩
    · rw [lw_snoc] at h
      simp only [upd_same] at h
      injection h with h
      subst h
      rw [hownf]
      exact ⟨hTch, hShows⟩
    · obtain ⟨h3, h4⟩ := H.ws i Q R' e2 m h
      exact ⟨(K.tch W e2 h2).1.2 h3, (K.tch W e2 h2).2 m h4⟩
  · intro i Q R e h s hs ho2
    rcases W.new hs with hm | hm
    · rw [(W.f2 hm).1] at ho2
      by_cases ho : o = some s
      · have h1 := hmk s hm ho
        rw [h1.2]
        refine ⟨K.s0, .inl ?_⟩
        rcases hpre i Q R e with ⟨rfl, rfl⟩ | ⟨h2, R', e2, h3⟩
        · rw [hown]; exact K.sown
        · exfalso
          have h4 : Tch A (ownB (who i)) r := by
            rw [e2]
            exact ((K.tch W e2 h2).1.1 h).app
          by_cases hi : i = k
          · subst hi
            rcases K.pc with ⟨_, rfl⟩ | ⟨h5, _⟩
            · have := K.dis i _ h1.1
              rw [ho2] at this
              cases this
            · exact h5 h4
          · exact K.free i hi h4
      · rw [hkeep s hm ho]
        rcases hpre i Q R e with ⟨rfl, rfl⟩ | ⟨h2, R', e2, h3⟩
        · rw [hown]
          rcases K.pc with ⟨h5, rfl⟩ | ⟨h5, rfl⟩
          · exact H.oo i (who i) [] (by simp) h5 s hm ho2
          · have h6 : ¬ Go.Proofs.Ytljahhgankcalaa.shown P (A.at s) = true := fun h6 => ho ((K.om s).2 ⟨hm, h6⟩)
            rw [shown_iff] at h6
            have h7 : (A.at s).f4 ≠ 0 ∧ P (A.at s).f4 = true := Classical.not_not.1 (fun h7 => h6 ⟨ho2, h7⟩)
            exact ⟨h7.1, .inr h7.2⟩
        · exact H.oo i Q R' e2 ((K.tch W e2 h2).1.1 h) s hm ho2
    · rw [hm] at ho2
      have : old sub = true := ho2
      rw [K.sold] at this
      cases this
  · intro s hs h4 h5
    rcases W.new hs with hm | hm
    · by_cases ho : o = some s
      · rw [(hmk s hm ho).2, K.sold] at h5
        cases h5
      · rw [hkeep s hm ho] at h4 h5 ⊢
        exact H.mo s hm h4 h5
    · rw [hm] at h4
      exact absurd rfl h4
  · exact K.snap W (fun a h => h) H.u
end
end
end Go.Proofs.Ytljahhgankcalaa

/-! SightOne, the plain law: each act, and what who looks is told. -/
namespace Go.Proofs.Ytljahhgankcalaa
open Go.RowKit Go.Maps Go.MapKept Go.WideMaps Go.Shelf
open Go.Proofs.YtljahhgankcalaaW.PrintWords Go.Proofs.YtljahhgankcalaaW.PrintLast Go.Proofs.YtljahhgankcalaaW.PrintMore
set_option linter.unusedVariables false
set_option linter.unusedSimpArgs false

section
variable {A : AH}
theorem AH.put_rows (hA : A.Ok) {t : ATup} (hb : ¬ badTup t) (p : Int × Int) (s : Int) : s ∈ (A.put t).rows p ↔ (s = (A.least : Int) ∧ (t.f0, t.f1) = p) ∨ s ∈ A.rows p := by
  have ht : 0 < t.f0 := by unfold badTup at hb; omega
  rw [(hA.put t hb).rows, hA.rows, A.put_there t ht]
  have hl := A.least_not
  constructor
  · rintro ⟨h1 | h1, h2⟩
    · subst h1
      rw [A.put_at, if_pos rfl] at h2
      exact .inl ⟨rfl, h2⟩
    · obtain ⟨i, rfl, _, _⟩ := A.there_cases s h1
      rw [A.put_at, if_neg (fun e => by rw [e, hl] at h1; cases h1)] at h2
      exact .inr ⟨h1, h2⟩
  · rintro (⟨rfl, h2⟩ | ⟨h1, h2⟩)
    · refine ⟨.inl rfl, ?_⟩
      rw [A.put_at, if_pos rfl]
      exact h2
    · obtain ⟨i, rfl, _, _⟩ := A.there_cases s h1
      refine ⟨.inr h1, ?_⟩
      rw [A.put_at, if_neg (fun e => by rw [e, hl] at h1; cases h1)]
      exact h2
theorem AH.put_old (hA : A.Ok) (t : ATup) {p : Int × Int} {s : Int} (hs : s ∈ A.rows p) : (A.put t).at s = A.at s ∧ s ≠ (A.least : Int) := by
  have h1 := hA.there_of hs
  have hl := A.least_not
  obtain ⟨i, rfl, _, _⟩ := A.there_cases s h1
  refine ⟨?_, fun e => by rw [e, hl] at h1; cases h1⟩
  rw [A.put_at, if_neg (fun e => by rw [e, hl] at h1; cases h1)]
theorem AH.put_new (t : ATup) : (A.put t).at (A.least : Int) = t := by rw [A.put_at, if_pos rfl]
theorem AH.kill_yes {s : Int} (h : A.there s = true) (x c : Int) : (A.kill s x c).1 = 0 ∧ (∀ p, (A.kill s x c).2.rows p = A.rows p) := by
  unfold AH.kill
  rw [if_pos h]
  exact ⟨rfl, fun _ => rfl⟩
theorem AH.kill_old (hA : A.Ok) {s : Int} (h : A.there s = true) (x c : Int) {p : Int × Int} {q : Int} (hq : q ∈ A.rows p) : (A.kill s x c).2.at q = if q = s then { A.at s with f4 := x, f5 := c } else A.at q := by
  have h1 := hA.there_of hq
  obtain ⟨i, rfl, _, _⟩ := A.there_cases q h1
  obtain ⟨j, rfl, hj, _⟩ := A.there_cases s h
  unfold AH.kill
  rw [if_pos h]
  show (A.slots.set (j : Int).toNat { A.at (j : Int) with f4 := x, f5 := c }).getD (i : Int).toNat zTup = _
  rw [Int.toNat_natCast, Int.toNat_natCast, A.set_getD j _ hj i]
  by_cases e : i = j
  · rw [if_pos e, if_pos (by omega)]
  · rw [if_neg e, if_neg (by omega)]
    rfl
end

section
variable {A : AH} {T : TT} {who : Nat → Tr} {com kept : Int → Int} {k : Nat} {r n sub q : Int}
theorem goodTup (h0 : 0 ≤ r) (h4 : r < 4) : ¬ badTup ⟨1, r + 1, sub, 0, 0, 0, [valOf n]⟩ := by
  unfold badTup
  simp only
  omega
theorem pair_ne {q r : Int} (h : q ≠ r) : ((1 : Int), r + 1) ≠ (1, q + 1) := fun e => by
  injection e with _ e
  omega
theorem wrote_put (hA : A.Ok) (h0 : 0 ≤ r) (h4 : r < 4) (hn : 0 ≤ n) : Wrote A (A.put ⟨1, r + 1, sub, 0, 0, 0, [valOf n]⟩) r sub n none where
  other := fun q hq => ⟨fun s => by
    rw [AH.put_rows hA (goodTup h0 h4)]
    constructor
    · rintro (⟨_, h⟩ | h)
      · exact absurd h (pair_ne hq)
      · exact h
    · exact .inr, fun s hs => (AH.put_old hA _ hs).1⟩
  rows := .inr ⟨hn, (A.least : Int), fun h => (AH.put_old hA zTup h).2 rfl, AH.put_new _, fun s => by
    rw [AH.put_rows hA (goodTup h0 h4)]
    simp⟩
  at_ := fun s hs => by
    rw [if_neg (by simp)]
    exact (AH.put_old hA _ hs).1
theorem wrote_kill (hA : A.Ok) {s : Int} (hs : s ∈ A.rows (1, r + 1)) (hn : n < 0) : Wrote A (A.kill s sub 0).2 r sub n (some s) where
  other := fun q hq => ⟨fun x => by rw [(AH.kill_yes (hA.there_of hs) sub 0).2], fun x hx => by
    rw [AH.kill_old hA (hA.there_of hs) _ _ hx, if_neg]
    rintro rfl
    have h1 := ((hA.rows _ _).1 hx).2
    have h2 := ((hA.rows _ _).1 hs).2
    exact pair_ne hq (h2.symm.trans h1)⟩
  rows := .inl ⟨hn, fun x => by rw [(AH.kill_yes (hA.there_of hs) sub 0).2]⟩
  at_ := fun x hx => by
    rw [AH.kill_old hA (hA.there_of hs) _ _ hx]
    by_cases e : x = s
    · subst e; rw [if_pos rfl, if_pos rfl]
    · rw [if_neg e, if_neg (fun h => e (Option.some.inj h).symm)]
theorem wrote_both (hA : A.Ok) {s : Int} (hs : s ∈ A.rows (1, r + 1)) (h0 : 0 ≤ r) (h4 : r < 4) (hn : 0 ≤ n) : Wrote A ((A.kill s sub 0).2.put ⟨1, r + 1, sub, 0, 0, 0, [valOf n]⟩) r sub n (some s) := by
  have hK := wrote_kill (sub := sub) hA hs (show (-1 : Int) < 0 by decide)
  have hO := hA.kill s sub 0
  have hP := wrote_put (sub := sub) hO h0 h4 hn
  have hrows : ∀ p, (A.kill s sub 0).2.rows p = A.rows p := (AH.kill_yes (hA.there_of hs) sub 0).2
  refine ⟨fun q hq => ⟨fun x => ((hP.other q hq).1 x).trans ((hK.other q hq).1 x), fun x hx => ?_⟩, ?_, fun x hx => ?_⟩
  · rw [(hP.other q hq).2 x (by rw [hrows]; exact hx)]
    exact (hK.other q hq).2 x hx
  · rcases hP.rows with ⟨h, _⟩ | ⟨_, x, h1, h2, h3⟩
    · omega
    · rw [hrows] at h1 h3
      exact .inr ⟨hn, x, h1, h2, h3⟩
  · rw [hP.at_ x (by rw [hrows]; exact hx), if_neg (by simp)]
    exact hK.at_ x hx

/-- What a row's writing comes to. -/
theorem writes_wrote (hA : A.Ok) (h0 : 0 ≤ r) (h4 : r < 4) (top : Int) (hm : ∀ s, A.seen T T.last top 1 (r + 1) = some s → s ∈ A.rows (1, r + 1)) :
    A.writes T top sub (r + 1) n = (false, A) ∨ (A.blocked T top (r + 1) = false ∧ (A.seen T T.last top 1 (r + 1) = none → 0 ≤ n) ∧ ∃ A', A.writes T top sub (r + 1) n = (true, A') ∧ A'.Ok ∧ Wrote A A' r sub n (A.seen T T.last top 1 (r + 1))) := by
  unfold AH.writes
  cases hb : A.blocked T top (r + 1) with
  | true => exact .inl (by simp)
  | false =>
    rw [if_neg (by simp)]
    have hgood := goodTup (sub := sub) (n := n) h0 h4
    cases hs : A.seen T T.last top 1 (r + 1) with
    | none =>
      dsimp only
      by_cases hn : n < 0
      · rw [if_pos hn]; exact .inl rfl
      · rw [if_neg hn]
        refine .inr ⟨rfl, fun _ => by omega, _, ?_, hA.put _ hgood, wrote_put hA h0 h4 (by omega)⟩
        unfold AH.putE
        rw [if_neg hgood]
        simp
    | some s =>
      have hs' := hm s hs
      have hO := hA.kill s sub 0
      dsimp only
      rw [if_pos (AH.kill_yes (hA.there_of hs') sub 0).1]
      by_cases hn : n < 0
      · rw [if_pos hn]
        exact .inr ⟨rfl, fun h => absurd h (by simp), _, rfl, hO, wrote_kill hA hs' hn⟩
      · rw [if_neg hn]
        refine .inr ⟨rfl, fun h => absurd h (by simp), _, ?_, hO.put _ hgood, wrote_both hA hs' h0 h4 (by omega)⟩
        unfold AH.putE
        rw [if_neg hgood]
        simp

theorem seenBy_none {D : Int → Bool} (h : A.seenBy D 1 (r + 1) = none) : ∀ s ∈ A.rows (1, r + 1), shown D (A.at s) = false := by
  intro s hs
  unfold AH.seenBy at h
  rw [List.find?_eq_none] at h
  exact not_true (h s (List.mem_reverse.2 hs))
theorem seenBy_some {D : Int → Bool} {s : Int} (h : A.seenBy D 1 (r + 1) = some s) : s ∈ A.rows (1, r + 1) ∧ shown D (A.at s) = true := by
  unfold AH.seenBy at h
  have h1 := List.mem_of_find?_eq_some h
  have h2 := List.find?_some h
  exact ⟨List.mem_reverse.1 h1, h2⟩
theorem seenBy_iff {D : Int → Bool} (H : Shows A D r n) (x : Int) : A.seenBy D 1 (r + 1) = some x ↔ x ∈ A.rows (1, r + 1) ∧ shown D (A.at x) = true := by
  constructor
  · exact seenBy_some
  · rintro ⟨h1, h2⟩
    cases hs : A.seenBy D 1 (r + 1) with
    | none => rw [seenBy_none hs x h1] at h2; cases h2
    | some s =>
      obtain ⟨h3, h4⟩ := seenBy_some hs
      rcases H with ⟨_, h⟩ | ⟨_, y, _, _, _, h⟩
      · rw [h x h1] at h2; cases h2
      · rw [h x h1 h2, h s h3 h4]
theorem seenBy_congr {D D' : Int → Bool} (h : ∀ s ∈ A.rows (1, r + 1), shown D' (A.at s) = shown D (A.at s)) : A.seenBy D' 1 (r + 1) = A.seenBy D 1 (r + 1) := by
  unfold AH.seenBy
  have : ∀ l : List Int, (∀ s ∈ l, shown D' (A.at s) = shown D (A.at s)) → l.find? (fun s => shown D' (A.at s)) = l.find? (fun s => shown D (A.at s)) := by
    intro l
    induction l with
    | nil => intro _; rfl
    | cons a l ih =>
      intro hl
      rw [List.find?_cons, List.find?_cons, hl a (by simp), ih (fun s hs => hl s (by simp [hs]))]
  exact this _ (fun s hs => h s (List.mem_reverse.1 hs))
theorem says_of (hA : A.Ok) {D : Int → Bool} {at' me : Int} (hs : A.seen T at' me 1 (r + 1) = A.seenBy D 1 (r + 1)) (H : Shows A D r n) : A.says T at' me (r + 1) = n := by
  unfold AH.says
  rw [hs]
  cases h : A.seenBy D 1 (r + 1) with
  | none =>
    rcases H with ⟨h1, _⟩ | ⟨_, s, h2, h3, _⟩
    · exact h1.symm
    · rw [seenBy_none h s h2] at h3; cases h3
  | some s =>
    obtain ⟨h3, h4⟩ := seenBy_some h
    rcases H with ⟨_, h1⟩ | ⟨_, y, _, _, h6, h7⟩
    · rw [h1 s h3] at h4; cases h4
    · have := h7 s h3 h4
      subst this
      dsimp only
      rw [h6, if_pos ⟨hA.there_of h3, rfl⟩]
      rfl

structure One (A : AH) (T : TT) (who : Nat → Tr) (com : Int → Int) : Prop where
  hA : A.Ok
  tp : Tp T who
  is : ∀ r, 0 ≤ r → r < 4 → ∀ s ∈ A.rows (1, r + 1), T.is (A.at s).f2 = true ∧ ((A.at s).f4 = 0 ∨ T.is (A.at s).f4 = true)
  hr : ∀ r, 0 ≤ r → r < 4 → Hr A (T.old T.last) who com r
/-- What a snapshot sees. -/
def Snap (A : AH) (T : TT) (q : Int) (kept : Int → Int) : Prop := q ≤ T.last ∧ ∀ r, 0 ≤ r → r < 4 → Shows A (T.old q) r (kept r)

theorem own0 (H : Tp T who) (i : Nat) : ownB (who i) 0 = false := not_true (fun h => by
  have := H.pos ((ownB_iff _ _).1 h)
  omega)
theorem One.snap (H : One A T who com) : Snap A T T.last com := ⟨Int.le_refl _, fun r h0 h4 => (H.hr r h0 h4).u⟩
theorem Snap.move {T' : TT} (S : Snap A T q kept) (H : One A T who com) (hl : T.last ≤ T'.last) (ho : ∀ a, T.is a = true → T'.old q a = T.old q a) : Snap A T' q kept :=
  ⟨by have := S.1; omega, fun r h0 h4 => (S.2 r h0 h4).keep (fun s hs => ⟨hs, by
    have h1 := H.is r h0 h4 s hs
    refine shown_congr (ho _ h1.1) rfl (fun h => ?_)
    rcases h1.2 with h2 | h2
    · exact absurd h2 h
    · exact ho _ h2, rfl⟩) (fun s hs => .inl hs)⟩

/-- One begins. -/
theorem One.begin (H : One A T who com) {p : Int} (hp : (who k = [] ∧ p = 0) ∨ (who k ≠ [] ∧ p = Tr.sub (who k))) :
    (T.begin p).2.1 = 0 ∧ One A (T.begin p).2.2 (setW who k (who k ++ [((T.begin p).1, fun _ => none)])) com ∧ ∀ q kept, Snap A T q kept → Snap A (T.begin p).2.2 q kept := by
  obtain ⟨e1, e2, e3, e4, e5⟩ := H.tp.begin hp (fun _ => none)
  have hno : T.is ((T.all.length : Int) + 1) = false := not_true (fun e => by have := (T.is_iff _).1 e; omega)
  rw [← e1] at e3 hno
  refine ⟨e2, ⟨H.hA, e3, fun r h0 h4 s hs => ?_, fun r h0 h4 => ?_⟩, fun q kept S => S.move H (by omega) (fun a ha => (e5 a ha).1.old q)⟩
  · obtain ⟨h1, h2⟩ := H.is r h0 h4 s hs
    refine ⟨(e5 _ h1).2, ?_⟩
    rcases h2 with h2 | h2
    · exact .inl h2
    · exact .inr (e5 _ h2).2
  · rw [e4]
    have hne : ∀ s ∈ A.rows (1, r + 1), (A.at s).f2 ≠ (T.begin p).1 ∧ (A.at s).f4 ≠ (T.begin p).1 := fun s hs => by
      obtain ⟨h1, h2⟩ := H.is r h0 h4 s hs
      refine ⟨fun e => ?_, fun e => ?_⟩
      · rw [e, hno] at h1; cases h1
      · rcases h2 with h2 | h2
        · rw [e] at h2
          omega
        · rw [e, hno] at h2; cases h2
    have hown : ∀ a, a ≠ (T.begin p).1 → ownB (who k ++ [((T.begin p).1, fun _ => none)]) a = ownB (who k) a := fun a ha => by
      rw [Bool.eq_iff_iff, ownB_iff, ownB_iff, Tr.ids_app]
      simp [Tr.ids, ha]
    refine (H.hr r h0 h4).move (fun _ => Iff.rfl) (fun _ _ => rfl) (fun s hs => ?_) (fun i Q' R' e => ?_) rfl
    · obtain ⟨h1, h2⟩ := H.is r h0 h4 s hs
      refine ⟨(e5 _ h1).1.old _, fun h => ?_⟩
      rcases h2 with h2 | h2
      · exact absurd h2 h
      · exact (e5 _ h2).1.old _
    · by_cases hi : i = k
      · subst hi
        rw [setW_same] at e
        rcases List.eq_nil_or_concat R' with rfl | ⟨R2, y, rfl⟩
        · refine ⟨who i, [], by simp, ?_, fun s hs => ?_⟩
          · rw [List.append_nil] at e
            rw [← e, lw_snoc]
          · rw [List.append_nil] at e
            rw [← e]
            exact ⟨hown _ (hne s hs).1, hown _ (hne s hs).2⟩
        · have h2 : who i ++ [((T.begin p).1, fun _ => none)] = (Q' ++ R2) ++ [y] := by rw [e]; simp
          exact ⟨Q', R2, (List.append_inj' h2 rfl).1, rfl, fun _ _ => ⟨rfl, rfl⟩⟩
      · rw [setW_other _ _ hi] at e
        exact ⟨Q', R', e, rfl, fun _ _ => ⟨rfl, rfl⟩⟩
/-- One is taken back. -/
theorem One.abort (H : One A T who com) {Q R : Tr} {p : Int × (Int → Option Int)} (e : who k = Q ++ p :: R) :
    (T.abort p.1).1 = 0 ∧ One A (T.abort p.1).2 (setW who k Q) com ∧ ∀ q kept, Snap A T q kept → Snap A (T.abort p.1).2 q kept := by
  obtain ⟨e1, e2, e3, e4, e5⟩ := H.tp.abort e
  refine ⟨e1, ⟨H.hA, e2, fun r h0 h4 s hs => ?_, fun r h0 h4 => ?_⟩, fun q kept S => S.move H (by omega) (fun a ha => e5 a ha q)⟩
  · rw [e4, e4]
    exact H.is r h0 h4 s hs
  · rw [e3]
    refine (H.hr r h0 h4).move (fun _ => Iff.rfl) (fun _ _ => rfl) (fun s hs => ?_) (fun i Q' R' e6 => ?_) rfl
    · obtain ⟨h1, h2⟩ := H.is r h0 h4 s hs
      refine ⟨e5 _ h1 _, fun h => ?_⟩
      rcases h2 with h2 | h2
      · exact absurd h2 h
      · exact e5 _ h2 _
    · by_cases hi : i = k
      · subst hi
        rw [setW_same] at e6
        exact ⟨Q', R' ++ p :: R, by rw [e, e6]; simp, rfl, fun _ _ => ⟨rfl, rfl⟩⟩
      · rw [setW_other _ _ hi] at e6
        exact ⟨Q', R', e6, rfl, fun _ _ => ⟨rfl, rfl⟩⟩
/-- One is committed. -/
theorem One.commit (H : One A T who com) {R : Tr} {p : Int × (Int → Option Int)} (e : who k = p :: R) :
    (T.commit p.1).1 = 0 ∧ One A (T.commit p.1).2 (setW who k []) (fun r => (lw (who k) r).getD (com r)) ∧ ∀ q kept, Snap A T q kept → Snap A (T.commit p.1).2 q kept := by
  obtain ⟨e1, e2, e3, e4, e5, e6⟩ := H.tp.commit e
  refine ⟨e1, ⟨H.hA, e2, fun r h0 h4 s hs => ?_, fun r h0 h4 => ?_⟩, fun q kept S => S.move H (by omega) (fun a ha => e5 a ha q S.1)⟩
  · rw [e4, e4]
    exact H.is r h0 h4 s hs
  · rw [e3]
    refine (H.hr r h0 h4).commit k (fun s hs => ?_) (fun a ha => H.tp.not_old ((ownB_iff _ _).1 ha) _) (own0 H.tp) rfl
    obtain ⟨h1, h2⟩ := H.is r h0 h4 s hs
    refine ⟨e6 _ h1, fun h => ?_⟩
    rcases h2 with h2 | h2
    · exact absurd h2 h
    · exact e6 _ h2

theorem own_eq (H : Tp T who) (hk : who k ≠ []) : T.own (Tr.top (who k)) = ownB (who k) := funext fun a => by
  rw [Bool.eq_iff_iff, H.own_iff hk, ownB_iff]
theorem ownRow_iff (H : Tp T who) (hk : who k ≠ []) : A.ownRow T (Tr.top (who k)) 1 (r + 1) = true ↔ Tch A (ownB (who k)) r := by
  unfold AH.ownRow Tch
  rw [List.any_eq_true, own_eq H hk]
theorem seen_none : A.seen T q 0 1 (r + 1) = A.seenBy (T.old q) 1 (r + 1) := by
  unfold AH.seen
  rw [A.own_none, if_neg (by simp), show T.sees q 0 = T.old q from funext fun a => T.sees_none q a]
theorem seen_own (H : Tp T who) (hk : who k ≠ []) : (Tch A (ownB (who k)) r ∧ A.seen T T.last (Tr.top (who k)) 1 (r + 1) = A.seenBy (ownB (who k)) 1 (r + 1)) ∨ (¬ Tch A (ownB (who k)) r ∧ A.seen T T.last (Tr.top (who k)) 1 (r + 1) = A.seenBy (T.old T.last) 1 (r + 1)) := by
  unfold AH.seen
  by_cases h : A.ownRow T (Tr.top (who k)) 1 (r + 1) = true
  · rw [if_pos h, own_eq H hk]
    exact .inl ⟨(ownRow_iff H hk).1 h, rfl⟩
  · rw [if_neg h]
    have hT := fun h2 => h ((ownRow_iff H hk).2 h2)
    refine .inr ⟨hT, seenBy_congr (fun s hs => ?_)⟩
    have h3 : ¬ touched (ownB (who k)) (A.at s) = true := fun h2 => hT ⟨s, hs, h2⟩
    rw [touched_iff] at h3
    refine shown_congr ?_ rfl (fun h4 => ?_)
    · unfold TT.sees
      rw [own_eq H hk, not_true (fun h5 => h3 (.inl h5)), Bool.false_or]
    · unfold TT.sees
      rw [own_eq H hk, not_true (fun h5 => h3 (.inr ⟨h4, h5⟩)), Bool.false_or]

theorem Snap.says (S : Snap A T q kept) (hA : A.Ok) (h0 : 0 ≤ r) (h4 : r < 4) : A.says T q 0 (r + 1) = kept r := says_of hA seen_none (S.2 r h0 h4)
theorem One.says (H : One A T who com) (h0 : 0 ≤ r) (h4 : r < 4) : A.says T T.last 0 (r + 1) = com r := H.snap.says H.hA h0 h4
theorem One.saysOwn (H : One A T who com) (hk : who k ≠ []) (h0 : 0 ≤ r) (h4 : r < 4) : A.says T T.last (Tr.top (who k)) (r + 1) = (lw (who k) r).getD (com r) := by
  have hh := H.hr r h0 h4
  rcases seen_own (r := r) (A := A) H.tp hk with ⟨h1, h2⟩ | ⟨h1, h2⟩
  · cases hl : lw (who k) r with
    | none => exact absurd h1 (hh.wn k (who k) [] (by simp) hl)
    | some n => exact says_of H.hA h2 (hh.ws k (who k) [] (by simp) n hl).2
  · cases hl : lw (who k) r with
    | none => exact says_of H.hA h2 hh.u
    | some n => exact absurd (hh.ws k (who k) [] (by simp) n hl).1 h1

/-- A row is written. -/
theorem One.write (H : One A T who com) {P0 : Tr} {f : Int → Option Int} (e : who k = P0 ++ [(sub, f)]) (h0 : 0 ≤ r) (h4 : r < 4) (hn : n = -1 ∨ 0 ≤ n) :
    A.writes T (Tr.top (who k)) sub (r + 1) n = (false, A) ∨ ∃ A', A.writes T (Tr.top (who k)) sub (r + 1) n = (true, A') ∧ One A' T (setW who k (P0 ++ [(sub, upd f r (some n))])) com ∧ ∀ q kept, Snap A T q kept → Snap A' T q kept := by
  have hk : who k ≠ [] := by rw [e]; simp
  have hh := H.hr r h0 h4
  have hseen := seen_own (r := r) (A := A) H.tp hk
  have hm : ∀ s, A.seen T T.last (Tr.top (who k)) 1 (r + 1) = some s → s ∈ A.rows (1, r + 1) := fun s hs => by
    rcases hseen with ⟨_, h⟩ | ⟨_, h⟩ <;> rw [h] at hs <;> exact (seenBy_some hs).1
  rcases writes_wrote (sub := sub) (n := n) (T := T) H.hA h0 h4 (Tr.top (who k)) hm with h | ⟨hb, hno, A', hw, hO, W⟩
  · exact .inl h
  · have hsm : sub ∈ Tr.ids (who k) := by rw [e, Tr.ids_app]; simp [Tr.ids]
    have hspos := H.tp.pos hsm
    have hids : ∀ g, Tr.ids (P0 ++ [(sub, g)]) = Tr.ids (who k) := fun g => by rw [e, Tr.ids_app, Tr.ids_app]; rfl
    have htop : ∀ g, Tr.top (P0 ++ [(sub, g)]) = Tr.top (who k) := fun g => by unfold Tr.top; rw [hids]
    have hidw : ∀ i g, Tr.ids (setW who k (P0 ++ [(sub, g)]) i) = Tr.ids (who i) := fun i g => by
      by_cases hi : i = k
      · subst hi; rw [setW_same]; exact hids g
      · rw [setW_other _ _ hi]
    have hfree : ∀ i, i ≠ k → ¬ Tch A (ownB (who i)) r := by
      rintro i hi ⟨s, h1, h2⟩
      unfold AH.blocked at hb
      rw [List.any_eq_false] at hb
      have h3 := hb s h1
      simp only [Bool.or_eq_true, not_or] at h3
      rw [touched_iff] at h2
      rcases h2 with h2 | ⟨_, h2⟩
      · exact h3.1 (H.tp.blocks hk hi ((ownB_iff _ _).1 h2))
      · exact h3.2 (H.tp.blocks hk hi ((ownB_iff _ _).1 h2))
    have hK : ∃ P, Asks A (T.old T.last) who r k P0 sub f P (A.seen T T.last (Tr.top (who k)) 1 (r + 1)) := by
      have mk : ∀ P, ((Tch A (ownB (who k)) r ∧ P = ownB (who k)) ∨ (¬ Tch A (ownB (who k)) r ∧ P = T.old T.last)) → (∀ x, A.seen T T.last (Tr.top (who k)) 1 (r + 1) = some x ↔ x ∈ A.rows (1, r + 1) ∧ shown P (A.at x) = true) →
          Asks A (T.old T.last) who r k P0 sub f P (A.seen T T.last (Tr.top (who k)) 1 (r + 1)) := fun P h1 h2 =>
        ⟨e, fun i a ha => H.tp.not_old ((ownB_iff _ _).1 ha) _, by omega, fun i hi => not_true (fun h => hi (H.tp.apart _ _ _ ((ownB_iff _ _).1 h) hsm)),
          not_true (fun h => H.tp.notin (R := []) e ((ownB_iff _ _).1 h)), own0 H.tp, hfree, h1, h2⟩
      rcases hseen with ⟨h1, h2⟩ | ⟨h1, h2⟩
      · refine ⟨_, mk _ (.inl ⟨h1, rfl⟩) (fun x => ?_)⟩
        rw [h2]
        cases hl : lw (who k) r with
        | none => exact absurd h1 (hh.wn k (who k) [] (by simp) hl)
        | some m => exact seenBy_iff (hh.ws k (who k) [] (by simp) m hl).2 x
      · refine ⟨_, mk _ (.inr ⟨h1, rfl⟩) (fun x => ?_)⟩
        rw [h2]
        exact seenBy_iff hh.u x
    obtain ⟨P, K⟩ := hK
    have hA' : ∀ r', 0 ≤ r' → r' < 4 → r' ≠ r → Hr A' (T.old T.last) (setW who k (P0 ++ [(sub, upd f r (some n))])) com r' := by
      intro r' h0' h4' hne
      obtain ⟨hV, hat⟩ := W.other r' hne
      refine (H.hr r' h0' h4').move hV hat (fun s hs => ⟨rfl, fun _ => rfl⟩) (fun i Q' R' e6 => ?_) rfl
      by_cases hi : i = k
      · subst hi
        rw [setW_same] at e6
        rcases List.eq_nil_or_concat R' with rfl | ⟨R2, y, rfl⟩
        · rw [List.append_nil] at e6
          refine ⟨who i, [], by simp, ?_, fun s hs => ?_⟩
          · rw [← e6, e, lw_snoc, lw_snoc]
            dsimp only
            rw [upd_other _ _ hne]
          · rw [← e6]
            unfold ownB
            rw [hids]
            exact ⟨rfl, rfl⟩
        · have h2 : P0 ++ [(sub, upd f r (some n))] = (Q' ++ R2) ++ [y] := by rw [e6]; simp
          have h3 := (List.append_inj' h2 rfl).1
          exact ⟨Q', R2 ++ [(sub, f)], by rw [e, h3]; simp, rfl, fun _ _ => ⟨rfl, rfl⟩⟩
      · rw [setW_other _ _ hi] at e6
        exact ⟨Q', R', e6, rfl, fun _ _ => ⟨rfl, rfl⟩⟩
    refine .inr ⟨A', hw, ⟨hO, ⟨H.tp.ok, ?_, ?_, H.tp.dn, ?_⟩, ?_, ?_⟩, ?_⟩
    · intro i Q p R e6
      by_cases hi : i = k
      · subst hi
        rw [setW_same] at e6
        rcases snoc_split e6 with ⟨rfl, rfl, rfl⟩ | ⟨R', rfl, e2⟩
        · exact H.tp.up i Q (sub, f) [] e
        · exact H.tp.up i Q p (R' ++ [(sub, f)]) (by rw [e, e2]; simp)
      · rw [setW_other _ _ hi] at e6
        exact H.tp.up i Q p R e6
    · intro a h1 h2
      obtain ⟨i, h3⟩ := H.tp.cov a h1 h2
      exact ⟨i, by rw [hidw]; exact h3⟩
    · intro i j a h1 h2
      rw [hidw] at h1 h2
      exact H.tp.apart i j a h1 h2
    · intro r' h0' h4' s hs
      by_cases hr : r' = r
      · subst hr
        rcases W.new hs with h1 | h1
        · have := H.is r' h0' h4' s h1
          rw [W.at_ s h1]
          split
          · exact ⟨this.1, .inr (H.tp.one hsm).1⟩
          · exact this
        · rw [h1]
          exact ⟨(H.tp.one hsm).1, .inl rfl⟩
      · have h1 := ((W.other r' hr).1 s).1 hs
        rw [(W.other r' hr).2 s h1]
        exact H.is r' h0' h4' s h1
    · intro r' h0' h4'
      by_cases hr : r' = r
      · subst hr
        exact hh.write K W hn hno
      · exact hA' r' h0' h4' hr
    · rintro q kept ⟨h1, h2⟩
      refine ⟨h1, fun r' h0' h4' => ?_⟩
      by_cases hr : r' = r
      · subst hr
        exact K.snap W (fun a ha => TT.old_more ha h1) (h2 r' h0' h4')
      · obtain ⟨hV, hat⟩ := W.other r' hr
        exact (h2 r' h0' h4').keep (fun s hs => ⟨(hV s).2 hs, by rw [hat s hs], by rw [hat s hs]⟩) (fun s hs => .inl ((hV s).1 hs))
end
theorem One.start : One AH.empty TT.empty (fun _ => []) (fun _ => -1) := by
  have hno : ∀ p s, ¬ s ∈ AH.empty.rows p := fun p s h => by simp [AH.empty] at h
  refine ⟨AH.empty_ok, ⟨⟨fun i hi => by simp [TT.empty] at hi, by simp [TT.empty]⟩, ?_, ?_, ?_, ?_⟩, ?_, ?_⟩
  · intro k Q p R e
    simp at e
  · intro a h
    have := (TT.is_iff _ _).1 (TT.counts_is h)
    simp [TT.empty] at this
    omega
  · intro a h
    have := (TT.is_iff _ _).1 h
    simp [TT.empty] at this
    omega
  · intro k k' a h
    simp [Tr.ids] at h
  · intro r _ _ s hs
    exact absurd hs (hno _ _)
  · intro r _ _
    refine ⟨fun s hs => absurd hs (hno _ _), ?_, ?_, ?_, ?_, fun s hs => absurd hs (hno _ _), .inl ⟨rfl, fun s hs => absurd hs (hno _ _)⟩⟩
    · rintro k k' ⟨s, hs, _⟩
      exact absurd hs (hno _ _)
    · rintro k Q R e _ ⟨s, hs, _⟩
      exact absurd hs (hno _ _)
    · intro k Q R e n h
      have : Q = [] := (List.append_eq_nil_iff.1 e.symm).1
      rw [this] at h
      cases h
    · intro k Q R e h s hs
      exact absurd hs (hno _ _)
theorem lw_fold (r z : Int) (P : Tr) : P.foldl (fun n p => (p.2 r).getD n) z = (lw P r).getD z := by
  unfold lw
  have : ∀ (P : Tr) (o : Option Int), P.foldl (fun n p => (p.2 r).getD n) (o.getD z) = (P.foldl (fun o p => match p.2 r with | some n => some n | none => o) o).getD z := by
    intro P
    induction P with
    | nil => intro o; rfl
    | cons p P ih =>
      intro o
      rw [List.foldl_cons, List.foldl_cons, ← ih]
      cases p.2 r <;> rfl
  exact this P none
end Go.Proofs.Ytljahhgankcalaa

/-! SightOne: what is in memory: who acts, what was committed, what a snapshot saw. -/
namespace Go.Proofs.Ytljahhgankcalaa
open Go.RowKit Go.Maps Go.MapKept Go.WideMaps Go.Shelf
open Go.Proofs.YtljahhgankcalaaW.PrintWords Go.Proofs.YtljahhgankcalaaW.PrintLast Go.Proofs.YtljahhgankcalaaW.PrintMore
set_option linter.unusedVariables false
set_option linter.unusedSimpArgs false

/-! ### an act -/
structure SAct where
  f0 : Int
  f1 : Int
  f2 : Int
  f3 : Int
def zAct : SAct := ⟨0, 0, 0, 0⟩
def kAct : Kd SAct := Kd.iso (Kd.pair (Kd.int .u8) (Kd.pair (Kd.int .u8) (Kd.pair (Kd.int .u8) (Kd.int .i8)))) (fun x : SAct => (x.f0, x.f1, x.f2, x.f3))
theorem kAct_open {w : World} {x : SAct} {cs : List Value} (h : kAct.K w x cs) : cs = [.int .u8 x.f0, .int .u8 x.f1, .int .u8 x.f2, .int .i8 x.f3] := by
  obtain ⟨_, _, rfl, rfl, ⟨_, _, rfl, rfl, ⟨_, _, rfl, rfl, rfl⟩⟩⟩ := h
  exact rfl
/-- The cells of an act that was handed in. -/
theorem cellsAct {w : World} {A : Option Addr} {n : Nat} {xs : List SAct} (h : Kd.C kAct w A n xs) (i : Nat) (hi : (i : Int) < n) : ∃ ad s, A = some ad ∧ s = xs.getD i zAct ∧
    ∀ w1, Below w.heap.size w w1 → w1.cell? (ad.add (i * 4)) = some (.int .u8 s.f0) ∧ w1.cell? ⟨(ad.add (i * 4)).block, (ad.add (i * 4)).off + 1, none⟩ = some (.int .u8 s.f1) ∧ w1.cell? ⟨(ad.add (i * 4)).block, (ad.add (i * 4)).off + 2, none⟩ = some (.int .u8 s.f2) ∧
      w1.cell? ⟨(ad.add (i * 4)).block, (ad.add (i * 4)).off + 3, none⟩ = some (.int .i8 (s : SAct).f3) := by
  obtain ⟨ad, c, e, _, hK, hc0⟩ := Kd.C_get h zAct i (by omega) hi
  have hc : ∀ j u, c[j]? = some u → w.cell? (ad.add ((i : Int).toNat * 4 + j)) = some u := hc0
  obtain rfl := kAct_open hK
  simp only [Int.toNat_natCast] at hc
  have x0 := hc 0 _ rfl
  have x1 := hc 1 _ rfl
  have x2 := hc 2 _ rfl
  have x3 := hc 3 _ rfl
  rw [Nat.add_zero] at x0
  rw [add_field _ _ 1 (by omega)] at x1
  rw [add_field _ _ 2 (by omega)] at x2
  rw [add_field _ _ 3 (by omega)] at x3
  have mv : ∀ (w1 : World) (p : Addr) (v : Value), Below w.heap.size w w1 → w.cell? p = some v → w1.cell? p = some v := fun w1 p v hb hp => (hb.cell (p := p) (World.block_lt_of_cell? w _ hp)).trans hp
  exact ⟨ad, _, e, rfl, fun w1 hb => ⟨mv w1 _ _ hb x0, mv w1 _ _ hb x1, mv w1 _ _ hb x2, mv w1 _ _ hb x3⟩⟩
abbrev goodAct (x : SAct) : Prop := (Lit.int .u8 x.f0).wf = true ∧ (Lit.int .u8 x.f1).wf = true ∧ (Lit.int .u8 x.f2).wf = true ∧ (Lit.int .i8 x.f3).wf = true
set_option maxRecDepth 100000 in
theorem op_act (w : World) : Op Try.prog w 63 kAct goodAct :=
  Op.iso (fun a => ⟨a.1, a.2.1, a.2.2.1, a.2.2.2⟩) (fun _ => rfl)
    (Op.struct Try.underlying63 (by kernel_rfl)
      (OpF.cons (Op.int Try.underlying5) rfl (by kernel_rfl) (OpF.cons (Op.int Try.underlying5) rfl (by kernel_rfl) (OpF.cons (Op.int Try.underlying5) rfl (by kernel_rfl) (OpF.one (Op.int Try.underlying61) rfl (by kernel_rfl))))))
set_option maxRecDepth 100000 in
theorem op_acts (w : World) : Op Try.prog w 44 (Kd.slice 63 kAct) (fun l => ∀ x ∈ l, goodAct x) :=
  (Op.slice (B := 4) _ Try.underlying44 (by kernel_rfl) (by kernel_rfl) (op_act w)).weaken (fun l h => h.2)

/-! ### rows of maps -/
def kMp : Kd Nat := Kd.scalar (fun b => .map (some b)) (fun _ => rfl)
abbrev MapI (w : World) (m : Nat) (f : Int → Option Int) : Prop := MapOf (Value.int .i64) (Value.int .i64) okI w m f
def MapsAre (w : World) (G : Nat → Prop) (v : Value) (fs : List (Int → Option Int)) : Prop :=
  ∃ ms : List Nat, Kd.R kMp 65 w 0 G v ms ∧ ms.length = fs.length ∧ ms.Nodup ∧ ∀ (j : Nat) (f : Int → Option Int), fs[j]? = some f → ∃ m, ms[j]? = some m ∧ G m ∧ MapI w m f
section
variable {w w' : World} {G G' : Nat → Prop} {v : Value} {fs : List (Int → Option Int)}
theorem MapsAre.move (H : MapsAre w G v fs) (hm : ∀ g, G g → w'.heap[g]? = w.heap[g]?) : MapsAre w' G v fs := by
  obtain ⟨ms, h1, h2, h3, h4⟩ := H
  refine ⟨ms, Kd.R_move h1 hm, h2, h3, fun j f hj => ?_⟩
  obtain ⟨m, a, b, c⟩ := h4 j f hj
  exact ⟨m, a, b, c.move (hm m b)⟩
theorem MapsAre.mono (H : MapsAre w G v fs) (hG : ∀ g, G g → G' g) : MapsAre w G' v fs := by
  obtain ⟨ms, h1, h2, h3, h4⟩ := H
  refine ⟨ms, Kd.R_mono h1 hG, h2, h3, fun j f hj => ?_⟩
  obtain ⟨m, a, b, c⟩ := h4 j f hj
  exact ⟨m, a, hG m b, c⟩
theorem MapsAre.nil (w : World) (G : Nat → Prop) : MapsAre w G (.slice none 0 0) [] := ⟨[], Kd.R_nil _ _ _ _ _, rfl, List.nodup_nil, fun j f h => by simp at h⟩
theorem R_one1 {α : Type} {enc : α → Value} {h1 : ∀ x, (enc x).oneCell' = true} {e g : Nat} {x : α} (hb : w.heap[g]? = some (.cells #[enc x] e (0, 0))) : (Kd.scalar enc h1).R e w 0 (fun k => k = g) (.slice (some ⟨g, 0, none⟩) 1 1) [x] :=
  ⟨fun k hk => by simpa [Value.ownBlock, eq_comm] using hk, [enc x], ⟨rfl, .inr ⟨g, 1, _, rfl, Nat.zero_le _, hb, Nat.le_refl _, by unfold maxLen; omega, rfl, rfl⟩⟩, (Reps.none _ _).snoc rfl rfl⟩
theorem MapsAre.one {g m : Nat} (hb : w.heap[g]? = some (.cells #[.map (some m)] 65 (0, 0))) {f : Int → Option Int} (hm : MapI w m f) : MapsAre w (fun k => k = g ∨ k = m) (.slice (some ⟨g, 0, none⟩) 1 1) [f] := by
  refine ⟨[m], Kd.R_mono (R_one1 hb) (fun k hk => .inl hk), rfl, List.nodup_cons.2 ⟨by simp, List.nodup_nil⟩, fun j f' hj => ?_⟩
  match j with
  | 0 =>
    simp at hj
    subst hj
    exact ⟨m, rfl, .inr rfl, hm⟩
  | j + 1 => simp at hj
theorem MapsAre.slice (H : MapsAre w G v fs) : ∃ a c, v = .slice a fs.length c := by
  obtain ⟨ms, h1, h2, h3, h4⟩ := H
  obtain ⟨a, c, e⟩ := Kd.R_slice h1
  exact ⟨a, c, by rw [e, h2]⟩
theorem MapsAre.take {a : Option Addr} {n c m : Nat} (H : MapsAre w G (.slice a n c) fs) (hm : m ≤ fs.length) : MapsAre w G (.slice a m c) (fs.take m) := by
  obtain ⟨ms, h1, h2, h3, h4⟩ := H
  refine ⟨ms.take m, Kd.R_take h1 (by omega), by rw [List.length_take, List.length_take, h2], h3.sublist (List.take_sublist _ _), fun j f hj => ?_⟩
  rw [List.getElem?_take] at hj
  split at hj
  · rename_i hlt
    obtain ⟨m', p, q, r⟩ := h4 j f hj
    exact ⟨m', by rw [List.getElem?_take, if_pos hlt]; exact p, q, r⟩
  · cases hj
/-- A row's element. -/
theorem R_cell1 {α : Type} {enc : α → Value} {h1 : ∀ x, (enc x).oneCell' = true} {e : Nat} {xs : List α} (H : (Kd.scalar enc h1).R e w 0 G v xs) {j : Nat} (hj : j < xs.length) : ∃ g cap, v = .slice (some ⟨g, 0, none⟩) xs.length cap ∧ xs.length ≤ cap ∧ G g ∧ w.cell? ⟨g, j, none⟩ = some (enc xs[j]) := by
  obtain ⟨g, cap, cur, c, hv, hG, _, hb, h2, h3, h4, hM, h5, h6⟩ := R_elem H hj
  obtain rfl : c = [enc xs[j]] := hM
  have h7 := h6 0 _ rfl
  refine ⟨g, cap, hv, h2, hG, (blk_cell hb j).trans ?_⟩
  have : j * (Kd.scalar enc h1).sz + 0 = j := by show j * 1 + 0 = j; omega
  rw [this] at h7
  exact h7
theorem MapsAre.elem (H : MapsAre w G v fs) {j : Nat} (hj : j < fs.length) : ∃ g cap m, v = .slice (some ⟨g, 0, none⟩) fs.length cap ∧ fs.length ≤ cap ∧ w.cell? ⟨g, j, none⟩ = some (.map (some m)) ∧ G m ∧ MapI w m fs[j] ∧
    ∀ w' f', Chg w w' (fun k => k = m) → MapI w' m f' → MapsAre w' G v (fs.set j f') := by
  obtain ⟨ms, h1, h2, h3, h4⟩ := H
  obtain ⟨g, cap, hv, hc, hG, hcell⟩ := R_cell1 h1 (j := j) (by omega)
  obtain ⟨m, a, b, c⟩ := h4 j fs[j] (List.getElem?_eq_getElem hj)
  have hm : ms[j]'(by omega) = m := by
    rw [List.getElem?_eq_getElem (by omega)] at a
    exact Option.some.inj a
  rw [hm] at hcell
  refine ⟨g, cap, m, by rw [hv, h2], by omega, hcell, b, c, fun w' f' hch hf => ?_⟩
  refine ⟨ms, ?_, by rw [List.length_set, h2], h3, fun i f hi => ?_⟩
  · refine Kd.R_mono (Kd.R_move (Kd.R_bound h1) (fun k hk => ?_)) (fun k hk => hk.1)
    obtain ⟨_, _, hlt, q, _, cells, hb⟩ := hk
    refine hch.block k hlt (fun e => ?_)
    subst e
    obtain ⟨es, cl, hmm⟩ := c.isMap
    rw [hmm] at hb
    cases hb
  · by_cases e : i = j
    · subst e
      rw [List.getElem?_set_self hj] at hi
      injection hi with hi
      subst hi
      exact ⟨m, a, b, hf⟩
    · rw [List.getElem?_set_ne (Ne.symm e)] at hi
      obtain ⟨m', p, q, r⟩ := h4 i f hi
      refine ⟨m', p, q, r.chg hch (fun e2 => e ?_)⟩
      obtain ⟨hil, hie⟩ := List.getElem?_eq_some_iff.1 p
      obtain ⟨hjl, hje⟩ := List.getElem?_eq_some_iff.1 a
      exact (List.getElem_inj h3).1 (by rw [hie, hje, e2])
end

/-! ### all of it -/
def wcells (tops : Nat → Int) (vs vw : Nat → Value) : Array Value := #[.int .i64 (tops 0), vs 0, vw 0, .int .i64 (tops 1), vs 1, vw 1, .int .i64 (tops 2), vs 2, vw 2]
def cells4 (f : Int → Int) : Array Value := #[.int .i64 (f 0), .int .i64 (f 1), .int .i64 (f 2), .int .i64 (f 3)]
def setN {α : Type} (f : Nat → α) (k : Nat) (x : α) : Nat → α := fun i => if i = k then x else f i
theorem setN_same {α : Type} (f : Nat → α) (k : Nat) (x : α) : setN f k x k = x := by simp [setN]
theorem setN_other {α : Type} (f : Nat → α) {k i : Nat} (x : α) (h : i ≠ k) : setN f k x i = f i := by simp [setN, h]
def setI (f : Int → Int) (r n : Int) : Int → Int := fun i => if i = r then n else f i
structure OneAt (w : World) (K : Nat → Prop) (cB kB sB wB : Nat) (tops : Nat → Int) (ids : Nat → List Int) (fs : Nat → List (Int → Option Int)) (com kept : Int → Int) (q : Int) (vs vw : Nat → Value) (G : Nat → Nat → Prop) : Prop where
  cb : w.heap[cB]? = some (.cells (cells4 com) 50 (0, 0))
  kb : w.heap[kB]? = some (.cells (cells4 kept) 50 (0, 0))
  sb : w.heap[sB]? = some (.cells #[.int .i64 q, .int .i64 0] 52 (0, 0))
  wb : w.heap[wB]? = some (.cells (wcells tops vs vw) 57 (0, 0))
  subs : ∀ k, k < 3 → Kd.R kInt 3 w 0 (G (2 * k)) (vs k) (ids k)
  maps : ∀ k, k < 3 → MapsAre w (G (2 * k + 1)) (vw k) (fs k)
  dis : ∀ i j g, G i g → G j g → i = j
  own : ∀ i g, G i g → K g ∧ g ≠ cB ∧ g ≠ kB ∧ g ≠ sB ∧ g ≠ wB
  four : (K cB ∧ K kB ∧ K sB ∧ K wB) ∧ cB ≠ kB ∧ cB ≠ sB ∧ cB ≠ wB ∧ kB ≠ sB ∧ kB ≠ wB ∧ sB ≠ wB
  low : ∀ g, K g → g < w.heap.size
section
variable {w w' : World} {K : Nat → Prop} {cB kB sB wB k : Nat} {tops tops' : Nat → Int} {ids ids' : Nat → List Int} {fs fs' : Nat → List (Int → Option Int)} {com com' kept kept' : Int → Int} {q q' : Int} {vs vw vs' vw' : Nat → Value} {G G' : Nat → Nat → Prop}
theorem OneAt.move (H : OneAt w K cB kB sB wB tops ids fs com kept q vs vw G) (hm : ∀ g, K g → w'.heap[g]? = w.heap[g]?) (hs : ∀ g, K g → g < w'.heap.size) : OneAt w' K cB kB sB wB tops ids fs com kept q vs vw G :=
  ⟨(hm _ H.four.1.1).trans H.cb, (hm _ H.four.1.2.1).trans H.kb, (hm _ H.four.1.2.2.1).trans H.sb, (hm _ H.four.1.2.2.2).trans H.wb, fun k hk => Kd.R_move (H.subs k hk) (fun g hg => hm g (H.own _ g hg).1),
    fun k hk => (H.maps k hk).move (fun g hg => hm g (H.own _ g hg).1), H.dis, H.own, H.four, hs⟩
theorem OneAt.below (H : OneAt w K cB kB sB wB tops ids fs com kept q vs vw G) (hb : Below w.heap.size w w') : OneAt w' K cB kB sB wB tops ids fs com kept q vs vw G := H.move (fun g hg => hb.block g (H.low g hg)) (fun g hg => Nat.lt_of_lt_of_le (H.low g hg) hb.size)
theorem OneAt.ccom (H : OneAt w K cB kB sB wB tops ids fs com kept q vs vw G) {r : Nat} (hr : r < 4) : w.cell? ⟨cB, r, none⟩ = some (.int .i64 (com r)) := by
  rw [blk_cell H.cb]
  match r, hr with
  | 0, _ => rfl
  | 1, _ => rfl
  | 2, _ => rfl
  | 3, _ => rfl
theorem OneAt.ckept (H : OneAt w K cB kB sB wB tops ids fs com kept q vs vw G) {r : Nat} (hr : r < 4) : w.cell? ⟨kB, r, none⟩ = some (.int .i64 (kept r)) := by
  rw [blk_cell H.kb]
  match r, hr with
  | 0, _ => rfl
  | 1, _ => rfl
  | 2, _ => rfl
  | 3, _ => rfl
theorem OneAt.cwho (H : OneAt w K cB kB sB wB tops ids fs com kept q vs vw G) (hk : k < 3) : w.cell? ⟨wB, k * 3, none⟩ = some (.int .i64 (tops k)) ∧ w.cell? ⟨wB, k * 3 + 1, none⟩ = some (vs k) ∧ w.cell? ⟨wB, k * 3 + 2, none⟩ = some (vw k) := by
  rw [blk_cell H.wb, blk_cell H.wb, blk_cell H.wb]
  match k, hk with
  | 0, _ => exact ⟨rfl, rfl, rfl⟩
  | 1, _ => exact ⟨rfl, rfl, rfl⟩
  | 2, _ => exact ⟨rfl, rfl, rfl⟩
theorem wcells_set (hk : k < 3) (t : Int) (a b : Value) : (((wcells tops vs vw).setIfInBounds (k * 3) (.int .i64 t)).setIfInBounds (k * 3 + 1) a).setIfInBounds (k * 3 + 2) b = wcells (setN tops k t) (setN vs k a) (setN vw k b) := by
  match k, hk with
  | 0, _ => rfl
  | 1, _ => rfl
  | 2, _ => rfl
theorem wcells_set1 (hk : k < 3) (a : Value) : (wcells tops vs vw).setIfInBounds (k * 3 + 1) a = wcells tops (setN vs k a) vw := by
  match k, hk with
  | 0, _ => rfl
  | 1, _ => rfl
  | 2, _ => rfl
theorem wcells_set2 (hk : k < 3) (a : Value) : (wcells tops vs vw).setIfInBounds (k * 3 + 2) a = wcells tops vs (setN vw k a) := by
  match k, hk with
  | 0, _ => rfl
  | 1, _ => rfl
  | 2, _ => rfl
/-- Some of the six rows have changed, and the cells that hold them. -/
theorem OneAt.upd (H : OneAt w K cB kB sB wB tops ids fs com kept q vs vw G) (I : Nat → Prop) (hc : Chg w w' (fun g => (∃ i, I i ∧ G i g) ∨ g = wB)) (hwb : w'.heap[wB]? = some (.cells (wcells tops' vs' vw') 57 (0, 0)))
    (hG : ∀ i, ¬ I i → G' i = G i) (hG2 : ∀ i g, I i → G' i g → G i g ∨ (w.heap.size ≤ g ∧ g < w'.heap.size)) (hG3 : ∀ i j g, I i → I j → G' i g → G' j g → i = j)
    (hs : ∀ k, k < 3 → (¬ I (2 * k) ∧ vs' k = vs k ∧ ids' k = ids k) ∨ (I (2 * k) ∧ Kd.R kInt 3 w' 0 (G' (2 * k)) (vs' k) (ids' k)))
    (hm : ∀ k, k < 3 → (¬ I (2 * k + 1) ∧ vw' k = vw k ∧ fs' k = fs k) ∨ (I (2 * k + 1) ∧ MapsAre w' (G' (2 * k + 1)) (vw' k) (fs' k))) : OneAt w' (ext K w w') cB kB sB wB tops' ids' fs' com kept q vs' vw' G' := by
  obtain ⟨⟨f1, f2, f3, f4⟩, n1, n2, n3, n4, n5, n6⟩ := H.four
  have hKn : ∀ g, K g → (∀ i, I i → ¬ G i g) → g ≠ wB → w'.heap[g]? = w.heap[g]? := fun g hg h1 h2 => hc.block g (H.low g hg) (fun h => by
    rcases h with ⟨i, hi, h⟩ | h
    · exact h1 i hi h
    · exact h2 h)
  have hsame : ∀ i, ¬ I i → ∀ g, G i g → w'.heap[g]? = w.heap[g]? := fun i hi g hg => hKn g (H.own i g hg).1 (fun j hj h => hi (by rw [H.dis i j g hg h]; exact hj)) (H.own i g hg).2.2.2.2
  have hold : ∀ i g, G' i g → G i g ∨ (w.heap.size ≤ g ∧ g < w'.heap.size) := fun i g hg => by
    by_cases hi : I i
    · exact hG2 i g hi hg
    · rw [hG i hi] at hg
      exact .inl hg
  refine ⟨?_, ?_, ?_, hwb, fun k hk => ?_, fun k hk => ?_, fun i j g h1 h2 => ?_, fun i g hg => ?_, ⟨⟨.inl f1, .inl f2, .inl f3, .inl f4⟩, n1, n2, n3, n4, n5, n6⟩, fun g hg => ?_⟩
  · exact (hKn cB f1 (fun i _ h => (H.own i _ h).2.1 rfl) n3).trans H.cb
  · exact (hKn kB f2 (fun i _ h => (H.own i _ h).2.2.1 rfl) n5).trans H.kb
  · exact (hKn sB f3 (fun i _ h => (H.own i _ h).2.2.2.1 rfl) n6).trans H.sb
  · rcases hs k hk with ⟨h1, h2, h3⟩ | ⟨_, h2⟩
    · rw [h2, h3, hG _ h1]
      exact Kd.R_move (H.subs k hk) (hsame _ h1)
    · exact h2
  · rcases hm k hk with ⟨h1, h2, h3⟩ | ⟨_, h2⟩
    · rw [h2, h3, hG _ h1]
      exact (H.maps k hk).move (hsame _ h1)
    · exact h2
  · by_cases hi : I i
    · by_cases hj : I j
      · exact hG3 i j g hi hj h1 h2
      · rw [hG j hj] at h2
        rcases hG2 i g hi h1 with h3 | h3
        · exact H.dis i j g h3 h2
        · have := H.low g (H.own j g h2).1
          omega
    · rw [hG i hi] at h1
      rcases hold j g h2 with h3 | h3
      · exact H.dis i j g h1 h3
      · have := H.low g (H.own i g h1).1
        omega
  · rcases hold i g hg with h | h
    · obtain ⟨a, b, c, d, e⟩ := H.own i g h
      exact ⟨.inl a, b, c, d, e⟩
    · have := H.low _ f1
      have := H.low _ f2
      have := H.low _ f3
      have := H.low _ f4
      exact ⟨.inr h, by omega, by omega, by omega, by omega⟩
  · rcases hg with h | h
    · exact Nat.lt_of_lt_of_le (H.low g h) hc.size
    · exact h.2
/-- What was committed, or what a snapshot saw, has changed. -/
theorem OneAt.upd4 (H : OneAt w K cB kB sB wB tops ids fs com kept q vs vw G) (hc : Chg w w' (fun g => g = cB ∨ g = kB ∨ g = sB)) (hs : w'.heap.size = w.heap.size) (h1 : w'.heap[cB]? = some (.cells (cells4 com') 50 (0, 0))) (h2 : w'.heap[kB]? = some (.cells (cells4 kept') 50 (0, 0)))
    (h3 : w'.heap[sB]? = some (.cells #[.int .i64 q', .int .i64 0] 52 (0, 0))) : OneAt w' K cB kB sB wB tops ids fs com' kept' q' vs vw G := by
  obtain ⟨⟨f1, f2, f3, f4⟩, n1, n2, n3, n4, n5, n6⟩ := H.four
  have hsame : ∀ i g, G i g → w'.heap[g]? = w.heap[g]? := fun i g hg => by
    obtain ⟨a, b, c, d, e⟩ := H.own i g hg
    refine hc.block g (H.low g a) (fun h => ?_)
    rcases h with h | h | h
    · exact b h
    · exact c h
    · exact d h
  exact ⟨h1, h2, h3, hc.obj H.wb (by omega), fun k hk => Kd.R_move (H.subs k hk) (hsame _), fun k hk => (H.maps k hk).move (hsame _), H.dis, H.own, H.four, fun g hg => by rw [hs]; exact H.low g hg⟩
end

/-! ### the writer beside it -/
section
variable {w0 w w' : World} {b h x : Nat} {A : AH} {T : TT} {k : Nat} {K K' : Nat → Prop} {wk : World}
theorem SgW.rest (H : SgW w0 w b h x A T k K wk) : ∀ g, K g → w.heap[g]? = wk.heap[g]? := by
  obtain ⟨F, Fx, _, _, _, _, _, h4⟩ := H
  exact fun g hg => (h4 g hg).2.2.2.2.2
theorem OneAt.next {cB kB sB wB : Nat} {tops : Nat → Int} {ids : Nat → List Int} {fs : Nat → List (Int → Option Int)} {com kept : Int → Int} {q : Int} {vs vw : Nat → Value} {G : Nat → Nat → Prop} (H : OneAt w K cB kB sB wB tops ids fs com kept q vs vw G) (S : SgW w0 w' b h x A T k K w) : OneAt w' K cB kB sB wB tops ids fs com kept q vs vw G := by
  refine H.move S.rest ?_
  obtain ⟨F, Fx, _, _, _, _, _, h4⟩ := S
  exact fun g hg => (h4 g hg).2.2.2.2.1
theorem SgW.base (H : SgW w0 w b h x A T k K wk) : SgW w0 w b h x A T k K w := by
  obtain ⟨F, Fx, h1, h2, h3, h4, h5, h6⟩ := H
  exact ⟨F, Fx, h1, h2, h3, h4, h5, fun g hg => ⟨(h6 g hg).1, (h6 g hg).2.1, (h6 g hg).2.2.1, (h6 g hg).2.2.2.1, (h6 g hg).2.2.2.2.1, rfl⟩⟩
/-- Other blocks have changed, or are new. -/
theorem SgW.grow (H : SgW w0 w b h x A T k K wk) (hc : Chg w w' K) : SgW w0 w' b h x A T k (ext K w w') w' := by
  obtain ⟨F, Fx, h1, h2, h3, h4, h5, h6⟩ := H
  refine ⟨F, Fx, h1.other hc (fun g hg => ⟨(h6 g hg).1, (h6 g hg).2.1, (h6 g hg).2.2.2.1⟩), hc.obj h2 (fun e => (h6 b e).2.2.1 rfl), h3, h4, h5, fun g hg => ?_⟩
  rcases hg with hg | hg
  · obtain ⟨a1, a2, a3, a4, a5, _⟩ := h6 g hg
    exact ⟨a1, a2, a3, a4, Nat.lt_of_lt_of_le a5 hc.size, rfl⟩
  · have hF : ∀ g, F g → g < w.heap.size := h1.heap.bound
    have hX : ∀ g, Fx g → g < w.heap.size := h1.tab.bound
    have hb := blk_lt h2
    have := h1.bel.size
    exact ⟨fun e => by have := hF g e; omega, fun e => by have := hX g e; omega, by omega, by omega, hg.2, rfl⟩
theorem SgW.mono (H : SgW w0 w b h x A T k K wk) (hK : ∀ g, K' g → K g) : SgW w0 w b h x A T k K' wk := by
  obtain ⟨F, Fx, h1, h2, h3, h4, h5, h6⟩ := H
  exact ⟨F, Fx, h1, h2, h3, h4, h5, fun g hg => h6 g (hK g hg)⟩
end
end Go.Proofs.Ytljahhgankcalaa

/-! SightOne: a round's state; what each act makes of it. -/
namespace Go.Proofs.Ytljahhgankcalaa
open Go.RowKit Go.Maps Go.MapKept Go.WideMaps Go.Shelf
open Go.Proofs.YtljahhgankcalaaW.PrintWords Go.Proofs.YtljahhgankcalaaW.PrintLast Go.Proofs.YtljahhgankcalaaW.PrintMore
set_option linter.unusedVariables false
set_option linter.unusedSimpArgs false

def Tr.maps (P : Tr) : List (Int → Option Int) := P.map Prod.snd
theorem Tr.maps_len (P : Tr) : (Tr.maps P).length = P.length := by simp [Tr.maps]
theorem Tr.ids_len (P : Tr) : (Tr.ids P).length = P.length := by simp [Tr.ids]
theorem u8_range {n : Int} (h : (Lit.int .u8 n).wf = true) : 0 ≤ n ∧ n ≤ 255 := by
  have h2 : (decide (IntKind.u8.min ≤ n) && decide (n ≤ IntKind.u8.max)) = true := h
  have h3 : IntKind.u8.min = 0 := by decide
  have h4 : IntKind.u8.max = 255 := by decide
  rw [h3, h4] at h2
  simpa using h2
/-- Behind i acts. -/
structure OneSt (w0 w : World) (b h x cB kB sB wB i : Nat) (tk : Bool) (A : AH) (T : TT) (who : Nat → Tr) (com kept : Int → Int) (q : Int) (K : Nat → Prop) (vs vw : Nat → Value) (G : Nat → Nat → Prop) : Prop where
  sg : SgW w0 w b h x A T (2 * i) K w
  mem : OneAt w K cB kB sB wB (fun k => Tr.top (who k)) (fun k => Tr.ids (who k)) (fun k => Tr.maps (who k)) com kept q vs vw G
  one : One A T who com
  snap : tk = true → Snap A T q kept
  len : ∀ k, (who k).length ≤ i
section
variable {w0 w w' : World} {b h x cB kB sB wB i : Nat} {tk : Bool} {A : AH} {T : TT} {who : Nat → Tr} {com kept : Int → Int} {q : Int} {K : Nat → Prop} {vs vw : Nat → Value} {G : Nat → Nat → Prop}
theorem OneSt.below (H : OneSt w0 w b h x cB kB sB wB i tk A T who com kept q K vs vw G) (hb : Below w.heap.size w w') : OneSt w0 w' b h x cB kB sB wB i tk A T who com kept q K vs vw G :=
  ⟨(H.sg.below hb).base, H.mem.below hb, H.one, H.snap, H.len⟩
theorem OneSt.bel (H : OneSt w0 w b h x cB kB sB wB i tk A T who com kept q K vs vw G) : Below w0.heap.size w0 w := H.sg.bel
theorem OneSt.start {w w1 w2 w3 w4 : World} {K0 : Nat → Prop} (H : SgW w0 w b h x AH.empty TT.empty 0 K0 w) (h1 : w1 = w.alloc (.cells #[.int .i64 (-1), .int .i64 (-1), .int .i64 (-1), .int .i64 (-1)] 50)) (h2 : w2 = w1.alloc (.cells #[.int .i64 0, .int .i64 0, .int .i64 0, .int .i64 0] 50))
    (h3 : w3 = w2.alloc (.cells #[.int .i64 0, .int .i64 0] 52)) (h4 : w4 = w3.alloc (.cells #[.int .i64 0, .slice none 0 0, .slice none 0 0, .int .i64 0, .slice none 0 0, .slice none 0 0, .int .i64 0, .slice none 0 0, .slice none 0 0] 57)) :
    OneSt w0 w4 b h x w.heap.size (w.heap.size + 1) (w.heap.size + 2) (w.heap.size + 3) 0 false AH.empty TT.empty (fun _ => []) (fun _ => -1) (fun _ => 0) 0 (fun g => w.heap.size ≤ g ∧ g < w.heap.size + 4) (fun _ => .slice none 0 0) (fun _ => .slice none 0 0) (fun _ _ => False) := by
  have s1 : w1.heap.size = w.heap.size + 1 := by rw [h1]; simp
  have s2 : w2.heap.size = w.heap.size + 2 := by rw [h2, World.size_alloc, s1]
  have s3 : w3.heap.size = w.heap.size + 3 := by rw [h3, World.size_alloc, s2]
  have s4 : w4.heap.size = w.heap.size + 4 := by rw [h4, World.size_alloc, s3]
  have b34 : Below w3.heap.size w3 w4 := by rw [h4]; exact (Below.refl _ _).alloc (Nat.le_refl _) _
  have b23 : Below w2.heap.size w2 w3 := by rw [h3]; exact (Below.refl _ _).alloc (Nat.le_refl _) _
  have b12 : Below w1.heap.size w1 w2 := by rw [h2]; exact (Below.refl _ _).alloc (Nat.le_refl _) _
  have b01 : Below w.heap.size w w1 := by rw [h1]; exact (Below.refl _ _).alloc (Nat.le_refl _) _
  have b24 := b23.trans (b34.mono (by omega))
  have b14 := b12.trans (b24.mono (by omega))
  have b04 := b01.trans (b14.mono (by omega))
  have e1 : w1.heap[w.heap.size]? = some (.cells (cells4 (fun _ => -1)) 50 (0, 0)) := by rw [h1]; exact blk_new w _
  have e2 : w2.heap[w.heap.size + 1]? = some (.cells (cells4 (fun _ => 0)) 50 (0, 0)) := by rw [← s1, h2]; exact blk_new w1 _
  have e3 : w3.heap[w.heap.size + 2]? = some (.cells #[.int .i64 0, .int .i64 0] 52 (0, 0)) := by rw [← s2, h3]; exact blk_new w2 _
  have e4 : w4.heap[w.heap.size + 3]? = some (.cells (wcells (fun _ => 0) (fun _ => .slice none 0 0) (fun _ => .slice none 0 0)) 57 (0, 0)) := by rw [← s3, h4]; exact blk_new w3 _
  refine ⟨(H.grow (Chg.of_below b04 _)).mono (fun g hg => .inr ⟨hg.1, by rw [s4]; exact hg.2⟩), ⟨blk_below e1 b14, blk_below e2 b24, blk_below e3 b34, e4, fun k hk => Kd.R_nil _ _ _ _ _, fun k hk => MapsAre.nil _ _, fun _ _ _ h => h.elim, fun _ _ h => h.elim, ⟨⟨?_, ?_, ?_, ?_⟩, ?_, ?_, ?_, ?_, ?_, ?_⟩, fun g hg => by rw [s4]; exact hg.2⟩, One.start, fun h => absurd h (by simp), fun _ => Nat.le_refl _⟩ <;> omega
/-- A snapshot is taken. -/
theorem OneSt.shot (H : OneSt w0 w b h x cB kB sB wB i tk A T who com kept q K vs vw G) :
    OneSt w0 ((((((w.setCell ⟨sB, 0, none⟩ (.int .i64 T.last)).setCell ⟨sB, 1, none⟩ (.int .i64 0)).setCell ⟨kB, 0, none⟩ (.int .i64 (com 0))).setCell ⟨kB, 1, none⟩ (.int .i64 (com 1))).setCell ⟨kB, 2, none⟩ (.int .i64 (com 2))).setCell ⟨kB, 3, none⟩ (.int .i64 (com 3))) b h x cB kB sB wB i true A T who com com T.last K vs vw G := by
  obtain ⟨⟨f1, f2, f3, f4⟩, n1, n2, n3, n4, n5, n6⟩ := H.mem.four
  have b1 := blk_set (blk_set H.mem.sb 0 (.int .i64 T.last)) 1 (.int .i64 0)
  have hc1 : Chg w ((w.setCell ⟨sB, 0, none⟩ (.int .i64 T.last)).setCell ⟨sB, 1, none⟩ (.int .i64 0)) (fun g => g = sB) := ((Chg.refl w (fun g => g = sB)).setCell (p := ⟨sB, 0, none⟩) (.inl rfl) _).setCell (p := ⟨sB, 1, none⟩) (.inl rfl) _
  have hz1 : ((w.setCell ⟨sB, 0, none⟩ (.int .i64 T.last)).setCell ⟨sB, 1, none⟩ (.int .i64 0)).heap.size = w.heap.size := by simp [World.setCell]
  generalize (w.setCell ⟨sB, 0, none⟩ (.int .i64 T.last)).setCell ⟨sB, 1, none⟩ (.int .i64 0) = w1 at b1 hc1 hz1 ⊢
  have e1 : w1.heap[sB]? = some (.cells #[.int .i64 T.last, .int .i64 0] 52 (0, 0)) := b1
  have k1 := hc1.obj H.mem.kb n4
  have b2 := blk_set (blk_set (blk_set (blk_set k1 0 (.int .i64 (com 0))) 1 (.int .i64 (com 1))) 2 (.int .i64 (com 2))) 3 (.int .i64 (com 3))
  have hc2 : Chg w1 ((((w1.setCell ⟨kB, 0, none⟩ (.int .i64 (com 0))).setCell ⟨kB, 1, none⟩ (.int .i64 (com 1))).setCell ⟨kB, 2, none⟩ (.int .i64 (com 2))).setCell ⟨kB, 3, none⟩ (.int .i64 (com 3))) (fun g => g = kB) :=
    ((((Chg.refl w1 (fun g => g = kB)).setCell (p := ⟨kB, 0, none⟩) (.inl rfl) _).setCell (p := ⟨kB, 1, none⟩) (.inl rfl) _).setCell (p := ⟨kB, 2, none⟩) (.inl rfl) _).setCell (p := ⟨kB, 3, none⟩) (.inl rfl) _
  have hz2 : ((((w1.setCell ⟨kB, 0, none⟩ (.int .i64 (com 0))).setCell ⟨kB, 1, none⟩ (.int .i64 (com 1))).setCell ⟨kB, 2, none⟩ (.int .i64 (com 2))).setCell ⟨kB, 3, none⟩ (.int .i64 (com 3))).heap.size = w1.heap.size := by simp [World.setCell]
  generalize (((w1.setCell ⟨kB, 0, none⟩ (.int .i64 (com 0))).setCell ⟨kB, 1, none⟩ (.int .i64 (com 1))).setCell ⟨kB, 2, none⟩ (.int .i64 (com 2))).setCell ⟨kB, 3, none⟩ (.int .i64 (com 3)) = w2 at b2 hc2 hz2 ⊢
  have e2 : w2.heap[kB]? = some (.cells (cells4 com) 50 (0, 0)) := b2
  have hc : Chg w w2 (fun g => g = kB ∨ g = sB) := hc1.trans hc2 (fun _ _ h => .inr h) (fun _ _ h => .inl h)
  have hz : w2.heap.size = w.heap.size := hz2.trans hz1
  refine ⟨(H.sg.grow (hc.mono (fun g _ hg => by
    rcases hg with rfl | rfl
    · exact f2
    · exact f3))).mono (fun g hg => .inl hg), H.mem.upd4 (hc.mono (fun g _ hg => .inr hg)) hz (hc.obj H.mem.cb (by omega)) e2 (hc2.obj e1 (by omega)), H.one, fun _ => H.one.snap, H.len⟩
/-- The next round's state. -/
theorem OneSt.next {w7 wk : World} {A' : AH} {T' : TT} {m k : Nat} {P : Tr} {com' : Int → Int} {vs' vw' : Nat → Value} {G' : Nat → Nat → Prop} (H : OneSt w0 w b h x cB kB sB wB i tk A T who com kept q K vs vw G) (S : SgW w0 w7 b h x A' T' m K wk) (hm : m ≤ 2 * (i + 1)) (hc : Chg w7 w' K)
    (M : OneAt w' (ext K w7 w') cB kB sB wB (setN (fun j => Tr.top (who j)) k (Tr.top P)) (setN (fun j => Tr.ids (who j)) k (Tr.ids P)) (setN (fun j => Tr.maps (who j)) k (Tr.maps P)) com' kept q vs' vw' G') (O : One A' T' (setW who k P) com') (hs : tk = true → Snap A' T' q kept) (hl : P.length ≤ i + 1) :
    OneSt w0 w' b h x cB kB sB wB (i + 1) tk A' T' (setW who k P) com' kept q (ext K w7 w') vs' vw' G' := by
  have e : ∀ {α : Type} (f : Tr → α), (fun j => f (setW who k P j)) = setN (fun j => f (who j)) k (f P) := fun f => funext fun j => by
    unfold setW setN
    split <;> rfl
  refine ⟨(S.more hm).grow hc, ?_, O, hs, fun j => ?_⟩
  · rw [e, e, e]
    exact M
  · unfold setW
    split
    · exact hl
    · have := H.len j
      omega
end
section
variable {w w' w1 : World} {K : Nat → Prop} {cB kB sB wB k : Nat} {tops : Nat → Int} {ids : Nat → List Int} {fs : Nat → List (Int → Option Int)} {com kept : Int → Int} {q : Int} {vs vw : Nat → Value} {G : Nat → Nat → Prop}
/-- Three cells of who acts are written. -/
theorem OneAt.chg3 (w : World) (wB a b c : Nat) (x y z : Value) : Chg w (((w.setCell ⟨wB, a, none⟩ x).setCell ⟨wB, b, none⟩ y).setCell ⟨wB, c, none⟩ z) (fun g => g = wB) :=
  (((Chg.refl w (fun g => g = wB)).setCell (p := ⟨wB, a, none⟩) (.inl rfl) _).setCell (p := ⟨wB, b, none⟩) (.inl rfl) _).setCell (p := ⟨wB, c, none⟩) (.inl rfl) _
theorem OneAt.set3 (H : w.heap[wB]? = some (.cells (wcells tops vs vw) 57 (0, 0))) (hk : k < 3) (t : Int) (a b : Value) :
    (((w.setCell ⟨wB, k * 3, none⟩ (.int .i64 t)).setCell ⟨wB, k * 3 + 1, none⟩ a).setCell ⟨wB, k * 3 + 2, none⟩ b).heap[wB]? = some (.cells (wcells (setN tops k t) (setN vs k a) (setN vw k b)) 57 (0, 0)) := by
  rw [blk_set (blk_set (blk_set H (k * 3) (.int .i64 t)) (k * 3 + 1) a) (k * 3 + 2) b, wcells_set hk]
/-- A transaction has begun. -/
theorem OneAt.fresh (H : OneAt w K cB kB sB wB tops ids fs com kept q vs vw G) (hk : k < 3) (t : Int) :
    Chg w ((((((w.alloc (.cells #[.int .i64 t] 3)).alloc (.map #[] 0)).alloc (.cells #[.map (some (w.heap.size + 1))] 65)).setCell ⟨wB, k * 3, none⟩ (.int .i64 t)).setCell ⟨wB, k * 3 + 1, none⟩ (.slice (some ⟨w.heap.size, 0, none⟩) 1 1)).setCell ⟨wB, k * 3 + 2, none⟩ (.slice (some ⟨w.heap.size + 1 + 1, 0, none⟩) 1 1)) K ∧
    ∃ vs' vw' G', OneAt ((((((w.alloc (.cells #[.int .i64 t] 3)).alloc (.map #[] 0)).alloc (.cells #[.map (some (w.heap.size + 1))] 65)).setCell ⟨wB, k * 3, none⟩ (.int .i64 t)).setCell ⟨wB, k * 3 + 1, none⟩ (.slice (some ⟨w.heap.size, 0, none⟩) 1 1)).setCell ⟨wB, k * 3 + 2, none⟩ (.slice (some ⟨w.heap.size + 1 + 1, 0, none⟩) 1 1))
      (ext K w ((((((w.alloc (.cells #[.int .i64 t] 3)).alloc (.map #[] 0)).alloc (.cells #[.map (some (w.heap.size + 1))] 65)).setCell ⟨wB, k * 3, none⟩ (.int .i64 t)).setCell ⟨wB, k * 3 + 1, none⟩ (.slice (some ⟨w.heap.size, 0, none⟩) 1 1)).setCell ⟨wB, k * 3 + 2, none⟩ (.slice (some ⟨w.heap.size + 1 + 1, 0, none⟩) 1 1)))
      cB kB sB wB (setN tops k t) (setN ids k [t]) (setN fs k [fun _ => none]) com kept q vs' vw' G' := by
  have hwl : wB < w.heap.size := blk_lt H.wb
  have e1 := blk_new w (.cells #[.int .i64 t] 3)
  have b1 : Below w.heap.size w (w.alloc (.cells #[.int .i64 t] 3)) := (Below.refl _ w).alloc (Nat.le_refl _) _
  have s1 : (w.alloc (.cells #[.int .i64 t] 3)).heap.size = w.heap.size + 1 := by simp
  generalize w.alloc (.cells #[.int .i64 t] 3) = w1 at e1 b1 s1 ⊢
  have e2 := MapOf.made w1 (Value.int .i64) (Value.int .i64) okI
  have b2 : Below w1.heap.size w1 (w1.alloc (.map #[] 0)) := (Below.refl _ w1).alloc (Nat.le_refl _) _
  have s2 : (w1.alloc (.map #[] 0)).heap.size = w.heap.size + 2 := by simp; omega
  rw [s1] at e2
  generalize w1.alloc (.map #[] 0) = w2 at e2 b2 s2 ⊢
  have e3 := blk_new w2 (.cells #[.map (some (w.heap.size + 1))] 65)
  have b3 : Below w2.heap.size w2 (w2.alloc (.cells #[.map (some (w.heap.size + 1))] 65)) := (Below.refl _ w2).alloc (Nat.le_refl _) _
  have s3 : (w2.alloc (.cells #[.map (some (w.heap.size + 1))] 65)).heap.size = w.heap.size + 3 := by simp; omega
  rw [s2] at e3
  generalize w2.alloc (.cells #[.map (some (w.heap.size + 1))] 65) = w3 at e3 b3 s3 ⊢
  have b03 : Below w.heap.size w w3 := (b1.trans (b2.mono (by omega))).trans (b3.mono (by omega))
  have f1 : w3.heap[w.heap.size]? = some (.cells #[.int .i64 t] 3 (0, 0)) := blk_below (blk_below e1 b2) b3
  have f2 : MapI w3 (w.heap.size + 1) (fun _ => none) := e2.chg (Chg.of_below b3 (fun _ => False)) (fun h => h)
  have fw := blk_below H.wb b03
  have c4 := OneAt.chg3 w3 wB (k * 3) (k * 3 + 1) (k * 3 + 2) (.int .i64 t) (.slice (some ⟨w.heap.size, 0, none⟩) 1 1) (.slice (some ⟨w.heap.size + 1 + 1, 0, none⟩) 1 1)
  have g4 := OneAt.set3 fw hk t (.slice (some ⟨w.heap.size, 0, none⟩) 1 1) (.slice (some ⟨w.heap.size + 1 + 1, 0, none⟩) 1 1)
  have s4 : (((w3.setCell ⟨wB, k * 3, none⟩ (.int .i64 t)).setCell ⟨wB, k * 3 + 1, none⟩ (.slice (some ⟨w.heap.size, 0, none⟩) 1 1)).setCell ⟨wB, k * 3 + 2, none⟩ (.slice (some ⟨w.heap.size + 1 + 1, 0, none⟩) 1 1)).heap.size = w3.heap.size := by simp [World.setCell]
  generalize ((w3.setCell ⟨wB, k * 3, none⟩ (.int .i64 t)).setCell ⟨wB, k * 3 + 1, none⟩ (.slice (some ⟨w.heap.size, 0, none⟩) 1 1)).setCell ⟨wB, k * 3 + 2, none⟩ (.slice (some ⟨w.heap.size + 1 + 1, 0, none⟩) 1 1) = w4 at c4 g4 s4 ⊢
  have hc : Chg w w4 (fun g => g = wB) := (Chg.of_below b03 (fun g => g = wB)).then_ c4 (fun _ _ h => h)
  refine ⟨hc.mono (fun g _ hg => by rw [hg]; exact H.four.1.2.2.2), setN vs k (.slice (some ⟨w.heap.size, 0, none⟩) 1 1), setN vw k (.slice (some ⟨w.heap.size + 1 + 1, 0, none⟩) 1 1),
    (fun j => if j = 2 * k then (fun g => g = w.heap.size) else if j = 2 * k + 1 then (fun g => g = w.heap.size + 2 ∨ g = w.heap.size + 1) else G j), ?_⟩
  refine H.upd (fun j => j = 2 * k ∨ j = 2 * k + 1) (hc.mono (fun g _ hg => .inr hg)) g4 (fun j hj => ?_) (fun j g hj hg => ?_) (fun j j' g hj hj' h1 h2 => ?_) (fun j hj => ?_) (fun j hj => ?_)
  · rw [if_neg (fun e => hj (.inl e)), if_neg (fun e => hj (.inr e))]
  · rcases hj with rfl | rfl
    · rw [if_pos rfl] at hg
      right
      omega
    · rw [if_neg (by omega), if_pos rfl] at hg
      right
      omega
  · rcases hj with rfl | rfl <;> rcases hj' with rfl | rfl
    · rfl
    · rw [if_pos rfl] at h1
      rw [if_neg (by omega), if_pos rfl] at h2
      omega
    · rw [if_pos rfl] at h2
      rw [if_neg (by omega), if_pos rfl] at h1
      omega
    · rfl
  · by_cases e : j = k
    · subst e
      rw [setN_same, setN_same, if_pos rfl]
      exact .inr ⟨.inl rfl, R_one1 (c4.obj f1 (by omega))⟩
    · rw [setN_other _ _ e, setN_other _ _ e]
      exact .inl ⟨by omega, rfl, rfl⟩
  · by_cases e : j = k
    · subst e
      rw [setN_same, setN_same, if_neg (by omega), if_pos rfl]
      exact .inr ⟨.inr rfl, MapsAre.one (c4.obj e3 (by omega)) (f2.chg c4 (by omega))⟩
    · rw [setN_other _ _ e, setN_other _ _ e]
      exact .inl ⟨by omega, rfl, rfl⟩
/-- A transaction has ended. -/
theorem OneAt.gone (H : OneAt w K cB kB sB wB tops ids fs com kept q vs vw G) (hk : k < 3) :
    Chg w (((w.setCell ⟨wB, k * 3, none⟩ (.int .i64 0)).setCell ⟨wB, k * 3 + 1, none⟩ (.slice none 0 0)).setCell ⟨wB, k * 3 + 2, none⟩ (.slice none 0 0)) K ∧
    ∃ vs' vw', OneAt (((w.setCell ⟨wB, k * 3, none⟩ (.int .i64 0)).setCell ⟨wB, k * 3 + 1, none⟩ (.slice none 0 0)).setCell ⟨wB, k * 3 + 2, none⟩ (.slice none 0 0))
      (ext K w (((w.setCell ⟨wB, k * 3, none⟩ (.int .i64 0)).setCell ⟨wB, k * 3 + 1, none⟩ (.slice none 0 0)).setCell ⟨wB, k * 3 + 2, none⟩ (.slice none 0 0)))
      cB kB sB wB (setN tops k 0) (setN ids k []) (setN fs k []) com kept q vs' vw' G := by
  have c4 := OneAt.chg3 w wB (k * 3) (k * 3 + 1) (k * 3 + 2) (.int .i64 0) (.slice none 0 0) (.slice none 0 0)
  have g4 := OneAt.set3 H.wb hk 0 (.slice none 0 0) (.slice none 0 0)
  generalize ((w.setCell ⟨wB, k * 3, none⟩ (.int .i64 0)).setCell ⟨wB, k * 3 + 1, none⟩ (.slice none 0 0)).setCell ⟨wB, k * 3 + 2, none⟩ (.slice none 0 0) = w4 at c4 g4 ⊢
  refine ⟨c4.mono (fun g _ hg => by rw [hg]; exact H.four.1.2.2.2), setN vs k (.slice none 0 0), setN vw k (.slice none 0 0), ?_⟩
  refine H.upd (fun j => j = 2 * k ∨ j = 2 * k + 1) (c4.mono (fun g _ hg => .inr hg)) g4 (fun _ _ => rfl) (fun j g _ hg => .inl hg) (fun j j' g _ _ h1 h2 => H.dis j j' g h1 h2) (fun j hj => ?_) (fun j hj => ?_)
  · by_cases e : j = k
    · subst e
      rw [setN_same, setN_same]
      exact .inr ⟨.inl rfl, Kd.R_nil _ _ _ _ _⟩
    · rw [setN_other _ _ e, setN_other _ _ e]
      exact .inl ⟨by omega, rfl, rfl⟩
  · by_cases e : j = k
    · subst e
      rw [setN_same, setN_same]
      exact .inr ⟨.inr rfl, MapsAre.nil _ _⟩
    · rw [setN_other _ _ e, setN_other _ _ e]
      exact .inl ⟨by omega, rfl, rfl⟩
end
/-! ### a transaction is committed: what it wrote, map by map -/
theorem zeroI64 (u : World) : (zeroValue 2).run Try.prog u = .ok (.int .i64 0) u := by kernel_rfl
theorem map_look {w : World} {m : Nat} {f : Int → Option Int} (h : MapI w m f) {r : Int} (hr : okI r) : (Instr.lookup 65 (.map (some m)) (.int .i64 r) true).run Try.prog w = .ok (match f r with
      | some v => .tuple #[.int .i64 v, .bool true]
      | none => .tuple #[.int .i64 0, .bool false]) w := by
  have := h.look keyInt Try.underlying65 (zeroI64 w) true hr
  rw [this]
  cases f r <;> rfl
/-- What is committed, behind j maps and r rows of the next one. -/
def cu (P : Tr) (com : Int → Int) (j r : Nat) : Int → Int := fun x => (lw (P.take (if x < (r : Int) then j + 1 else j)) x).getD (com x)
theorem lw_take {P : Tr} {j : Nat} (hj : j < P.length) (x : Int) : lw (P.take (j + 1)) x = match P[j].2 x with | some n => some n | none => lw (P.take j) x := by
  (rw [List.take_succ_eq_append_getElem hj, lw_snoc]) <;> (cases P[j].2 x <;> rfl)
theorem cu_step {P : Tr} {com : Int → Int} {j r : Nat} (hj : j < P.length) : cu P com j (r + 1) = match P[j].2 (r : Int) with | some n => setI (cu P com j r) (r : Int) n | none => cu P com j r := by
  funext x
  by_cases e : x = (r : Int)
  · have h1 : cu P com j (r + 1) x = (lw (P.take (j + 1)) x).getD (com x) := by unfold cu; rw [if_pos (by omega)]
    have h2 : cu P com j r x = (lw (P.take j) x).getD (com x) := by unfold cu; rw [if_neg (by omega)]
    rw [h1, lw_take hj, e]
    cases hp : P[j].2 (r : Int) with
    | none => simp only; rw [← e, h2]
    | some n => simp [setI]
  · have h1 : cu P com j (r + 1) x = cu P com j r x := by
      unfold cu
      by_cases h : x < (r : Int)
      · rw [if_pos h, if_pos (by omega)]
      · rw [if_neg h, if_neg (by omega)]
    rw [h1]
    cases P[j].2 (r : Int) with
    | none => rfl
    | some n => simp [setI, e]
theorem cells4_congr {f g : Int → Int} (h : ∀ x, 0 ≤ x → x < 4 → f x = g x) : cells4 f = cells4 g := by
  unfold cells4
  rw [h 0 (by omega) (by omega), h 1 (by omega) (by omega), h 2 (by omega) (by omega), h 3 (by omega) (by omega)]
theorem cu_next (P : Tr) (com : Int → Int) (j : Nat) : cells4 (cu P com j 4) = cells4 (cu P com (j + 1) 0) := cells4_congr (fun x h0 h4 => by
  unfold cu
  rw [if_pos (by omega), if_neg (by omega)])
theorem cu_first (P : Tr) (com : Int → Int) : cells4 com = cells4 (cu P com 0 0) := cells4_congr (fun x h0 h4 => by
  unfold cu
  rw [if_neg (by omega)]
  rfl)
theorem cu_last (P : Tr) (com : Int → Int) : cells4 (cu P com P.length 0) = cells4 (fun r => (lw P r).getD (com r)) := cells4_congr (fun x h0 h4 => by
  unfold cu
  rw [if_neg (by omega), List.take_length])
theorem cells4_set {f : Int → Int} {r : Nat} (hr : r < 4) (n : Int) : (cells4 f).setIfInBounds r (.int .i64 n) = cells4 (setI f r n) := by
  match r, hr with
  | 0, _ => rfl
  | 1, _ => rfl
  | 2, _ => rfl
  | 3, _ => rfl
/-- Between two acts. -/
structure Mid (w0 w : World) (b h x cB kB sB wB m : Nat) (A : AH) (T : TT) (who : Nat → Tr) (com kept : Int → Int) (q : Int) (K : Nat → Prop) (vs vw : Nat → Value) (G : Nat → Nat → Prop) : Prop where
  sg : SgW w0 w b h x A T m K w
  mem : OneAt w K cB kB sB wB (fun k => Tr.top (who k)) (fun k => Tr.ids (who k)) (fun k => Tr.maps (who k)) com kept q vs vw G
section
variable {w0 w w' : World} {b h x cB kB sB wB m : Nat} {A : AH} {T : TT} {who : Nat → Tr} {com com' kept : Int → Int} {q : Int} {K : Nat → Prop} {vs vw : Nat → Value} {G : Nat → Nat → Prop}
theorem Mid.bel (H : Mid w0 w b h x cB kB sB wB m A T who com kept q K vs vw G) : Below w0.heap.size w0 w := H.sg.bel
theorem Mid.congr (H : Mid w0 w b h x cB kB sB wB m A T who com kept q K vs vw G) (he : cells4 com = cells4 com') : Mid w0 w b h x cB kB sB wB m A T who com' kept q K vs vw G :=
  ⟨H.sg, ⟨by rw [← he]; exact H.mem.cb, H.mem.kb, H.mem.sb, H.mem.wb, H.mem.subs, H.mem.maps, H.mem.dis, H.mem.own, H.mem.four, H.mem.low⟩⟩
theorem Mid.set (H : Mid w0 w b h x cB kB sB wB m A T who com kept q K vs vw G) {r : Nat} (hr : r < 4) (n : Int) : Mid w0 (w.setCell ⟨cB, r, none⟩ (.int .i64 n)) b h x cB kB sB wB m A T who (setI com r n) kept q K vs vw G := by
  obtain ⟨⟨f1, f2, f3, f4⟩, n1, n2, n3, n4, n5, n6⟩ := H.mem.four
  have hc : Chg w (w.setCell ⟨cB, r, none⟩ (.int .i64 n)) (fun g => g = cB) := (Chg.refl w (fun g => g = cB)).setCell (p := ⟨cB, r, none⟩) (.inl rfl) _
  have hb := blk_set H.mem.cb r (.int .i64 n)
  rw [cells4_set hr] at hb
  have hz : (w.setCell ⟨cB, r, none⟩ (.int .i64 n)).heap.size = w.heap.size := by simp [World.setCell]
  generalize w.setCell ⟨cB, r, none⟩ (.int .i64 n) = w2 at hc hb hz ⊢
  exact ⟨(H.sg.grow (hc.mono (fun g _ hg => by rw [hg]; exact f1))).mono (fun g hg => .inl hg), H.mem.upd4 (hc.mono (fun g _ hg => .inl hg)) hz hb (hc.obj H.mem.kb (by omega)) (hc.obj H.mem.sb (by omega))⟩
/-- A map of who acts, of what it wrote. -/
theorem Mid.elem (H : Mid w0 w b h x cB kB sB wB m A T who com kept q K vs vw G) {k j : Nat} (hk : k < 3) (hj : j < (who k).length) : ∃ g cap mb, w.cell? ⟨wB, k * 3 + 2, none⟩ = some (.slice (some ⟨g, 0, none⟩) (who k).length cap) ∧ (who k).length ≤ cap ∧ w.cell? ⟨g, j, none⟩ = some (.map (some mb)) ∧ MapI w mb (who k)[j].2 := by
  obtain ⟨g, cap, mb, e1, e2, e3, _, e5, _⟩ := (H.mem.maps k hk).elem (j := j) (by rw [Tr.maps_len]; exact hj)
  rw [Tr.maps_len] at e1 e2
  exact ⟨g, cap, mb, by rw [(H.mem.cwho hk).2.2, e1], e2, e3, by simpa [Tr.maps] using e5⟩
theorem Mid.len (H : Mid w0 w b h x cB kB sB wB m A T who com kept q K vs vw G) {k : Nat} (hk : k < 3) : ∃ a c, w.cell? ⟨wB, k * 3 + 2, none⟩ = some (.slice a (who k).length c) := by
  obtain ⟨a, c, e⟩ := (H.mem.maps k hk).slice
  rw [Tr.maps_len] at e
  exact ⟨a, c, by rw [(H.mem.cwho hk).2.2, e]⟩
end
end Go.Proofs.Ytljahhgankcalaa

/-! The frame of SightOne. Printed by genone.py. -/
namespace Go.Proofs.Ytljahhgankcalaa
open Go.RowKit Go.Maps Go.MapKept Go.WideMaps Go.Shelf
open Go.Proofs.YtljahhgankcalaaW.PrintWords Go.Proofs.YtljahhgankcalaaW.PrintLast Go.Proofs.YtljahhgankcalaaW.PrintMore
set_option linter.unusedVariables false
set_option linter.unusedSimpArgs false

theorem arr_tab {a : Array Value} {n : Nat} (h : a.size = n) : a = ((List.range n).map (fun i => a.getD i undef)).toArray := by
  apply Array.ext
  · simp [h]
  · intro i h1 h2
    simp [h1]
set_option maxRecDepth 100000 in
theorem tab_lit (u : Nat → Value) : ((List.range 390).map u).toArray = #[u 0, u 1, u 2, u 3, u 4, u 5, u 6, u 7, u 8, u 9, u 10, u 11, u 12, u 13, u 14, u 15, u 16, u 17, u 18, u 19, u 20, u 21, u 22, u 23, u 24, u 25, u 26, u 27, u 28, u 29, u 30, u 31, u 32, u 33, u 34, u 35, u 36, u 37, u 38, u 39, u 40, u 41, u 42, u 43, u 44, u 45, u 46, u 47, u 48, u 49, u 50, u 51, u 52, u 53, u 54, u 55, u 56, u 57, u 58, u 59, u 60, u 61, u 62, u 63, u 64, u 65, u 66, u 67, u 68, u 69, u 70, u 71, u 72, u 73, u 74, u 75, u 76, u 77, u 78, u 79, u 80, u 81, u 82, u 83, u 84, u 85, u 86, u 87, u 88, u 89, u 90, u 91, u 92, u 93, u 94, u 95, u 96, u 97, u 98, u 99, u 100, u 101, u 102, u 103, u 104, u 105, u 106, u 107, u 108, u 109, u 110, u 111, u 112, u 113, u 114, u 115, u 116, u 117, u 118, u 119, u 120, u 121, u 122, u 123, u 124, u 125, u 126, u 127, u 128, u 129, u 130, u 131, u 132, u 133, u 134, u 135, u 136, u 137, u 138, u 139, u 140, u 141, u 142, u 143, u 144, u 145, u 146, u 147, u 148, u 149, u 150, u 151, u 152, u 153, u 154, u 155, u 156, u 157, u 158, u 159, u 160, u 161, u 162, u 163, u 164, u 165, u 166, u 167, u 168, u 169, u 170, u 171, u 172, u 173, u 174, u 175, u 176, u 177, u 178, u 179, u 180, u 181, u 182, u 183, u 184, u 185, u 186, u 187, u 188, u 189, u 190, u 191, u 192, u 193, u 194, u 195, u 196, u 197, u 198, u 199, u 200, u 201, u 202, u 203, u 204, u 205, u 206, u 207, u 208, u 209, u 210, u 211, u 212, u 213, u 214, u 215, u 216, u 217, u 218, u 219, u 220, u 221, u 222, u 223, u 224, u 225, u 226, u 227, u 228, u 229, u 230, u 231, u 232, u 233, u 234, u 235, u 236, u 237, u 238, u 239, u 240, u 241, u 242, u 243, u 244, u 245, u 246, u 247, u 248, u 249, u 250, u 251, u 252, u 253, u 254, u 255, u 256, u 257, u 258, u 259, u 260, u 261, u 262, u 263, u 264, u 265, u 266, u 267, u 268, u 269, u 270, u 271, u 272, u 273, u 274, u 275, u 276, u 277, u 278, u 279, u 280, u 281, u 282, u 283, u 284, u 285, u 286, u 287, u 288, u 289, u 290, u 291, u 292, u 293, u 294, u 295, u 296, u 297, u 298, u 299, u 300, u 301, u 302, u 303, u 304, u 305, u 306, u 307, u 308, u 309, u 310, u 311, u 312, u 313, u 314, u 315, u 316, u 317, u 318, u 319, u 320, u 321, u 322, u 323, u 324, u 325, u 326, u 327, u 328, u 329, u 330, u 331, u 332, u 333, u 334, u 335, u 336, u 337, u 338, u 339, u 340, u 341, u 342, u 343, u 344, u 345, u 346, u 347, u 348, u 349, u 350, u 351, u 352, u 353, u 354, u 355, u 356, u 357, u 358, u 359, u 360, u 361, u 362, u 363, u 364, u 365, u 366, u 367, u 368, u 369, u 370, u 371, u 372, u 373, u 374, u 375, u 376, u 377, u 378, u 379, u 380, u 381, u 382, u 383, u 384, u 385, u 386, u 387, u 388, u 389] := by kernel_rfl
structure Fr (a : Act) (L wh : Value) (b cB kB sB wB : Nat) (tk : Bool) (i : Nat) : Prop where
  size : a.tmps.size = 390
  defers : a.defers = []
  e0 : a.tmps.getD 0 undef = L
  e1 : a.tmps.getD 1 undef = wh
  e4 : a.tmps.getD 4 undef = .bool false
  e5 : a.tmps.getD 5 undef = .pointer (some ⟨b, 0, none⟩)
  e6 : a.tmps.getD 6 undef = .pointer (some ⟨cB, 0, none⟩)
  e7 : a.tmps.getD 7 undef = .pointer (some ⟨kB, 0, none⟩)
  e8 : a.tmps.getD 8 undef = .pointer (some ⟨sB, 0, none⟩)
  e9 : a.tmps.getD 9 undef = .bool tk
  e10 : a.tmps.getD 10 undef = .pointer (some ⟨wB, 0, none⟩)
  e11 : a.tmps.getD 11 undef = .int .i64 i
set_option maxRecDepth 100000 in
set_option maxHeartbeats 4000000 in
theorem Fr.open {a : Act} {L wh : Value} {b cB kB sB wB i : Nat} {tk : Bool} (H : Fr a L wh b cB kB sB wB tk i) : ∃ u : Nat → Value, (∀ i, u i = a.tmps.getD i undef) ∧ a = { tmps := #[L, wh, u 2, u 3, .bool false, .pointer (some ⟨b, 0, none⟩), .pointer (some ⟨cB, 0, none⟩), .pointer (some ⟨kB, 0, none⟩), .pointer (some ⟨sB, 0, none⟩), .bool tk, .pointer (some ⟨wB, 0, none⟩), .int .i64 i, u 12, u 13, u 14, u 15, u 16, u 17, u 18, u 19, u 20, u 21, u 22, u 23, u 24, u 25, u 26, u 27, u 28, u 29, u 30, u 31, u 32, u 33, u 34, u 35, u 36, u 37, u 38, u 39, u 40, u 41, u 42, u 43, u 44, u 45, u 46, u 47, u 48, u 49, u 50, u 51, u 52, u 53, u 54, u 55, u 56, u 57, u 58, u 59, u 60, u 61, u 62, u 63, u 64, u 65, u 66, u 67, u 68, u 69, u 70, u 71, u 72, u 73, u 74, u 75, u 76, u 77, u 78, u 79, u 80, u 81, u 82, u 83, u 84, u 85, u 86, u 87, u 88, u 89, u 90, u 91, u 92, u 93, u 94, u 95, u 96, u 97, u 98, u 99, u 100, u 101, u 102, u 103, u 104, u 105, u 106, u 107, u 108, u 109, u 110, u 111, u 112, u 113, u 114, u 115, u 116, u 117, u 118, u 119, u 120, u 121, u 122, u 123, u 124, u 125, u 126, u 127, u 128, u 129, u 130, u 131, u 132, u 133, u 134, u 135, u 136, u 137, u 138, u 139, u 140, u 141, u 142, u 143, u 144, u 145, u 146, u 147, u 148, u 149, u 150, u 151, u 152, u 153, u 154, u 155, u 156, u 157, u 158, u 159, u 160, u 161, u 162, u 163, u 164, u 165, u 166, u 167, u 168, u 169, u 170, u 171, u 172, u 173, u 174, u 175, u 176, u 177, u 178, u 179, u 180, u 181, u 182, u 183, u 184, u 185, u 186, u 187, u 188, u 189, u 190, u 191, u 192, u 193, u 194, u 195, u 196, u 197, u 198, u 199, u 200, u 201, u 202, u 203, u 204, u 205, u 206, u 207, u 208, u 209, u 210, u 211, u 212, u 213, u 214, u 215, u 216, u 217, u 218, u 219, u 220, u 221, u 222, u 223, u 224, u 225, u 226, u 227, u 228, u 229, u 230, u 231, u 232, u 233, u 234, u 235, u 236, u 237, u 238, u 239, u 240, u 241, u 242, u 243, u 244, u 245, u 246, u 247, u 248, u 249, u 250, u 251, u 252, u 253, u 254, u 255, u 256, u 257, u 258, u 259, u 260, u 261, u 262, u 263, u 264, u 265, u 266, u 267, u 268, u 269, u 270, u 271, u 272, u 273, u 274, u 275, u 276, u 277, u 278, u 279, u 280, u 281, u 282, u 283, u 284, u 285, u 286, u 287, u 288, u 289, u 290, u 291, u 292, u 293, u 294, u 295, u 296, u 297, u 298, u 299, u 300, u 301, u 302, u 303, u 304, u 305, u 306, u 307, u 308, u 309, u 310, u 311, u 312, u 313, u 314, u 315, u 316, u 317, u 318, u 319, u 320, u 321, u 322, u 323, u 324, u 325, u 326, u 327, u 328, u 329, u 330, u 331, u 332, u 333, u 334, u 335, u 336, u 337, u 338, u 339, u 340, u 341, u 342, u 343, u 344, u 345, u 346, u 347, u 348, u 349, u 350, u 351, u 352, u 353, u 354, u 355, u 356, u 357, u 358, u 359, u 360, u 361, u 362, u 363, u 364, u 365, u 366, u 367, u 368, u 369, u 370, u 371, u 372, u 373, u 374, u 375, u 376, u 377, u 378, u 379, u 380, u 381, u 382, u 383, u 384, u 385, u 386, u 387, u 388, u 389], defers := [] } := by
  obtain ⟨tmps, defers⟩ := a
  obtain ⟨hs, hd, e0, e1, e4, e5, e6, e7, e8, e9, e10, e11⟩ := H
  have h1 := (arr_tab hs).trans (tab_lit _)
  obtain ⟨u, hu⟩ : ∃ u : Nat → Value, (fun i => tmps.getD i undef) = u := ⟨_, rfl⟩
  have hu' : ∀ i, u i = tmps.getD i undef := fun i => by rw [← hu]
  refine ⟨u, hu', ?_⟩
  dsimp only at hd h1 e0 e1 e4 e5 e6 e7 e8 e9 e10 e11
  simp only [← hu'] at h1 e0 e1 e4 e5 e6 e7 e8 e9 e10 e11
  simp only [e0, e1, e4, e5, e6, e7, e8, e9, e10, e11] at h1
  rw [hd, h1]
end Go.Proofs.Ytljahhgankcalaa

/-! SightOne: the pieces of its code, each with a walk of its own. -/
namespace Go.Proofs.Ytljahhgankcalaa
open Go.RowKit Go.Maps Go.MapKept Go.WideMaps Go.Shelf
open Go.Proofs.YtljahhgankcalaaW.PrintWords Go.Proofs.YtljahhgankcalaaW.PrintLast Go.Proofs.YtljahhgankcalaaW.PrintMore
set_option linter.unusedVariables false
set_option linter.unusedSimpArgs false

/-- The block n of a piece of code. -/
def subBlk (n : Nat) : Code → Option Code
  | .block m c => if m = n then some (.block m c) else subBlk n c
  | .seq a b => match subBlk n a with
    | some c => some c
    | none => subBlk n b
  | .cond _ a b => match subBlk n a with
    | some c => some c
    | none => subBlk n b
  | .loop c => subBlk n c
  | .scope c => subBlk n c
  | _ => none
noncomputable def blk (n : Nat) : Code := ((Try.f6.body.bind (subBlk n)).getD .skip)
/-- What the first goal of a cut asks. -/
def Cuts (c : Code) (R : Act → World → Prop) (a : Act) (w : World) : Prop :=
  ∀ (J K' : Act → World → Prop), (∀ a' w', R a' w' → J a' w') → (∀ a' w', Met J a' w' → K' a' w') → c.wp Try.prog (Exit.then K' (fun _ _ _ => False)) a w
theorem Cuts.use {c : Code} {R : Act → World → Prop} {a : Act} {w : World} {Q : Exit → Act → World → Prop} (h : Cuts c R a w) (rest : ∀ a' w', R a' w' → Q .normal a' w') : c.wp Try.prog Q a w := by
  refine wp_mono (h R R (fun _ _ q => q) (fun _ _ q => q)) ?_
  intro e a' w' hq
  cases e with
  | normal => exact rest _ _ hq
  | exit id => exact hq.elim
  | goto l => exact hq.elim
  | ret => exact hq.elim
  | panic ch => exact hq.elim
  | outgrown => exact hq.elim
/-- The frame within a round: who acts. -/
structure FrA (a : Act) (L wh : Value) (b cB kB sB wB : Nat) (tk : Bool) (i k : Nat) : Prop where
  fr : Fr a L wh b cB kB sB wB tk i
  e12 : a.tmps.getD 12 undef = .pointer (some ⟨wB, k * 3, none⟩)
end Go.Proofs.Ytljahhgankcalaa

/-! SightOne: memory: a savepoint is made, or one goes back to it; a row is written down. -/
namespace Go.Proofs.Ytljahhgankcalaa
open Go.RowKit Go.Maps Go.MapKept Go.WideMaps Go.Shelf
open Go.Proofs.YtljahhgankcalaaW.PrintWords Go.Proofs.YtljahhgankcalaaW.PrintLast Go.Proofs.YtljahhgankcalaaW.PrintMore
set_option linter.unusedVariables false
set_option linter.unusedSimpArgs false

section
variable {w w' w1 : World} {K K' : Nat → Prop} {cB kB sB wB k : Nat} {tops : Nat → Int} {ids : Nat → List Int} {fs : Nat → List (Int → Option Int)} {com kept : Int → Int} {q : Int} {vs vw : Nat → Value} {G : Nat → Nat → Prop}
theorem OneAt.congr (H : OneAt w K cB kB sB wB tops ids fs com kept q vs vw G) (h1 : ∀ g, K g → K' g) (h2 : ∀ g, K' g → g < w.heap.size) : OneAt w K' cB kB sB wB tops ids fs com kept q vs vw G := by
  obtain ⟨a1, a2, a3, a4, a5, a6, a7, a8, ⟨⟨f1, f2, f3, f4⟩, n⟩, _⟩ := H
  exact ⟨a1, a2, a3, a4, a5, a6, a7, fun i g hg => ⟨h1 g (a8 i g hg).1, (a8 i g hg).2⟩, ⟨⟨h1 _ f1, h1 _ f2, h1 _ f3, h1 _ f4⟩, n⟩, h2⟩
theorem set1 (H : w.heap[wB]? = some (.cells (wcells tops vs vw) 57 (0, 0))) (hk : k < 3) (a : Value) :
    (w.setCell ⟨wB, k * 3 + 1, none⟩ a).heap[wB]? = some (.cells (wcells tops (setN vs k a) vw) 57 (0, 0)) := by rw [blk_set H, wcells_set1 hk]
theorem set2 (H : w.heap[wB]? = some (.cells (wcells tops vs vw) 57 (0, 0))) (hk : k < 3) (a : Value) :
    (w.setCell ⟨wB, k * 3 + 2, none⟩ a).heap[wB]? = some (.cells (wcells tops vs (setN vw k a)) 57 (0, 0)) := by rw [blk_set H, wcells_set2 hk]
theorem wb_cells (H : w.heap[wB]? = some (.cells (wcells tops vs vw) 57 (0, 0))) (hk : k < 3) : w.cell? ⟨wB, k * 3, none⟩ = some (.int .i64 (tops k)) ∧ w.cell? ⟨wB, k * 3 + 1, none⟩ = some (vs k) ∧ w.cell? ⟨wB, k * 3 + 2, none⟩ = some (vw k) := by
  rw [blk_cell H, blk_cell H, blk_cell H]
  match k, hk with
  | 0, _ => exact ⟨rfl, rfl, rfl⟩
  | 1, _ => exact ⟨rfl, rfl, rfl⟩
  | 2, _ => exact ⟨rfl, rfl, rfl⟩
theorem setN_id {α : Type} {f : Nat → α} {k : Nat} {x : α} (h : f k = x) : setN f k x = f := by
  funext i
  unfold setN
  split
  · rename_i e; rw [e, h]
  · rfl
theorem ext_ext {w0 w1 w2 : World} {K : Nat → Prop} (h1 : w0.heap.size ≤ w1.heap.size) (h2 : w1.heap.size ≤ w2.heap.size) (g : Nat) (h : ext (ext K w0 w1) w1 w2 g) : ext K w0 w2 g := by
  rcases h with (h | h) | h
  · exact .inl h
  · exact .inr ⟨h.1, by omega⟩
  · exact .inr ⟨by omega, h.2⟩
theorem chg_two {w0 w1 w2 : World} {K : Nat → Prop} (h1 : Chg w0 w1 K) (h2 : Chg w1 w2 (ext K w0 w1)) : Chg w0 w2 K := h1.trans h2 (fun _ _ h => h) (fun g hg h => by
  rcases h with h | h
  · exact h
  · omega)
theorem ids_bound (H : OneAt w K cB kB sB wB tops ids fs com kept q vs vw G) {K0 : Nat → Prop} {w0 : World} (hl : ∀ g, K0 g → g < w0.heap.size) (hs : w0.heap.size ≤ w.heap.size) (g : Nat) (h : ext K0 w0 w g) : g < w.heap.size := by
  rcases h with h | h
  · have := hl g h; omega
  · exact h.2
/-- A savepoint's ID is written behind the others. -/
theorem OneAt.save1 (H : OneAt w K cB kB sB wB tops ids fs com kept q vs vw G) (hk : k < 3) {l : List Int} {v1 : Value}
    (ho : Kd.R kInt 3 w1 0 (fun g => G (2 * k) g ∨ w.heap.size ≤ g) v1 l) (hg : Chg w w1 (fun g => some g = (vs k).ownBlock)) :
    Chg w (w1.setCell ⟨wB, k * 3 + 1, none⟩ v1) K ∧ ∃ G', OneAt (w1.setCell ⟨wB, k * 3 + 1, none⟩ v1) (ext K w (w1.setCell ⟨wB, k * 3 + 1, none⟩ v1)) cB kB sB wB tops (setN ids k l) fs com kept q (setN vs k v1) vw G' := by
  have hob : ∀ g, some g = (vs k).ownBlock → G (2 * k) g := fun g h => (H.subs k hk).1 g h.symm
  have hwl : wB < w.heap.size := blk_lt H.wb
  have hwG : ∀ i, ¬ G i wB := fun i h => (H.own i _ h).2.2.2.2 rfl
  have fw := hg.obj H.wb (fun h => hwG _ (hob _ h))
  have g4 := set1 fw hk v1
  have hs4 : (w1.setCell ⟨wB, k * 3 + 1, none⟩ v1).heap.size = w1.heap.size := by simp [World.setCell]
  have c4 : Chg w1 (w1.setCell ⟨wB, k * 3 + 1, none⟩ v1) (fun g => g = wB) := (Chg.refl w1 (fun g => g = wB)).setCell (p := ⟨wB, k * 3 + 1, none⟩) (.inl rfl) _
  have hob2 := Kd.R_bound ho
  have hmv : ∀ g, g < w1.heap.size → g ≠ wB → (w1.setCell ⟨wB, k * 3 + 1, none⟩ v1).heap[g]? = w1.heap[g]? := fun g h1 h2 => c4.block g h1 h2
  generalize w1.setCell ⟨wB, k * 3 + 1, none⟩ v1 = w4 at g4 hs4 c4 hmv ⊢
  have hc : Chg w w4 (fun g => (∃ i, i = 2 * k ∧ G i g) ∨ g = wB) := hg.trans c4 (fun g _ h => .inl ⟨_, rfl, hob g h⟩) (fun g _ h => .inr h)
  refine ⟨hc.mono (fun g _ hg => ?_), (fun j => if j = 2 * k then (fun g => (G (2 * k) g ∨ w.heap.size ≤ g) ∧ g < w1.heap.size) else G j), ?_⟩
  · rcases hg with ⟨i, _, h⟩ | rfl
    · exact (H.own i g h).1
    · exact H.four.1.2.2.2
  · refine H.upd (fun j => j = 2 * k) hc g4 (fun j hj => if_neg hj) (fun j g hj hg => ?_) (fun j j' g hj hj' _ _ => hj.trans hj'.symm) (fun j hj => ?_) (fun j hj => ?_)
    · rw [if_pos hj] at hg
      rcases hg with ⟨hg | hg, hl⟩
      · exact .inl (by rw [hj]; exact hg)
      · exact .inr ⟨hg, by omega⟩
    · by_cases e : j = k
      · subst e
        rw [setN_same, setN_same, if_pos rfl]
        refine .inr ⟨rfl, Kd.R_mono (Kd.R_move hob2 (fun g hg => hmv g hg.2.2.1 (fun e => ?_))) (fun g hg => ⟨hg.1, hg.2.2.1⟩)⟩
        rcases hg.1 with h | h
        · exact hwG _ (e ▸ h)
        · omega
      · rw [setN_other _ _ e, setN_other _ _ e]
        exact .inl ⟨by omega, rfl, rfl⟩
    · exact .inl ⟨by omega, rfl, rfl⟩
/-- A new map of what it writes. -/
theorem OneAt.save2 (H : OneAt w K cB kB sB wB tops ids fs com kept q vs vw G) (hk : k < 3) {ms : List Nat} {v1 : Value} (hn : ms.length = (fs k).length) (hd : ms.Nodup)
    (hms : ∀ (j : Nat) (f : Int → Option Int), (fs k)[j]? = some f → ∃ m, ms[j]? = some m ∧ G (2 * k + 1) m ∧ MapI w m f)
    (ho : Kd.R kMp 65 w1 0 (fun g => G (2 * k + 1) g ∨ w.heap.size ≤ g) v1 (ms ++ [w.heap.size])) (hm : MapI w1 w.heap.size (fun _ => none)) (hnc : ∀ g, some g = (vw k).ownBlock → ∃ cs t fr, w.heap[g]? = some (.cells cs t fr)) (hg : Chg w w1 (fun g => some g = (vw k).ownBlock)) :
    Chg w (w1.setCell ⟨wB, k * 3 + 2, none⟩ v1) K ∧ ∃ G', OneAt (w1.setCell ⟨wB, k * 3 + 2, none⟩ v1) (ext K w (w1.setCell ⟨wB, k * 3 + 2, none⟩ v1)) cB kB sB wB tops ids (setN fs k (fs k ++ [fun _ => none])) com kept q vs (setN vw k v1) G' := by
  have hob : ∀ g, some g = (vw k).ownBlock → G (2 * k + 1) g := fun g h => by
    obtain ⟨ms', h1, _⟩ := H.maps k hk
    exact h1.1 g h.symm
  have hwl : wB < w.heap.size := blk_lt H.wb
  have hwG : ∀ i, ¬ G i wB := fun i h => (H.own i _ h).2.2.2.2 rfl
  have fw := hg.obj H.wb (fun h => hwG _ (hob _ h))
  have g4 := set2 fw hk v1
  have hs4 : (w1.setCell ⟨wB, k * 3 + 2, none⟩ v1).heap.size = w1.heap.size := by simp [World.setCell]
  have c4 : Chg w1 (w1.setCell ⟨wB, k * 3 + 2, none⟩ v1) (fun g => g = wB) := (Chg.refl w1 (fun g => g = wB)).setCell (p := ⟨wB, k * 3 + 2, none⟩) (.inl rfl) _
  have hob2 := Kd.R_bound ho
  have hml := hm.lt
  have hmv : ∀ g, g < w1.heap.size → g ≠ wB → (w1.setCell ⟨wB, k * 3 + 2, none⟩ v1).heap[g]? = w1.heap[g]? := fun g h1 h2 => c4.block g h1 h2
  have hsz := hg.size
  generalize w1.setCell ⟨wB, k * 3 + 2, none⟩ v1 = w4 at g4 hs4 c4 hmv ⊢
  have hc : Chg w w4 (fun g => (∃ i, i = 2 * k + 1 ∧ G i g) ∨ g = wB) := hg.trans c4 (fun g _ h => .inl ⟨_, rfl, hob g h⟩) (fun g _ h => .inr h)
  refine ⟨hc.mono (fun g _ hg => ?_), (fun j => if j = 2 * k + 1 then (fun g => (G (2 * k + 1) g ∨ w.heap.size ≤ g) ∧ g < w1.heap.size) else G j), ?_⟩
  · rcases hg with ⟨i, _, h⟩ | rfl
    · exact (H.own i g h).1
    · exact H.four.1.2.2.2
  · refine H.upd (fun j => j = 2 * k + 1) hc g4 (fun j hj => if_neg hj) (fun j g hj hg => ?_) (fun j j' g hj hj' _ _ => hj.trans hj'.symm) (fun j hj => ?_) (fun j hj => ?_)
    · rw [if_pos hj] at hg
      rcases hg with ⟨hg | hg, hl⟩
      · exact .inl (by rw [hj]; exact hg)
      · exact .inr ⟨hg, by omega⟩
    · exact .inl ⟨by omega, rfl, rfl⟩
    · by_cases e : j = k
      · subst e
        rw [setN_same, setN_same, if_pos rfl]
        refine .inr ⟨rfl, ms ++ [w.heap.size], Kd.R_mono (Kd.R_move hob2 (fun g hg => hmv g hg.2.2.1 (fun e => ?_))) (fun g hg => ⟨hg.1, hg.2.2.1⟩), by simp [hn], ?_, fun i f hi => ?_⟩
        · rcases hg.1 with h | h
          · exact hwG _ (e ▸ h)
          · omega
        · rw [List.nodup_append]
          refine ⟨hd, by simp, fun a ha c hcc => ?_⟩
          rw [List.mem_singleton] at hcc
          subst hcc
          obtain ⟨i, hi, hia⟩ := List.getElem_of_mem ha
          obtain ⟨m, e1, e2, e3⟩ := hms i _ (List.getElem?_eq_getElem (by omega))
          rw [List.getElem?_eq_getElem hi, hia] at e1
          have := e3.lt
          injection e1 with e1
          omega
        · by_cases hil : i < (fs j).length
          · rw [List.getElem?_append_left hil] at hi
            obtain ⟨m, e1, e2, e3⟩ := hms i f hi
            refine ⟨m, ?_, ⟨.inl e2, by have := e3.lt; omega⟩, (e3.chg hg (fun h => ?_)).move (hmv m (by have := e3.lt; omega) (fun e => hwG _ (e ▸ e2)))⟩
            · rw [List.getElem?_append_left (by omega)]
              exact e1
            · obtain ⟨es, cl, hmm⟩ := e3.isMap
              obtain ⟨cs, t, fr, hcc⟩ := hnc m h
              rw [hmm] at hcc
              cases hcc
          · have hie : i = (fs j).length := by
              have := (List.getElem?_eq_some_iff.1 hi).1
              simp at this
              omega
            subst hie
            rw [List.getElem?_append_right (Nat.le_refl _), Nat.sub_self] at hi
            have hi2 : (fun _ => none) = f := by simpa using hi
            subst hi2
            refine ⟨w.heap.size, ?_, ⟨.inr (Nat.le_refl _), hml⟩, hm.move (hmv _ hml (by omega))⟩
            rw [← hn, List.getElem?_append_right (Nat.le_refl _), Nat.sub_self]
            rfl
      · rw [setN_other _ _ e, setN_other _ _ e]
        exact .inl ⟨by omega, rfl, rfl⟩
end
end Go.Proofs.Ytljahhgankcalaa

/-! SightOne: a transaction is committed: what it wrote is written down, map by map, row by row. -/
namespace Go.Proofs.Ytljahhgankcalaa
open Go.RowKit Go.Maps Go.MapKept Go.WideMaps Go.Shelf
open Go.Proofs.YtljahhgankcalaaW.PrintWords Go.Proofs.YtljahhgankcalaaW.PrintLast Go.Proofs.YtljahhgankcalaaW.PrintMore
set_option linter.unusedVariables false
set_option linter.unusedSimpArgs false

section
variable {w2 wr : World} {b h x cB kB sB wB m : Nat} {A : AH} {T : TT} {who : Nat → Tr} {com kept : Int → Int} {q : Int} {K : Nat → Prop} {vs vw : Nat → Value} {G : Nat → Nat → Prop} {L wh : Value} {tk : Bool} {i k j : Nat} {a : Act}
set_option maxRecDepth 100000 in
set_option maxHeartbeats 4000000 in
/-- One map. -/
theorem commit_rows (hk : k < 3) (hj : j < (who k).length) (HF : FrA a L wh b cB kB sB wB tk i k) (e15 : a.tmps.getD 15 undef = .int .i64 j) (e16 : a.tmps.getD 16 undef = .int .i64 0)
    (HS : Mid w2 wr b h x cB kB sB wB m A T who (cu (who k) com j 0) kept q K vs vw G) :
    Cuts (blk 5) (fun a' w' => FrA a' L wh b cB kB sB wB tk i k ∧ a'.tmps.getD 15 undef = .int .i64 j ∧ Mid w2 w' b h x cB kB sB wB m A T who (cu (who k) com j 4) kept q K vs vw G) a wr := by
  intro J K' hJ hK
  obtain ⟨u, hu, ha⟩ := HF.fr.open
  have u12 := (hu 12).trans HF.e12
  have u15 := (hu 15).trans e15
  have u16 := (hu 16).trans e16
  subst ha
  rw [u12, u15, u16]
  clear hu HF e15 e16 u12 u15 u16
  conv => arg 2; whnf
  go_wp2
  refine wp_loop_ghost_k (fun n a' w' => ∃ r, n + r = 4 ∧ FrA a' L wh b cB kB sB wB tk i k ∧ a'.tmps.getD 15 undef = .int .i64 j ∧ a'.tmps.getD 16 undef = .int .i64 r ∧ Mid w2 w' b h x cB kB sB wB m A T who (cu (who k) com j r) kept q K vs vw G) 4 ⟨0, rfl, ⟨⟨rfl, rfl, rfl, rfl, rfl, rfl, rfl, rfl, rfl, rfl, rfl, rfl⟩, rfl⟩, rfl, rfl, HS⟩ ?_
  clear HS
  rintro gk a' wr ⟨r, hn, HF, e15, e16, HS⟩
  obtain ⟨u, hu, ha⟩ := HF.fr.open
  have u12 := (hu 12).trans HF.e12
  have u15 := (hu 15).trans e15
  have u16 := (hu 16).trans e16
  subst ha
  rw [u12, u15, u16]
  clear hu HF e15 e16 u12 u15 u16
  intro J2 K2 hJ2 hK2
  obtain ⟨g, cap, mb, y2, hcap, y3, hmp⟩ := HS.elem hk hj
  have hcB := HS.mem.cb
  replace HS := Aside0.mk HS
  replace hn := Aside0.mk hn
  by_cases hlt : r < 4
  · have d1 : decide ((r : Int) < 4) = true := decide_eq_true (by omega)
    have d2 : (0 : Int) ≤ (j : Int) := by omega
    have d3 : (j : Int) < ((who k).length : Int) := by omega
    have d4 : ((who k).length : Int) ≤ (cap : Int) := by omega
    have hlk := map_look hmp (r := r) (okI_of (by omega) (by omega))
    clear hmp
    cases hf : (who k)[j].2 (r : Int) with
    | none =>
      rw [hf] at hlk
      go_wp2
      refine Handed.intro (gk - 1) (by have := hn.out; omega) (hJ2 _ _ _ ⟨r + 1, by have := hn.out; omega, ⟨⟨rfl, rfl, rfl, rfl, rfl, rfl, rfl, rfl, rfl, rfl, rfl, rfl⟩, rfl⟩, rfl, congrArg (Value.int .i64) (by omega), ?_⟩)
      have := cu_step (com := com) (r := r) hj
      rw [hf] at this
      rw [this]
      exact HS.out
    | some v =>
      rw [hf] at hlk
      have fz := blk_frozen hcB r
      have hcc := HS.out.mem.ccom hlt
      have hst := HS.out.set hlt v
      have hcu := cu_step (com := com) (r := r) hj
      rw [hf] at hcu
      replace hst := Aside0.mk hst
      replace hcu := Aside0.mk hcu
      have e0 : (0 : Int) ≤ (r : Int) := by omega
      have e1 : (r : Int) < 4 := by omega
      clear hf hcB
      go_wp2
      refine Handed.intro (gk - 1) (by have := hn.out; omega) (hJ2 _ _ _ ⟨r + 1, by have := hn.out; omega, ⟨⟨rfl, rfl, rfl, rfl, rfl, rfl, rfl, rfl, rfl, rfl, rfl, rfl⟩, rfl⟩, rfl, congrArg (Value.int .i64) (by omega), ?_⟩)
      rw [hcu.out]
      exact hst.out
  · have d1 : decide ((r : Int) < 4) = false := decide_eq_false (by omega)
    clear hmp
    go_wp2
    obtain rfl : r = 4 := by have := hn.out; omega
    exact Met.intro (hJ _ _ ⟨⟨⟨rfl, rfl, rfl, rfl, rfl, rfl, rfl, rfl, rfl, rfl, rfl, rfl⟩, rfl⟩, rfl, HS.out⟩)
set_option maxRecDepth 100000 in
set_option maxHeartbeats 4000000 in
/-- All maps. -/
theorem commit_maps (hk : k < 3) (hl : (who k).length < 1000) (HF : FrA a L wh b cB kB sB wB tk i k) (e15 : a.tmps.getD 15 undef = .int .i64 0)
    (HS : Mid w2 wr b h x cB kB sB wB m A T who com kept q K vs vw G) :
    Cuts (blk 3) (fun a' w' => FrA a' L wh b cB kB sB wB tk i k ∧ Mid w2 w' b h x cB kB sB wB m A T who (fun r => (lw (who k) r).getD (com r)) kept q K vs vw G) a wr := by
  intro J K' hJ hK
  obtain ⟨u, hu, ha⟩ := HF.fr.open
  have u12 := (hu 12).trans HF.e12
  have u15 := (hu 15).trans e15
  subst ha
  rw [u12, u15]
  clear hu HF e15 u12 u15
  conv => arg 2; whnf
  go_wp2
  refine wp_loop_ghost_k (fun n a' w' => ∃ j, n + j = (who k).length ∧ FrA a' L wh b cB kB sB wB tk i k ∧ a'.tmps.getD 15 undef = .int .i64 j ∧ Mid w2 w' b h x cB kB sB wB m A T who (cu (who k) com j 0) kept q K vs vw G) (who k).length ⟨0, by omega, ⟨⟨rfl, rfl, rfl, rfl, rfl, rfl, rfl, rfl, rfl, rfl, rfl, rfl⟩, rfl⟩, rfl, HS.congr (cu_first _ _)⟩ ?_
  clear HS
  rintro gk a' wr ⟨j, hn, HF, e15, HS⟩
  obtain ⟨u, hu, ha⟩ := HF.fr.open
  have u12 := (hu 12).trans HF.e12
  have u15 := (hu 15).trans e15
  subst ha
  rw [u12, u15]
  clear hu HF e15 u12 u15
  intro J2 K2 hJ2 hK2
  obtain ⟨a0, c0, y2⟩ := HS.len hk
  replace HS := Aside0.mk HS
  replace hn := Aside0.mk hn
  have HL := Aside0.mk hl
  clear hl
  by_cases hlt : j < (who k).length
  · have d1 : decide (j < (who k).length) = true := decide_eq_true hlt
    have d2 : decide ((j : Int) < ((who k).length : Int)) = true := decide_eq_true (by omega)
    have hlt2 := Aside0.mk hlt
    clear hlt
    go_upto_block 5 with (fail)
    refine Cuts.use (c := blk 5) (commit_rows (L := L) (wh := wh) (tk := tk) (i := i) hk hlt2.out ?f1 ?f2 ?f3 HS.out) ?rest
    case f1 => exact ⟨⟨rfl, rfl, rfl, rfl, rfl, rfl, rfl, rfl, rfl, rfl, rfl, rfl⟩, rfl⟩
    case f2 => rfl
    case f3 => rfl
    case rest =>
      rintro a' w' ⟨HF, e15, HS⟩
      obtain ⟨u, hu, ha⟩ := HF.fr.open
      have u12 := (hu 12).trans HF.e12
      have u15 := (hu 15).trans e15
      subst ha
      rw [u12, u15]
      clear hu HF e15 u12 u15
      have hj1 : (j : Int) < 1000 := by have := HL.out; have := hlt2.out; omega
      go_wp2
      refine Handed.intro (gk - 1) (by have := hn.out; have := hlt2.out; omega) (hJ2 _ _ _ ⟨j + 1, by have := hn.out; have := hlt2.out; omega, ⟨⟨rfl, rfl, rfl, rfl, rfl, rfl, rfl, rfl, rfl, rfl, rfl, rfl⟩, rfl⟩, congrArg (Value.int .i64) (by omega), HS.congr (cu_next _ _ _)⟩)
  · have d1 : decide (j < (who k).length) = false := decide_eq_false hlt
    have d2 : decide ((j : Int) < ((who k).length : Int)) = false := decide_eq_false (by omega)
    replace hlt := Aside0.mk hlt
    go_wp2
    obtain rfl : j = (who k).length := by have := hn.out; have := hlt.out; omega
    exact Met.intro (hJ _ _ ⟨⟨⟨rfl, rfl, rfl, rfl, rfl, rfl, rfl, rfl, rfl, rfl, rfl, rfl⟩, rfl⟩, HS.out.congr (cu_last _ _)⟩)
end
end Go.Proofs.Ytljahhgankcalaa

/-! SightOne: the acts: one begins, is committed, is taken back. -/
namespace Go.Proofs.Ytljahhgankcalaa
open Go.RowKit Go.Maps Go.MapKept Go.WideMaps Go.Shelf
open Go.Proofs.YtljahhgankcalaaW.PrintWords Go.Proofs.YtljahhgankcalaaW.PrintLast Go.Proofs.YtljahhgankcalaaW.PrintMore
set_option linter.unusedVariables false
set_option linter.unusedSimpArgs false

/-- What an act leaves. -/
def ActR (w2 : World) (L wh : Value) (b h x cB kB sB wB i : Nat) (tk : Bool) (kept : Int → Int) (q : Int) (a' : Act) (w' : World) : Prop :=
  Fr a' L wh b cB kB sB wB tk i ∧ ∃ A T who com K vs vw G, OneSt w2 w' b h x cB kB sB wB (i + 1) tk A T who com kept q K vs vw G
section
variable {w2 wr : World} {b h x cB kB sB wB m : Nat} {A : AH} {T : TT} {who : Nat → Tr} {com kept : Int → Int} {q : Int} {K : Nat → Prop} {vs vw : Nat → Value} {G : Nat → Nat → Prop} {wh : Value} {tk : Bool} {i k j n c0 : Nat} {a : Act} {ad : Addr}
set_option maxRecDepth 100000 in
set_option maxHeartbeats 4000000 in
theorem act_begin (hk : k < 3) (hi : i < n) (hn : n ≤ 80) (HF : FrA a (.slice (some ad) n c0) wh b cB kB sB wB tk i k) (hw : who k = [])
    (HS : OneSt w2 wr b h x cB kB sB wB i tk A T who com kept q K vs vw G) : Cuts (blk 2) (ActR w2 (.slice (some ad) n c0) wh b h x cB kB sB wB i tk kept q) a wr := by
  intro J K' hJ hK
  obtain ⟨u, hu, ha⟩ := HF.fr.open
  have u12 := (hu 12).trans HF.e12
  subst ha
  rw [u12]
  clear hu HF u12
  conv => arg 2; whnf
  obtain ⟨y0, y1, y2⟩ := HS.mem.cwho hk
  have z1 := HS.sg.wr.c1
  rw [hw] at y0
  have y0' : wr.cell? ⟨wB, k * 3, none⟩ = some (.int .i64 0) := y0
  clear y0
  have hbg := HS.sg.begin (by omega) 0
  obtain ⟨e1, e2, e3⟩ := HS.one.begin (k := k) (p := 0) (.inl ⟨hw, rfl⟩)
  rw [e1] at hbg
  have HE := Aside0.mk (And.intro e2 (And.intro e3 hw))
  have HK := Aside0.mk hk
  replace HS := Aside0.mk HS
  clear e1 e2 e3 hw hk
  go_wp2_with fail
  refine hbg.mono ?_
  clear hbg y0' y1 y2 z1
  rintro e w7 ⟨rfl, H7⟩
  have HM7 := HS.out.mem.next H7
  have hB3 : Below w7.heap.size w7 (((w7.alloc (.cells #[.int .i64 (T.begin 0).1] 3)).alloc (.map #[] 0)).alloc (.cells #[.map (some (w7.heap.size + 1))] 65)) := (((Below.refl _ w7).alloc (Nat.le_refl _) _).alloc (by simp) _).alloc (by simp; omega) _
  have HM8 := HM7.below hB3
  obtain ⟨y0, y1, y2⟩ := HM8.cwho HK.out
  have fw := fun j => blk_frozen HM8.wb j
  replace H7 := Aside0.mk (And.intro H7 HM7)
  clear HM7 HM8 hB3
  have hmm := @run_makeMap Try.prog
  go_wp2_with fail
  obtain ⟨hc8, vs8, vw8, G8, M8⟩ := H7.out.2.fresh HK.out (T.begin 0).1
  have hE := HE.out.1
  rw [HE.out.2.2] at hE
  exact Met.intro (hJ _ _ ⟨⟨rfl, rfl, rfl, rfl, rfl, rfl, rfl, rfl, rfl, rfl, rfl, rfl⟩, _, _, _, _, _, _, _, _, HS.out.next H7.out.1 (by omega) hc8 (P := [((T.begin 0).1, fun _ => none)]) M8 hE (fun ht => HE.out.2.1 _ _ (HS.out.snap ht)) (by simp)⟩)
set_option maxRecDepth 100000 in
set_option maxHeartbeats 4000000 in
theorem act_commit (hk : k < 3) (hi : i < n) (hn : n ≤ 80) (HF : FrA a (.slice (some ad) n c0) wh b cB kB sB wB tk i k) (hw : who k ≠ [])
    (x1 : wr.cell? ⟨(ad.add (i * 4)).block, (ad.add (i * 4)).off + 1, none⟩ = some (.int .u8 0))
    (HS : OneSt w2 wr b h x cB kB sB wB i tk A T who com kept q K vs vw G) : Cuts (blk 2) (ActR w2 (.slice (some ad) n c0) wh b h x cB kB sB wB i tk kept q) a wr := by
  intro J K' hJ hK
  obtain ⟨u, hu, ha⟩ := HF.fr.open
  have u12 := (hu 12).trans HF.e12
  subst ha
  rw [u12]
  clear hu HF u12
  conv => arg 2; whnf
  obtain ⟨y0, y1, y2⟩ := HS.mem.cwho hk
  have z1 := HS.sg.wr.c1
  have d2 : (0 : Int) ≤ (i : Int) := by omega
  have d3 : (i : Int) < (n : Int) := by omega
  obtain ⟨p, R, hP⟩ : ∃ p R, who k = p :: R := by
    cases hP : who k with
    | nil => exact absurd hP hw
    | cons p R => exact ⟨p, R, rfl⟩
  obtain ⟨o1, o2, o3⟩ := HS.one.commit hP
  have hcm := HS.sg.drew.commit (by omega) p.1
  rw [o1] at hcm
  have hpos := HS.one.tp.pos (k := k) (a := p.1) (by rw [hP]; simp [Tr.ids])
  have t3 : (p.1 == 0) = false := beq_eq_false_iff_ne.2 (by omega)
  have hnx : ∀ W, SgW w2 W b h x A (T.commit p.1).2 (2 * i + 1) K wr → Mid w2 W b h x cB kB sB wB (2 * i + 1) A (T.commit p.1).2 who com kept q K vs vw G := fun W hW => ⟨hW.base, HS.mem.next hW⟩
  replace hnx := Aside0.mk hnx
  have t2 : (Tr.top (who k)) = p.1 := by rw [hP]; rfl
  rw [t2] at y0
  have HO := Aside0.mk (And.intro o2 (And.intro o3 (And.intro hn (HS.len k))))
  replace hP := Aside0.mk hP
  have HK := Aside0.mk hk
  replace HS := Aside0.mk HS
  clear o1 o2 o3 t2 hpos hk hw hn hi
  go_upto_region 29 with (fail)
  go_region_held3 (fun w' => w'.cell? ⟨b, 1, none⟩ = some (.pointer (some ⟨x, 0, none⟩)) ∧ w'.cell? ⟨wB, k * 3, none⟩ = some (.int .i64 p.1)) (go_keep) ((go_at_call 24; refine hcm.mono ?_; clear hcm; rintro e w7 ⟨rfl, H7⟩; obtain ⟨H8, hH8⟩ : ∃ H8 : Aside0 (Mid w2 w7 b h x cB kB sB wB (2 * i + 1) A (T.commit p.1).2 who com kept q K vs vw G), True := ⟨⟨hnx.out _ H7⟩, trivial⟩; have r0 := H8.out.sg.wr.c1; have r1 := (H8.out.mem.cwho HK.out).1; rw [show Tr.top (who k) = p.1 from by rw [hP.out]; rfl] at r1; clear H7 hH8))
  rename_i H8 _ _
  clear y0 y1 y2 z1 x1 r0 r1
  go_upto_block 3 with (fail)
  refine Cuts.use (c := blk 3) (commit_maps (L := .slice (some ad) n c0) (wh := wh) (tk := tk) (i := i) HK.out ?f0 ?f1 ?f2 H8.out) ?rest
  case f0 => have := HO.out.2.2.1; have := HO.out.2.2.2; omega
  case f1 => exact ⟨⟨rfl, rfl, rfl, rfl, rfl, rfl, rfl, rfl, rfl, rfl, rfl, rfl⟩, rfl⟩
  case f2 => rfl
  rintro a' wr ⟨HF, M8⟩
  obtain ⟨u, hu, ha⟩ := HF.fr.open
  have u12 := (hu 12).trans HF.e12
  subst ha
  rw [u12]
  clear hu HF u12
  obtain ⟨y0, y1, y2⟩ := M8.mem.cwho HK.out
  have fw := fun j => blk_frozen M8.mem.wb j
  replace M8 := Aside0.mk M8
  go_wp2
  obtain ⟨hc8, vs8, vw8, M9⟩ := M8.out.mem.gone HK.out
  exact Met.intro (hJ _ _ ⟨⟨rfl, rfl, rfl, rfl, rfl, rfl, rfl, rfl, rfl, rfl, rfl, rfl⟩, _, _, _, _, _, _, _, _, HS.out.next M8.out.sg (by omega) hc8 (P := []) M9 HO.out.1 (fun ht => HO.out.2.1 _ _ (HS.out.snap ht)) (by simp)⟩)
set_option maxRecDepth 100000 in
set_option maxHeartbeats 4000000 in
theorem act_abort (hk : k < 3) (hi : i < n) (hn : n ≤ 80) (HF : FrA a (.slice (some ad) n c0) wh b cB kB sB wB tk i k) (hw : who k ≠ [])
    (x1 : wr.cell? ⟨(ad.add (i * 4)).block, (ad.add (i * 4)).off + 1, none⟩ = some (.int .u8 1))
    (HS : OneSt w2 wr b h x cB kB sB wB i tk A T who com kept q K vs vw G) : Cuts (blk 2) (ActR w2 (.slice (some ad) n c0) wh b h x cB kB sB wB i tk kept q) a wr := by
  intro J K' hJ hK
  obtain ⟨u, hu, ha⟩ := HF.fr.open
  have u12 := (hu 12).trans HF.e12
  subst ha
  rw [u12]
  clear hu HF u12
  conv => arg 2; whnf
  obtain ⟨y0, y1, y2⟩ := HS.mem.cwho hk
  have z1 := HS.sg.wr.c1
  have d2 : (0 : Int) ≤ (i : Int) := by omega
  have d3 : (i : Int) < (n : Int) := by omega
  obtain ⟨p, R, hP⟩ : ∃ p R, who k = p :: R := by
    cases hP : who k with
    | nil => exact absurd hP hw
    | cons p R => exact ⟨p, R, rfl⟩
  obtain ⟨o1, o2, o3⟩ := HS.one.abort (Q := []) hP
  have hcm := HS.sg.drew.abort (by omega) p.1
  rw [o1] at hcm
  have hpos := HS.one.tp.pos (k := k) (a := p.1) (by rw [hP]; simp [Tr.ids])
  have t3 : (p.1 == 0) = false := beq_eq_false_iff_ne.2 (by omega)
  have hnx : ∀ W, SgW w2 W b h x A (T.abort p.1).2 (2 * i + 1) K wr → Mid w2 W b h x cB kB sB wB (2 * i + 1) A (T.abort p.1).2 who com kept q K vs vw G := fun W hW => ⟨hW.base, HS.mem.next hW⟩
  replace hnx := Aside0.mk hnx
  have t2 : (Tr.top (who k)) = p.1 := by rw [hP]; rfl
  rw [t2] at y0
  have HO := Aside0.mk (And.intro o2 (And.intro o3 (And.intro hn (HS.len k))))
  replace hP := Aside0.mk hP
  have HK := Aside0.mk hk
  replace HS := Aside0.mk HS
  clear o1 o2 o3 t2 hpos hk hw hn hi
  go_upto_region 42 with (fail)
  go_region_held3 (fun w' => w'.cell? ⟨b, 1, none⟩ = some (.pointer (some ⟨x, 0, none⟩)) ∧ w'.cell? ⟨wB, k * 3, none⟩ = some (.int .i64 p.1)) (go_keep) ((go_at_call 25; refine hcm.mono ?_; clear hcm; rintro e w7 ⟨rfl, H7⟩; obtain ⟨H8, hH8⟩ : ∃ H8 : Aside0 (Mid w2 w7 b h x cB kB sB wB (2 * i + 1) A (T.abort p.1).2 who com kept q K vs vw G), True := ⟨⟨hnx.out _ H7⟩, trivial⟩; have r0 := H8.out.sg.wr.c1; have r1 := (H8.out.mem.cwho HK.out).1; rw [show Tr.top (who k) = p.1 from by rw [hP.out]; rfl] at r1; clear H7 hH8))
  rename_i H8 _ _
  clear y0 y1 y2 z1 x1 r0 r1
  obtain ⟨y0, y1, y2⟩ := H8.out.mem.cwho HK.out
  have fw := fun j => blk_frozen H8.out.mem.wb j
  go_wp2
  obtain ⟨hc8, vs8, vw8, M9⟩ := H8.out.mem.gone HK.out
  exact Met.intro (hJ _ _ ⟨⟨rfl, rfl, rfl, rfl, rfl, rfl, rfl, rfl, rfl, rfl, rfl, rfl⟩, _, _, _, _, _, _, _, _, HS.out.next H8.out.sg (by omega) hc8 (P := []) M9 HO.out.1 (fun ht => HO.out.2.1 _ _ (HS.out.snap ht)) (by simp)⟩)
end
end Go.Proofs.Ytljahhgankcalaa

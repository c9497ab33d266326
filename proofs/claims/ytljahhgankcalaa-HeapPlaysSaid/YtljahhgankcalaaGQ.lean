import Derived.Test.YtljahhgankcalaaGP
import Derived.Test.YtljahhgankcalaaG3
import Derived.Test.YtljahhgankcalaaHtbM
import Derived.Test.YtljahhgankcalaaPfM
import Derived.Test.YtljahhgankcalaaG5
/-! The document's heap and the heap: what they have in common, kept by each step. -/
namespace Go.Proofs.Ytljahhgankcalaa
open Go.RowKit Go.Maps Go.MapKept Go.WideMaps
open Go.Proofs.YtljahhgankcalaaW.PrintWords Go.Proofs.YtljahhgankcalaaW.PrintLast Go.Proofs.YtljahhgankcalaaW.PrintMore
open PHeapThere
set_option linter.unusedVariables false
set_option linter.unusedSimpArgs false

structure Rel (A : AH) (R : RH) : Prop where
  pl : Pl A R.L
  given : ∀ no, R.most no = A.given no
  rows : ∀ no id, selS no id R.L = A.rows (no, id)
theorem Rel.empty : Rel AH.empty ⟨[], []⟩ := ⟨⟨fun p hp => (by cases hp), fun i hi => absurd ((AH.there_iff _ _).1 hi) (by simp [AH.empty]; omega), by simp, by simp [AH.empty]⟩, fun no => rfl, fun no id => rfl⟩
section
variable {A : AH} {R : RH}
theorem Rel.there (H : Rel A R) (s : Int) : (0 ≤ R.find s) ↔ A.there s = true := by
  constructor
  · intro h
    rcases R.find_cases s with ⟨i, hi, h1, h2⟩ | ⟨h1, h2⟩
    · obtain ⟨j, a, b, _⟩ := H.pl.there R.L[i] (List.getElem_mem hi)
      rw [← h2, a]; exact b
    · omega
  · intro h
    obtain ⟨i, e, _, _⟩ := A.there_cases _ h
    rw [e] at h
    obtain ⟨p, hp, e2⟩ := H.pl.all i h
    rcases R.find_cases s with ⟨i, hi, h1, h2⟩ | ⟨h1, h2⟩
    · omega
    · exact absurd (by rw [e2, e]) (h2 p hp)
theorem Rel.at? (H : Rel A R) (s : Int) : R.at? s < R.L.length ↔ A.there s = true := by
  rw [← H.there s, RH.find_at]
  by_cases h : R.at? s < R.L.length
  · rw [if_pos h]
    exact ⟨fun _ => by omega, fun _ => h⟩
  · rw [if_neg h]
    exact ⟨fun h1 => absurd h1 h, fun h1 => by omega⟩
theorem at?_slot {R : RH} {s : Int} (h : R.at? s < R.L.length) : R.L[R.at? s].slot = s := by
  have h2 : R.L.findIdx (fun p => p.slot == s) < R.L.length := h
  have := List.findIdx_getElem (w := h2)
  exact eq_of_beq this
theorem Rel.least (H : Rel A R) (hA : A.Ok) : R.find (A.least : Int) = -1 ∧ ∀ j : Nat, j < A.least → 0 ≤ R.find j := by
  constructor
  · have h := A.least_not
    rcases R.find_cases (A.least : Int) with ⟨i, hi, h1, h2⟩ | ⟨h1, h2⟩
    · have := (H.there (A.least : Int)).1 (by omega)
      rw [h] at this
      cases this
    · exact h1
  · intro j hj
    rw [H.there]
    have h1 := A.below_least j hj
    have h2 := A.least_le
    have hjl : j < A.slots.length := by omega
    refine (A.there_iff _).2 ⟨by omega, by omega, ?_⟩
    rw [A.at_nat hjl]
    rw [List.getD_eq_getElem?_getD, List.getElem?_eq_getElem hjl] at h1
    have := hA.pos A.slots[j] (List.getElem_mem hjl)
    have h3 : A.slots[j].f0 ≠ 0 := h1
    omega
theorem RH.most_give (R : RH) (no id y : Int) : (R.give no id).most y = if y = no then mx id (R.most no) else R.most y := by
  unfold RH.give RH.most
  simp only
  rw [List.find?_append]
  by_cases h : y = no
  · subst h
    rw [if_pos rfl]
    have : (R.G.filter (fun g => g.1 != y)).find? (fun g => g.1 == y) = none := List.find?_eq_none.2 (fun g hg => by
      have := (List.mem_filter.1 hg).2
      simpa using this)
    rw [this]
    simp
  · rw [if_neg h]
    have h2 : [(no, mx id (((R.G.find? fun g => g.1 == no).map (·.2)).getD 0))].find? (fun g => g.1 == y) = none := by simp; omega
    rw [h2]
    have h3 : (R.G.filter (fun g => g.1 != no)).find? (fun g => g.1 == y) = R.G.find? (fun g => g.1 == y) := by
      rw [List.find?_filter]
      congr 1
      funext g
      by_cases e : g.1 = y
      · rw [e]; simp [h]
      · have : (g.1 == y) = false := beq_eq_false_iff_ne.2 e
        simp [this]
    rw [h3]
    cases R.G.find? (fun g => g.1 == y) <;> rfl
theorem mx_comm' (a b : Int) : mx a b = mx b a := by
  unfold mx
  split <;> split <;> omega
theorem Rel.put (H : Rel A R) (hA : A.Ok) (t : ATup) (ht : 0 < t.f0) (A7 : Option Addr) (c7 : Nat) : Rel (A.put t) (R.put A.least t A7 c7) := by
  refine ⟨(H.pl.put hA t ht A7 c7).1, fun no => ?_, fun no id => ?_⟩
  · unfold RH.put
    rw [RH.most_give]
    show (if no = t.f0 then mx t.f1 (R.most t.f0) else R.most no) = (if no = t.f0 then mx (A.given t.f0) t.f1 else A.given no)
    rw [H.given, H.given, mx_comm']
  · show selS no id (R.L ++ [⟨A.least, t, A7, c7⟩]) = (if ((no, id) : Int × Int) = (t.f0, t.f1) then A.rows (t.f0, t.f1) ++ [(A.least : Int)] else A.rows (no, id))
    unfold selS
    rw [List.filter_append, List.map_append]
    have hr := H.rows no id
    unfold selS at hr
    rw [hr]
    by_cases e : ((no, id) : Int × Int) = (t.f0, t.f1)
    · rw [if_pos e]
      cases e
      simp
    · rw [if_neg e]
      have : (t.f0 == no && t.f1 == id) = false := by
        rw [Bool.and_eq_false_iff]
        by_cases h1 : t.f0 = no
        · exact .inr (beq_eq_false_iff_ne.2 (fun h2 => e (by rw [h1, h2])))
        · exact .inl (beq_eq_false_iff_ne.2 h1)
      simp [this]
theorem Rel.next (H : Rel A R) (no : Int) : (R.next no).1 = (A.next no).1 ∧ Rel (A.next no).2 (R.next no).2 := by
  unfold RH.next AH.next
  rw [H.given]
  by_cases h : no < 1 ∨ 2147483647 < no ∨ A.given no = 2147483647
  · rw [if_pos h, if_pos h]
    exact ⟨rfl, H⟩
  · rw [if_neg h, if_neg h]
    refine ⟨rfl, ⟨H.pl.congr (fun _ => rfl) (fun _ => rfl) rfl, fun y => ?_, H.rows⟩⟩
    rw [RH.most_give, H.given, H.given]
    show _ = (if y = no then A.given no + 1 else A.given y)
    by_cases e : y = no
    · rw [if_pos e, if_pos e]
      unfold mx
      split <;> omega
    · rw [if_neg e, if_neg e]
end
end Go.Proofs.Ytljahhgankcalaa

/-! The relation, kept by Kill and Free; what is read of both is the same. -/
namespace Go.Proofs.Ytljahhgankcalaa
open Go.RowKit Go.Maps Go.MapKept Go.WideMaps
open Go.Proofs.YtljahhgankcalaaW.PrintWords Go.Proofs.YtljahhgankcalaaW.PrintLast Go.Proofs.YtljahhgankcalaaW.PrintMore
open PHeapThere
set_option linter.unusedVariables false
set_option linter.unusedSimpArgs false

theorem set_map : ∀ (l : List RP) (i : Nat) (h : i < l.length) (f : RP → RP), (l.map (·.slot)).Nodup → l.set i (f l[i]) = l.map (fun p => if p.slot = l[i].slot then f p else p)
  | [], i, h, _, _ => absurd h (by simp)
  | p :: l, 0, h, f, hn => by
    rw [List.map_cons, List.nodup_cons] at hn
    show f p :: l = (if p.slot = p.slot then f p else p) :: l.map (fun q => if q.slot = p.slot then f q else q)
    rw [if_pos rfl]
    congr 1
    have : l.map (fun q => if q.slot = p.slot then f q else q) = l.map id := List.map_congr_left (fun q hq => if_neg (fun e => hn.1 (List.mem_map.2 ⟨q, hq, e⟩)))
    rw [this, List.map_id]
  | p :: l, i + 1, h, f, hn => by
    rw [List.map_cons, List.nodup_cons] at hn
    have hi : i < l.length := by simpa using h
    show p :: l.set i (f l[i]) = (if p.slot = l[i].slot then f p else p) :: l.map (fun q => if q.slot = l[i].slot then f q else q)
    rw [if_neg (fun e => hn.1 (List.mem_map.2 ⟨l[i], List.getElem_mem hi, e.symm⟩)), set_map l i hi f hn.2]
theorem erase_filter : ∀ (l : List RP) (i : Nat) (h : i < l.length), (l.map (·.slot)).Nodup → l.eraseIdx i = l.filter (fun p => !(p.slot == l[i].slot))
  | [], i, h, _ => absurd h (by simp)
  | p :: l, 0, h, hn => by
    rw [List.map_cons, List.nodup_cons] at hn
    show l = (p :: l).filter (fun q => !(q.slot == p.slot))
    rw [List.filter_cons, if_neg (by simp)]
    exact (List.filter_eq_self.2 (fun q hq => by
      have : q.slot ≠ p.slot := fun e => hn.1 (List.mem_map.2 ⟨q, hq, e⟩)
      simpa using this)).symm
  | p :: l, i + 1, h, hn => by
    rw [List.map_cons, List.nodup_cons] at hn
    have hi : i < l.length := by simpa using h
    show p :: l.eraseIdx i = (p :: l).filter (fun q => !(q.slot == l[i].slot))
    have : p.slot ≠ l[i].slot := fun e => hn.1 (List.mem_map.2 ⟨l[i], List.getElem_mem hi, e.symm⟩)
    rw [List.filter_cons, if_pos (by simpa using this), erase_filter l i hi hn.2]
section
variable {A : AH} {R : RH}
theorem Rel.kill (H : Rel A R) (s a b : Int) : (R.kill s a b).1 = (A.kill s a b).1 ∧ Rel (A.kill s a b).2 (R.kill s a b).2 := by
  unfold RH.kill
  by_cases h : R.at? s < R.L.length
  · rw [dif_pos h]
    have hth := (H.at? s).1 h
    have hk : A.kill s a b = (0, { A with slots := A.slots.set s.toNat { A.at s with f4 := a, f5 := b } }) := by unfold AH.kill; rw [if_pos hth]
    have hs := at?_slot h
    have he := set_map R.L (R.at? s) h (fun p => p.kill a b) H.pl.nodup
    rw [hs] at he
    have hp := H.pl.kill (s := ⟨1, zTup, s, a, b⟩) rfl
    rw [map_kill rfl] at hp
    refine ⟨by rw [hk], ?_, fun no => ?_, fun no id => ?_⟩
    · show Pl _ (R.L.set (R.at? s) (R.L[R.at? s].kill a b))
      rw [he]
      exact hp
    · rw [hk]; exact H.given no
    · rw [hk]
      show selS no id (R.L.set (R.at? s) (R.L[R.at? s].kill a b)) = A.rows (no, id)
      rw [he, ← H.rows no id]
      unfold selS
      rw [List.filter_map, List.map_map]
      have e1 : ((fun p : RP => p.t.f0 == no && p.t.f1 == id) ∘ fun p : RP => if p.slot = s then p.kill a b else p) = fun p : RP => p.t.f0 == no && p.t.f1 == id := by
        funext p
        show ((if p.slot = s then p.kill a b else p).t.f0 == no && (if p.slot = s then p.kill a b else p).t.f1 == id) = _
        split <;> rfl
      have e2 : ((fun p : RP => p.slot) ∘ fun p : RP => if p.slot = s then p.kill a b else p) = fun p : RP => p.slot := by
        funext p
        show (if p.slot = s then p.kill a b else p).slot = _
        split <;> rfl
      rw [e1, e2]
  · rw [dif_neg h]
    have hth : A.there s = false := by
      cases e : A.there s with
      | false => rfl
      | true => exact absurd ((H.at? s).2 e) h
    rw [show A.kill s a b = (1, A) from by unfold AH.kill; rw [hth]; rfl]
    exact ⟨rfl, H⟩
theorem Rel.free (H : Rel A R) (hA : A.Ok) (s : Int) : (R.free s).1 = (A.free s).1 ∧ Rel (A.free s).2 (R.free s).2 := by
  unfold RH.free
  by_cases h : R.at? s < R.L.length
  · rw [if_pos h]
    have hth := (H.at? s).1 h
    have hs := at?_slot h
    have he := erase_filter R.L (R.at? s) h H.pl.nodup
    rw [hs] at he
    have hp := H.pl.free (s := ⟨2, zTup, s, 0, 0⟩) rfl
    rw [map_free rfl] at hp
    have h1 : (A.free s).1 = 0 := by unfold AH.free; rw [hth]; rfl
    refine ⟨by rw [h1], ?_, fun no => ?_, fun no id => ?_⟩
    · show Pl _ (R.L.eraseIdx (R.at? s))
      rw [he]
      exact hp
    · show R.most no = _
      rw [H.given]
      unfold AH.free
      rw [hth]
      rfl
    · show selS no id (R.L.eraseIdx (R.at? s)) = _
      rw [he]
      have hrows : (A.free s).2.rows (no, id) = if ((no, id) : Int × Int) = ((A.at s).f0, (A.at s).f1) then (A.rows (no, id)).filter (fun x => !(x == s)) else A.rows (no, id) := by
        unfold AH.free
        rw [hth]
        rfl
      rw [hrows, ← H.rows no id]
      have hcomm : selS no id (R.L.filter fun p => !(p.slot == s)) = (selS no id R.L).filter (fun x => !(x == s)) := by
        unfold selS
        rw [List.filter_map, List.filter_filter, List.filter_filter]
        congr 1
        congr 1
        funext p
        exact Bool.and_comm _ _
      rw [hcomm]
      by_cases e : ((no, id) : Int × Int) = ((A.at s).f0, (A.at s).f1)
      · rw [if_pos e]
      · rw [if_neg e]
        refine List.filter_eq_self.2 (fun x hx => ?_)
        rw [H.rows no id] at hx
        have := ((hA.rows (no, id) x).1 hx).2
        have hne : x ≠ s := fun e2 => e (by rw [← e2]; exact this.symm)
        simpa using hne
  · rw [if_neg h]
    have hth : A.there s = false := by
      cases e : A.there s with
      | false => rfl
      | true => exact absurd ((H.at? s).2 e) h
    rw [show A.free s = (1, A) from by unfold AH.free; rw [hth]; rfl]
    exact ⟨rfl, H⟩
theorem Rel.has (H : Rel A R) (no id : Int) : A.rows (no, id) ≠ [] ↔ ∃ p ∈ R.L, p.t.f0 = no ∧ p.t.f1 = id := by
  rw [← H.rows no id]
  unfold selS
  constructor
  · intro h
    obtain ⟨x, hx⟩ := List.exists_mem_of_ne_nil _ h
    obtain ⟨p, hp, _⟩ := List.mem_map.1 hx
    have := List.mem_filter.1 hp
    obtain ⟨h1, h2⟩ := this
    simp at h2
    exact ⟨p, h1, h2.1, h2.2⟩
  · rintro ⟨p, hp, h1, h2⟩ e
    have : p.slot ∈ (R.L.filter (fun p => p.t.f0 == no && p.t.f1 == id)).map (·.slot) := List.mem_map.2 ⟨p, List.mem_filter.2 ⟨hp, by simp [h1, h2]⟩, rfl⟩
    rw [e] at this
    cases this
theorem Rel.tabs (H : Rel A R) {l l' : List Int} (h1 : A.IsTabs l) (h2 : l'.Pairwise (· < ·)) (h3 : ∀ n, n ∈ l' ↔ n ∈ selT R.L) : A.IsTabs l' := ⟨h2, fun x => by
  rw [h3]
  unfold selT
  constructor
  · intro h
    obtain ⟨p, hp, rfl⟩ := List.mem_map.1 h
    exact ⟨p.t.f1, (H.has _ _).2 ⟨p, hp, rfl, rfl⟩⟩
  · rintro ⟨id, h⟩
    obtain ⟨p, hp, h1, _⟩ := (H.has _ _).1 h
    exact List.mem_map.2 ⟨p, hp, h1⟩⟩
theorem Rel.ids (H : Rel A R) {no : Int} {l' : List Int} (h2 : l'.Pairwise (· < ·)) (h3 : ∀ n, n ∈ l' ↔ n ∈ selI no R.L) : A.IsIDs no l' := ⟨h2, fun x => by
  rw [h3]
  unfold selI
  constructor
  · intro h
    obtain ⟨p, hp, rfl⟩ := List.mem_map.1 h
    have := List.mem_filter.1 hp
    obtain ⟨a, b⟩ := this
    simp at b
    exact (H.has _ _).2 ⟨p, a, b, rfl⟩
  · intro h
    obtain ⟨p, hp, h1, h2⟩ := (H.has _ _).1 h
    exact List.mem_map.2 ⟨p, List.mem_filter.2 ⟨hp, by simp [h1]⟩, h2⟩⟩
theorem Rel.at (H : Rel A R) {p : RP} (hp : p ∈ R.L) : A.there p.slot = true ∧ A.atE p.slot = p.t := by
  obtain ⟨i, a, b, c⟩ := H.pl.there p hp
  rw [a]
  refine ⟨b, ?_⟩
  unfold AH.atE
  rw [if_pos b]
  exact c
end
end Go.Proofs.Ytljahhgankcalaa

/-! The document's heap: how many numbers it keeps; what the relation tells of lengths. -/
namespace Go.Proofs.Ytljahhgankcalaa
open Go.RowKit Go.Maps Go.MapKept Go.WideMaps
open Go.Proofs.YtljahhgankcalaaW.PrintWords Go.Proofs.YtljahhgankcalaaW.PrintLast Go.Proofs.YtljahhgankcalaaW.PrintMore
open PHeapThere
set_option linter.unusedVariables false
set_option linter.unusedSimpArgs false

theorem RH.give_len (R : RH) (no id : Int) : (R.give no id).G.length ≤ R.G.length + 1 := by
  unfold RH.give
  simp only [List.length_append, List.length_singleton]
  have := List.length_filter_le (fun g : Int × Int => g.1 != no) R.G
  omega
theorem RH.put_len (R : RH) (s : Int) (t : ATup) (A : Option Addr) (c : Nat) : (R.put s t A c).G.length ≤ R.G.length + 1 := RH.give_len _ _ _
theorem RH.next_len (R : RH) (no : Int) : (R.next no).2.G.length ≤ R.G.length + 1 := by
  unfold RH.next
  split
  · exact Nat.le_succ _
  · exact RH.give_len _ _ _
theorem RH.kill_len (R : RH) (s a b : Int) : (R.kill s a b).2.G.length ≤ R.G.length + 1 := by
  unfold RH.kill
  split <;> exact Nat.le_succ _
theorem RH.free_len (R : RH) (s : Int) : (R.free s).2.G.length ≤ R.G.length + 1 := by
  unfold RH.free
  split <;> exact Nat.le_succ _
theorem Rel.len {A : AH} {R : RH} (H : Rel A R) (hA : A.Ok) : R.L.length ≤ A.slots.length := by
  have h1 := H.pl.len
  have h2 := hA.many
  have h3 := nonfree_le A.slots
  omega
theorem Rel.most_in {A : AH} {R : RH} (H : Rel A R) (hA : A.Ok) (no : Int) : 0 ≤ R.most no ∧ R.most no ≤ 2147483647 := by
  rw [H.given]
  exact hA.given0 no
end Go.Proofs.Ytljahhgankcalaa

/-! HeapPlays: both heaps, step by step. -/
namespace Go.Proofs.Ytljahhgankcalaa
open Go.RowKit Go.Maps Go.MapKept Go.WideMaps
open Go.Proofs.YtljahhgankcalaaW.PrintWords Go.Proofs.YtljahhgankcalaaW.PrintLast Go.Proofs.YtljahhgankcalaaW.PrintMore
open PHeapThere
set_option linter.unusedVariables false
set_option linter.unusedSimpArgs false

/-- Both heaps behind k steps. -/
structure Dbl (w wr : World) (h x : Nat) (A : AH) (R : RH) (F G : Nat → Prop) (k : Nat) : Prop where
  ih : Inv w wr h A F k
  ix : RIs wr x R G
  low : ∀ b, G b → w.heap.size ≤ b
  apart : ∀ b, F b → ¬ G b
  rel : Rel A R
  gl : R.G.length ≤ k
/-- The heap is a step ahead of the document's. -/
structure Mid (w wr : World) (h x : Nat) (A A' : AH) (R : RH) (F G : Nat → Prop) (k : Nat) : Prop where
  ih : Inv w wr h A' F (k + 1)
  ix : RIs wr x R G
  low : ∀ b, G b → w.heap.size ≤ b
  apart : ∀ b, F b → ¬ G b
  rel : Rel A R
  ok : A.Ok
  len : A.slots.length ≤ k
  gl : R.G.length ≤ k
section
variable {w wr w' : World} {h x : Nat} {A A' : AH} {R R' : RH} {F G : Nat → Prop} {k : Nat} {s : AStep} {A7 : Option Addr} {c7 : Nat}
theorem Dbl.below (H : Dbl w wr h x A R F G k) (hB : Below wr.heap.size wr w') : Dbl w w' h x A R F G k := ⟨H.ih.below hB, H.ix.below hB, H.low, H.apart, H.rel, H.gl⟩
theorem Mid.below (H : Mid w wr h x A A' R F G k) (hB : Below wr.heap.size wr w') : Mid w w' h x A A' R F G k := ⟨H.ih.below hB, H.ix.below hB, H.low, H.apart, H.rel, H.ok, H.len, H.gl⟩
theorem Dbl.mid (H : Dbl w wr h x A R F G k) (hi : Inv w w' h A' (ext F wr w') (k + 1)) (hc : Chg wr w' F) : Mid w w' h x A A' R (ext F wr w') G k :=
  ⟨hi, H.ix.chg hc (fun b hb e => H.apart b e hb), H.low, fun b hb e => by
    rcases hb with hb | hb
    · exact H.apart b hb e
    · have := H.ix.bound b e; omega, H.rel, H.ih.ok, H.ih.len, H.gl⟩
theorem Mid.done (H : Mid w wr h x A A' R F G k) (hx : RIs w' x R' (ext G wr w')) (hc : Chg wr w' G) (hr : Rel A' R') (hg : R'.G.length ≤ R.G.length + 1) : Dbl w w' h x A' R' F (ext G wr w') (k + 1) :=
  ⟨H.ih.other hc (fun b hb e => H.apart b hb e) H.low, hx, fun b hb => by
    rcases hb with hb | hb
    · exact H.low b hb
    · exact Nat.le_trans H.ih.bel.size hb.1, fun b hb e => by
    rcases e with e | e
    · exact H.apart b hb e
    · have := H.ih.is.bound b hb; omega, hr, by have := H.gl; omega⟩
theorem Mid.same (H : Mid w wr h x A A' R F G k) (hB : Below wr.heap.size wr w') (hr : Rel A' R) : Dbl w w' h x A' R F G (k + 1) :=
  ⟨H.ih.below hB, H.ix.below hB, H.low, H.apart, hr, by have := H.gl; omega⟩
theorem Rel.gl_small {A : AH} {R : RH} (H : Rel A R) (hA : A.Ok) (hl : A.slots.length ≤ 1000) : R.L.length < 90000000 := by
  have := H.len hA; omega
theorem Mid.put (H : Mid w wr h x A (A.step s).2.2 R F G k) (hk : k ≤ 1000) (h0 : s.f0 = 0) (hr : Kd.C kVal wr A7 s.f1.f6.length s.f1.f6) (hx : s.f1.f6.length < 20000) :
    Calls Try.prog 47 #[.pointer (some ⟨x, 0, none⟩), .agg #[.int .i64 s.f1.f0, .int .i64 s.f1.f1, .int .i64 s.f1.f2, .int .i64 s.f1.f3, .int .i64 s.f1.f4, .int .i64 s.f1.f5, .slice A7 s.f1.f6.length c7]] wr fun e w' =>
      e = .returned (.tuple #[.int .i64 (A.step s).1, .int .i64 (A.step s).2.1]) ∧ ∃ R' G', Dbl w w' h x (A.step s).2.2 R' F G' (k + 1) := by
  rw [step_putE h0] at H ⊢
  unfold AH.putE at H ⊢
  have hl := H.len
  have hrl := H.rel.len H.ok
  by_cases hb : badTup s.f1
  · rw [if_pos hb] at H ⊢
    refine (rput_bad x s.f1.f0 s.f1.f1 s.f1.f2 s.f1.f3 s.f1.f4 s.f1.f5 A7 _ c7 wr hb).mono ?_
    rintro e w' ⟨rfl, hB⟩
    exact ⟨rfl, R, G, H.same hB H.rel⟩
  · rw [if_neg hb] at H ⊢
    have hls := H.rel.least H.ok
    have hle : A.least ≤ A.slots.length := List.findIdx_le_length
    have hg := H.gl
    refine (rput_good x s.f1 A7 c7 R G wr H.ix (by omega) (by omega) hr (by omega) hb A.least (by omega) hls.1 hls.2).mono ?_
    rintro e w' ⟨rfl, A8, c8, h1, h2⟩
    exact ⟨rfl, _, _, H.done h1 h2 (H.rel.put H.ok s.f1 (by unfold badTup at hb; omega) A8 c8) (RH.put_len _ _ _ _ _)⟩
theorem Mid.kill (H : Mid w wr h x A (A.step s).2.2 R F G k) (hk : k ≤ 1000) (h1 : s.f0 = 1) :
    Calls Try.prog 48 #[.pointer (some ⟨x, 0, none⟩), .int .i64 s.f2, .int .i64 s.f3, .int .i64 s.f4] wr fun e w' =>
      e = .returned (.int .i64 (A.step s).2.1) ∧ (A.step s).1 = 0 ∧ ∃ R' G', Dbl w w' h x (A.step s).2.2 R' F G' (k + 1) := by
  rw [step_kill h1] at H ⊢
  have hl := H.len
  have hrl := H.rel.len H.ok
  have hk2 := H.rel.kill s.f2 s.f3 s.f4
  refine (rkill_calls x s.f2 s.f3 s.f4 R G wr H.ix (by omega)).mono ?_
  rintro e w' ⟨rfl, h2, h3⟩
  rw [hk2.1]
  exact ⟨rfl, rfl, _, _, H.done h2 h3 hk2.2 (RH.kill_len _ _ _ _)⟩
theorem Mid.free (H : Mid w wr h x A (A.step s).2.2 R F G k) (hk : k ≤ 1000) (h1 : s.f0 = 2) :
    Calls Try.prog 49 #[.pointer (some ⟨x, 0, none⟩), .int .i64 s.f2] wr fun e w' =>
      e = .returned (.int .i64 (A.step s).2.1) ∧ (A.step s).1 = 0 ∧ ∃ R' G', Dbl w w' h x (A.step s).2.2 R' F G' (k + 1) := by
  rw [step_free h1] at H ⊢
  have hl := H.len
  have hrl := H.rel.len H.ok
  have hk2 := H.rel.free H.ok s.f2
  refine (rfree_calls x s.f2 R G wr H.ix (by omega)).mono ?_
  rintro e w' ⟨rfl, h2, h3⟩
  rw [hk2.1]
  exact ⟨rfl, rfl, _, _, H.done h2 h3 hk2.2 (RH.free_len _ _)⟩
theorem Mid.next (H : Mid w wr h x A (A.step s).2.2 R F G k) (hk : k ≤ 1000) (h0 : s.f0 ≠ 0) (h1 : s.f0 ≠ 1) (h2 : s.f0 ≠ 2) :
    Calls Try.prog 50 #[.pointer (some ⟨x, 0, none⟩), .int .i64 s.f3] wr fun e w' =>
      e = .returned (.int .i64 (A.step s).1) ∧ (A.step s).2.1 = 0 ∧ ∃ R' G', Dbl w w' h x (A.step s).2.2 R' F G' (k + 1) := by
  rw [step_next h0 h1 h2] at H ⊢
  have hg := H.gl
  have hk2 := H.rel.next s.f3
  refine (rnext_calls x s.f3 R G wr H.ix (by omega) (H.rel.most_in H.ok s.f3)).mono ?_
  rintro e w' ⟨rfl, h3, h4⟩
  rw [hk2.1]
  exact ⟨rfl, rfl, _, _, H.done h3 h4 hk2.2 (RH.next_len _ _)⟩
end
end Go.Proofs.Ytljahhgankcalaa

import Derived.Test.YtljahhgankcalaaHlpM
import Derived.Test.YtljahhgankcalaaOhM
/-! HeapThere: the places that a law keeps, as a value; what a step does to them. -/
namespace Go.Proofs.Ytljahhgankcalaa
open Go.RowKit Go.Maps Go.MapKept Go.WideMaps
open Go.Proofs.YtljahhgankcalaaW.PrintWords Go.Proofs.YtljahhgankcalaaW.PrintLast Go.Proofs.YtljahhgankcalaaW.PrintMore
open PHeapThere
set_option linter.unusedVariables false
set_option linter.unusedSimpArgs false

/-- A place: its slot, its tuple, and where the tuple's row lies (in what was handed in). -/
structure RP where
  slot : Int
  t : ATup
  A : Option Addr
  c : Nat
def kHdr : Kd (Option Addr × Nat × Nat) := Kd.scalar (fun x => .slice x.1 x.2.1 x.2.2) (fun _ => rfl)
def kRP : Kd RP := Kd.iso (Kd.pair (Kd.int .i64) (Kd.pair (Kd.int .i64) (Kd.pair (Kd.int .i64) (Kd.pair (Kd.int .i64) (Kd.pair (Kd.int .i64) (Kd.pair (Kd.int .i64) (Kd.pair (Kd.int .i64) kHdr)))))))
  (fun p : RP => (p.slot, p.t.f0, p.t.f1, p.t.f2, p.t.f3, p.t.f4, p.t.f5, (p.A, p.t.f6.length, p.c)))
def rpCells (p : RP) : List Value := [.int .i64 p.slot, .int .i64 p.t.f0, .int .i64 p.t.f1, .int .i64 p.t.f2, .int .i64 p.t.f3, .int .i64 p.t.f4, .int .i64 p.t.f5, .slice p.A p.t.f6.length p.c]
theorem kRP_openM {w : World} {base : Nat} {ok : Nat → Prop} {p : RP} {cs : List Value} (h : kRP.M w base ok p cs) : cs = rpCells p := by
  obtain ⟨_, _, rfl, rfl, ⟨_, _, rfl, rfl, ⟨_, _, rfl, rfl, ⟨_, _, rfl, rfl, ⟨_, _, rfl, rfl, ⟨_, _, rfl, rfl, ⟨_, _, rfl, rfl, rfl⟩⟩⟩⟩⟩⟩⟩ := h
  rfl
theorem kRP_mkM (w : World) (base : Nat) (ok : Nat → Prop) (p : RP) : kRP.M w base ok p (rpCells p) :=
  ⟨[.int .i64 p.slot], [.int .i64 p.t.f0, .int .i64 p.t.f1, .int .i64 p.t.f2, .int .i64 p.t.f3, .int .i64 p.t.f4, .int .i64 p.t.f5, .slice p.A p.t.f6.length p.c], rfl, rfl,
    ⟨[.int .i64 p.t.f0], [.int .i64 p.t.f1, .int .i64 p.t.f2, .int .i64 p.t.f3, .int .i64 p.t.f4, .int .i64 p.t.f5, .slice p.A p.t.f6.length p.c], rfl, rfl,
    ⟨[.int .i64 p.t.f1], [.int .i64 p.t.f2, .int .i64 p.t.f3, .int .i64 p.t.f4, .int .i64 p.t.f5, .slice p.A p.t.f6.length p.c], rfl, rfl,
    ⟨[.int .i64 p.t.f2], [.int .i64 p.t.f3, .int .i64 p.t.f4, .int .i64 p.t.f5, .slice p.A p.t.f6.length p.c], rfl, rfl,
    ⟨[.int .i64 p.t.f3], [.int .i64 p.t.f4, .int .i64 p.t.f5, .slice p.A p.t.f6.length p.c], rfl, rfl,
    ⟨[.int .i64 p.t.f4], [.int .i64 p.t.f5, .slice p.A p.t.f6.length p.c], rfl, rfl,
    ⟨[.int .i64 p.t.f5], [.slice p.A p.t.f6.length p.c], rfl, rfl, rfl⟩⟩⟩⟩⟩⟩⟩
/-- The cells of the place number i. -/
theorem rp_cells {w : World} {ok : Nat → Prop} {v : Value} {ps : List RP} {e base : Nat} (h : Kd.R kRP e w base ok v ps) {i : Nat} (hi : i < ps.length) :
    ∃ g cap, v = .slice (some ⟨g, 0, none⟩) ps.length cap ∧ ps.length ≤ cap ∧ w.cell? ⟨g, i * 8, none⟩ = some (.int .i64 ps[i].slot) ∧ w.cell? ⟨g, i * 8 + 1, none⟩ = some (.int .i64 ps[i].t.f0) ∧ w.cell? ⟨g, i * 8 + 2, none⟩ = some (.int .i64 ps[i].t.f1) ∧
      w.cell? ⟨g, i * 8 + 3, none⟩ = some (.int .i64 ps[i].t.f2) ∧ w.cell? ⟨g, i * 8 + 4, none⟩ = some (.int .i64 ps[i].t.f3) ∧ w.cell? ⟨g, i * 8 + 5, none⟩ = some (.int .i64 ps[i].t.f4) ∧ w.cell? ⟨g, i * 8 + 6, none⟩ = some (.int .i64 ps[i].t.f5) ∧
      w.cell? ⟨g, i * 8 + 7, none⟩ = some (.slice ps[i].A ps[i].t.f6.length ps[i].c) := by
  obtain ⟨g, cap, cur, c, hv, _, _, hg, h1, h2, _, hM, _, hc⟩ := R_elem h hi
  obtain rfl := kRP_openM hM
  exact ⟨g, cap, hv, h1, (blk_cell hg _).trans (hc 0 _ rfl), (blk_cell hg _).trans (hc 1 _ rfl), (blk_cell hg _).trans (hc 2 _ rfl), (blk_cell hg _).trans (hc 3 _ rfl), (blk_cell hg _).trans (hc 4 _ rfl), (blk_cell hg _).trans (hc 5 _ rfl), (blk_cell hg _).trans (hc 6 _ rfl), (blk_cell hg _).trans (hc 7 _ rfl)⟩

/-- The places are just those that are there. -/
structure Pl (A : AH) (ps : List RP) : Prop where
  there : ∀ p ∈ ps, ∃ i : Nat, p.slot = i ∧ A.there (i : Int) = true ∧ A.at (i : Int) = p.t
  all : ∀ i : Nat, A.there (i : Int) = true → ∃ p ∈ ps, p.slot = i
  nodup : (ps.map (·.slot)).Nodup
  len : (ps.length : Int) = A.many
def hit (s : AStep) (p : RP) : Bool := (p.slot == s.f2) && ((s.f0 == 1) || (s.f0 == 2))
/-- What the law keeps of a place behind a step. -/
def upd1 (s : AStep) (p : RP) : Option RP :=
  if hit s p then (if s.f0 = 2 then none else some { p with t := { p.t with f4 := s.f3, f5 := s.f4 } }) else some p
def puts1 (s : AStep) (n e : Int) (A7 : Option Addr) (c7 : Nat) (ps : List RP) : List RP := if e = 0 ∧ s.f0 = 0 then ps ++ [⟨n, s.f1, A7, c7⟩] else ps

theorem upd1_none {s : AStep} (h1 : s.f0 ≠ 1) (h2 : s.f0 ≠ 2) (ps : List RP) : ps.filterMap (upd1 s) = ps ∧ ps.any (hit s) = false := by
  have hh : ∀ p, hit s p = false := fun p => by
    unfold hit
    rw [beq_eq_false_iff_ne.2 h1, beq_eq_false_iff_ne.2 h2]
    simp
  constructor
  · induction ps with
    | nil => rfl
    | cons p ps ih =>
      rw [List.filterMap_cons]
      have : upd1 s p = some p := by unfold upd1; rw [hh]; simp
      rw [this]
      simp [ih]
  · simp [hh]
theorem Pl.congr {A A' : AH} {ps : List RP} (h : Pl A ps) (h1 : ∀ i : Nat, A'.there (i : Int) = A.there (i : Int)) (h2 : ∀ i : Nat, A'.at (i : Int) = A.at (i : Int)) (h3 : A'.many = A.many) : Pl A' ps :=
  ⟨fun p hp => by
    obtain ⟨i, a, b, c⟩ := h.there p hp
    exact ⟨i, a, by rw [h1]; exact b, by rw [h2]; exact c⟩, fun i hi => h.all i (by rw [← h1]; exact hi), h.nodup, by rw [h3]; exact h.len⟩
theorem Pl.put {A : AH} {ps : List RP} (h : Pl A ps) (hA : A.Ok) (t : ATup) (ht : 0 < t.f0) (A7 : Option Addr) (c7 : Nat) : Pl (A.put t) (ps ++ [⟨A.least, t, A7, c7⟩]) ∧ ∀ p ∈ ps, p.slot ≠ (A.least : Int) := by
  have hne : ∀ p ∈ ps, p.slot ≠ (A.least : Int) := fun p hp e => by
    obtain ⟨i, a, b, _⟩ := h.there p hp
    rw [← a, e, A.least_not] at b
    cases b
  refine ⟨⟨fun p hp => ?_, fun i hi => ?_, ?_, ?_⟩, hne⟩
  · rcases List.mem_append.1 hp with hp | hp
    · obtain ⟨i, a, b, c⟩ := h.there p hp
      refine ⟨i, a, (A.put_there t ht i).2 (.inr b), ?_⟩
      rw [A.put_at, if_neg (fun e => hne p hp (by rw [a, e])), c]
    · rw [List.mem_singleton.1 hp]
      exact ⟨A.least, rfl, (A.put_there t ht _).2 (.inl rfl), by rw [A.put_at, if_pos rfl]⟩
  · rcases (A.put_there t ht i).1 hi with e | e
    · exact ⟨_, List.mem_append.2 (.inr (List.mem_singleton.2 rfl)), e.symm⟩
    · obtain ⟨p, hp, e⟩ := h.all i e
      exact ⟨p, List.mem_append.2 (.inl hp), e⟩
  · rw [List.map_append, List.nodup_append]
    refine ⟨h.nodup, by simp, ?_⟩
    rintro a ha b hb rfl
    obtain ⟨p, hp, rfl⟩ := List.mem_map.1 ha
    simp at hb
    exact hne p hp hb
  · rw [List.length_append]
    have := h.len
    show ((ps.length + 1 : Nat) : Int) = A.many + 1
    omega
theorem hit_eq {s : AStep} (hs : s.f0 = 1 ∨ s.f0 = 2) (p : RP) : hit s p = (p.slot == s.f2) := by
  unfold hit
  rcases hs with hs | hs <;> rw [hs] <;> simp
theorem any_there {A : AH} {ps : List RP} (h : Pl A ps) {s : AStep} (hs : s.f0 = 1 ∨ s.f0 = 2) : ps.any (hit s) = A.there s.f2 := by
  rw [Bool.eq_iff_iff, List.any_eq_true]
  constructor
  · rintro ⟨p, hp, hh⟩
    rw [hit_eq hs] at hh
    obtain ⟨i, a, b, _⟩ := h.there p hp
    rw [← eq_of_beq hh, a]
    exact b
  · intro hh
    obtain ⟨i, e, _, _⟩ := A.there_cases _ hh
    rw [e] at hh
    obtain ⟨p, hp, e2⟩ := h.all i hh
    exact ⟨p, hp, by rw [hit_eq hs, e2, e]; exact beq_self_eq_true _⟩
theorem map_kill {s : AStep} (hs : s.f0 = 1) (ps : List RP) : ps.filterMap (upd1 s) = ps.map (fun p => if p.slot = s.f2 then { p with t := { p.t with f4 := s.f3, f5 := s.f4 } } else p) := by
  induction ps with
  | nil => rfl
  | cons p ps ih =>
    rw [List.filterMap_cons, List.map_cons, ← ih]
    unfold upd1
    rw [hit_eq (.inl hs)]
    by_cases e : p.slot = s.f2
    · rw [if_pos (beq_iff_eq.2 e), if_neg (by omega), if_pos e]
    · rw [if_neg (by simpa using e), if_neg e]
theorem map_free {s : AStep} (hs : s.f0 = 2) (ps : List RP) : ps.filterMap (upd1 s) = ps.filter (fun p => !(p.slot == s.f2)) := by
  induction ps with
  | nil => rfl
  | cons p ps ih =>
    rw [List.filterMap_cons, List.filter_cons, ← ih]
    unfold upd1
    rw [hit_eq (.inr hs)]
    by_cases e : p.slot = s.f2
    · rw [if_pos (beq_iff_eq.2 e), if_pos hs, if_neg (by simp [e])]
    · rw [if_neg (by simpa using e), if_pos (by simpa using e)]
theorem Pl.kill {A : AH} {ps : List RP} (h : Pl A ps) {s : AStep} (hs : s.f0 = 1) : Pl (A.kill s.f2 s.f3 s.f4).2 (ps.filterMap (upd1 s)) := by
  rw [map_kill hs]
  refine ⟨fun p hp => ?_, fun i hi => ?_, ?_, ?_⟩
  · obtain ⟨q, hq, rfl⟩ := List.mem_map.1 hp
    obtain ⟨i, a, b, c⟩ := h.there q hq
    have hslot : (if q.slot = s.f2 then { q with t := { q.t with f4 := s.f3, f5 := s.f4 } } else q).slot = q.slot := by split <;> rfl
    refine ⟨i, by rw [hslot]; exact a, by rw [A.kill_there]; exact b, ?_⟩
    rw [A.kill_at]
    by_cases e : q.slot = s.f2
    · rw [if_pos e, if_pos ⟨by rw [← e, a]; exact b, by rw [← a]; exact e⟩, ← e, a, c]
    · rw [if_neg e, if_neg (fun h => e (by rw [a]; exact h.2)), c]
  · rw [A.kill_there] at hi
    obtain ⟨p, hp, e⟩ := h.all i hi
    refine ⟨_, List.mem_map.2 ⟨p, hp, rfl⟩, ?_⟩
    split <;> exact e
  · rw [List.map_map]
    have : (ps.map ((fun x : RP => x.slot) ∘ fun p => if p.slot = s.f2 then { p with t := { p.t with f4 := s.f3, f5 := s.f4 } } else p)) = ps.map (·.slot) := List.map_congr_left (fun p _ => by
      simp only [Function.comp]
      split <;> rfl)
    rw [this]
    exact h.nodup
  · rw [List.length_map, A.kill_many]
    exact h.len
theorem filter_one : ∀ (ps : List RP) (x : Int), (ps.map (·.slot)).Nodup → (∃ p ∈ ps, p.slot = x) → (ps.filter (fun p => !(p.slot == x))).length + 1 = ps.length
  | [], _, _, h => by
    obtain ⟨p, hp, _⟩ := h
    cases hp
  | p :: ps, x, hn, h => by
    rw [List.map_cons, List.nodup_cons] at hn
    by_cases e : p.slot = x
    · have : ps.filter (fun p => !(p.slot == x)) = ps := List.filter_eq_self.2 (fun q hq => by
        simp
        intro e2
        exact hn.1 (List.mem_map.2 ⟨q, hq, by rw [e2, e]⟩))
      rw [List.filter_cons, if_neg (by simp [e]), this, List.length_cons]
    · rw [List.filter_cons, if_pos (by simpa using e), List.length_cons, List.length_cons, filter_one ps x hn.2 (by
        obtain ⟨q, hq, e2⟩ := h
        rcases List.mem_cons.1 hq with rfl | hq
        · exact absurd e2 e
        · exact ⟨q, hq, e2⟩)]
theorem Pl.free {A : AH} {ps : List RP} (h : Pl A ps) {s : AStep} (hs : s.f0 = 2) : Pl (A.free s.f2).2 (ps.filterMap (upd1 s)) := by
  rw [map_free hs]
  refine ⟨fun p hp => ?_, fun i hi => ?_, ?_, ?_⟩
  · obtain ⟨hp, hne⟩ := List.mem_filter.1 hp
    have hne : p.slot ≠ s.f2 := by simpa using hne
    obtain ⟨i, a, b, c⟩ := h.there p hp
    exact ⟨i, a, (A.free_there _ _).2 ⟨b, fun e => hne (by rw [a]; exact e)⟩, by rw [A.free_at, if_neg (fun e => hne (by rw [a]; exact e.2))]; exact c⟩
  · obtain ⟨h1, h2⟩ := (A.free_there _ _).1 hi
    obtain ⟨p, hp, e⟩ := h.all i h1
    exact ⟨p, List.mem_filter.2 ⟨hp, by rw [e]; simpa using h2⟩, e⟩
  · exact h.nodup.sublist (List.Sublist.map _ List.filter_sublist)
  · rw [A.free_many]
    have hl := h.len
    by_cases e : A.there s.f2 = true
    · obtain ⟨i, e2, _, _⟩ := A.there_cases _ e
      have := filter_one ps s.f2 h.nodup (by
        obtain ⟨p, hp, e3⟩ := h.all i (by rw [← e2]; exact e)
        exact ⟨p, hp, by rw [e3, e2]⟩)
      rw [if_pos e]
      omega
    · rw [if_neg e]
      have : ps.filter (fun p => !(p.slot == s.f2)) = ps := List.filter_eq_self.2 (fun q hq => by
        simp
        intro e2
        obtain ⟨i, a, b, _⟩ := h.there q hq
        exact e (by rw [← e2, a]; exact b))
      rw [this]
      exact hl
/-- A step: what the law keeps behind it is what is there; and what it asks of the step holds. -/
theorem Pl.step {A : AH} {ps : List RP} (h : Pl A ps) (hA : A.Ok) (s : AStep) (A7 : Option Addr) (c7 : Nat) {n e : Int} {A' : AH} (hstep : A.step s = (n, e, A')) :
    Pl A' ((puts1 s n e A7 c7 ps).filterMap (upd1 s)) ∧ (e = 0 → s.f0 = 0 → ∀ p ∈ ps, p.slot ≠ n) ∧ (s.f0 = 1 ∨ s.f0 = 2 → decide (e = 0) = (puts1 s n e A7 c7 ps).any (hit s)) := by
  unfold puts1
  by_cases h0 : s.f0 = 0
  · rw [step_putE h0] at hstep
    rw [(upd1_none (s := s) (by omega) (by omega) _).1]
    unfold AH.putE at hstep
    by_cases hb : badTup s.f1
    · rw [if_pos hb] at hstep
      injection hstep with h1 hstep
      injection hstep with h2 h3
      rw [if_neg (by omega), ← h3]
      exact ⟨h, fun e0 => by omega, fun h4 => by omega⟩
    · rw [if_neg hb] at hstep
      injection hstep with h1 hstep
      injection hstep with h2 h3
      rw [if_pos ⟨by omega, h0⟩, ← h3, ← h1]
      obtain ⟨a, b⟩ := h.put hA s.f1 (by unfold badTup at hb; omega) A7 c7
      exact ⟨a, fun _ _ => b, fun h4 => by omega⟩
  · rw [if_neg (fun h4 => h0 h4.2)]
    by_cases h1 : s.f0 = 1
    · rw [step_kill h1] at hstep
      injection hstep with h2 hstep
      injection hstep with h3 h4
      refine ⟨by rw [← h4]; exact h.kill h1, fun _ h5 => absurd h5 h0, fun _ => ?_⟩
      rw [any_there h (.inl h1), ← h3]
      unfold AH.kill
      cases A.there s.f2 <;> rfl
    · by_cases h2 : s.f0 = 2
      · rw [step_free h2] at hstep
        injection hstep with h3 hstep
        injection hstep with h4 h5
        refine ⟨by rw [← h5]; exact h.free h2, fun _ h6 => absurd h6 h0, fun _ => ?_⟩
        rw [any_there h (.inr h2), ← h4]
        unfold AH.free
        cases A.there s.f2 <;> rfl
      · rw [step_next h0 h1 h2] at hstep
        injection hstep with h3 hstep
        injection hstep with h4 h5
        rw [(upd1_none h1 h2 _).1, ← h5]
        exact ⟨h.congr (fun i => A.next_there _ _) (fun i => A.next_at _ _) (A.next_many _), fun _ h6 => absurd h6 h0, fun h6 => by omega⟩

/-- A tuple is the same as itself. -/
theorem row_same (l : List AVal) (hl : l.length ≤ 140737488351232) : ∀ (n : Nat) (i : Int), 0 ≤ i → i + n = (l.length : Int) → ∃ k, covenantref05_Same.l0 k l l i = some true
  | 0, i, h0, h1 => ⟨1, by rw [covenantref05_Same.l0, if_neg (by omega)]⟩
  | n + 1, i, h0, h1 => by
    obtain ⟨k, hk⟩ := row_same l hl n (i + 1) (by omega) (by omega)
    refine ⟨k + 1, ?_⟩
    rw [covenantref05_Same.l0, if_pos (by omega), if_pos h0, if_pos (by omega), if_neg (by simp), wrap64_self (by omega) (by omega)]
    exact hk
theorem tup_same (t : ATup) (hl : t.f6.length ≤ 140737488351232) : ∃ k, covenantref11_Same.f k t.f0 t.f1 t.f2 t.f3 t.f4 t.f5 t.f6 t.f0 t.f1 t.f2 t.f3 t.f4 t.f5 t.f6 = some true := by
  obtain ⟨k, hk⟩ := row_same t.f6 hl t.f6.length 0 (by omega) (by omega)
  refine ⟨k, ?_⟩
  unfold covenantref11_Same.f covenantref05_Same.f
  simp [hk]
end Go.Proofs.Ytljahhgankcalaa

import Derived.Test.YtlikabehjiocjaaGreatDoorKy
import Derived.Maps.RangeRun
/-! The evaluator that goes all ways: whichever entry of a map comes next. Rows and code. -/
namespace Go.Proofs.YtlikabehjiocjaaGreatDoor.Ev
open Go Go.RowKit
set_option linter.unusedVariables false
set_option linter.unusedSimpArgs false

/-- All that may come; none: not known. -/
abbrev OutL (α : Type) := Option (List α)
def goL {α β : Type} (f : α → OutL β) : List α → OutL β
  | [] => some []
  | a :: l => match f a, goL f l with
    | some x, some y => some (x ++ y)
    | _, _ => none
def bindL {α β : Type} (o : OutL α) (f : α → OutL β) : OutL β := match o with
  | some l => goL f l
  | none => none
def oneL {α : Type} (o : Option α) : OutL α := match o with
  | some a => some [a]
  | none => none
theorem goL_mem {α β : Type} {f : α → OutL β} : ∀ {l : List α} {rs : List β}, goL f l = some rs → ∀ a ∈ l, ∃ x, f a = some x ∧ ∀ r ∈ x, r ∈ rs
  | [], rs, _, a, ha => by cases ha
  | b :: l, rs, h, a, ha => by
    unfold goL at h
    split at h
    · rename_i x y hx hy
      cases h
      rcases List.mem_cons.1 ha with rfl | ha
      · exact ⟨x, hx, fun r hr => List.mem_append.2 (.inl hr)⟩
      · obtain ⟨z, hz, hz2⟩ := goL_mem hy a ha
        exact ⟨z, hz, fun r hr => List.mem_append.2 (.inr (hz2 r hr))⟩
    · cases h
theorem bindL_some {α β : Type} {o : OutL α} {f : α → OutL β} {rs : List β} (h : bindL o f = some rs) : ∃ l, o = some l ∧ ∀ a ∈ l, ∃ x, f a = some x ∧ ∀ r ∈ x, r ∈ rs := by
  unfold bindL at h
  split at h
  · rename_i l
    exact ⟨l, rfl, goL_mem h⟩
  · cases h
theorem oneL_some {α : Type} {o : Option α} {rs : List α} (h : oneL o = some rs) : ∃ a, o = some a ∧ rs = [a] := by
  cases o with
  | none => cases h
  | some a => cases h; exact ⟨a, rfl, rfl⟩
def nextN (h : H) (it : V) : OutL (V × H) :=
  match it with
  | .ptr (some (b, 0)) => (match h.getW b with
    | some (.iter none _ _ _) => some [(.tuple [.bool false], h)]
    | some (.iter (some m) olds seen ls) => (match h.get m with
      | some (.map es ls') => cond (sameLs ls ls' && es.all fun e => olds.contains e.2.2) (match es.filter (fun e => !(seen.contains e.2.2)) with
        | [] => some [(.tuple [.bool false], h)]
        | l => some (l.map fun p => (.tuple [.bool true, p.1, p.2.1], h.set b (some (.iter (some m) olds (seen ++ [p.2.2]) ls'))))) none
      | _ => none)
    | _ => none)
  | _ => none
section
variable {P : Program} {w0 w : World} {e : E} {h : H}
theorem mrel_mem : ∀ {es : List (V × V × Nat)} {l : List MapEntry}, mrel e es l → ∀ x ∈ l, ∃ p ∈ es, vrel e p.1 x.key ∧ vrel e p.2.1 x.val ∧ e.κ p.2.2 = some x.born
  | [], _, hm, x, hx => by have hm : _ = [] := hm; subst hm; cases hx
  | (k, v, s) :: es, _, ⟨y, r, q1, q2, q3, q4, q5⟩, x, hx => by
    subst q1
    rcases List.mem_cons.1 hx with rfl | hx
    · exact ⟨_, List.mem_cons_self, q2, q3, q4⟩
    · obtain ⟨p, hp, h1⟩ := mrel_mem q5 x hx
      exact ⟨p, List.mem_cons_of_mem _ hp, h1⟩
theorem run_nextN (R : Rel w0 e h w) {it : V} {it' : Value} {rs : List (V × H)} (ty : TypeId) (hi : vrel e it it') (q : nextN h it = some rs) :
    ∃ r ∈ rs, ∃ w' z, (Instr.next it' false ty).run P w = .ok z w' ∧ vrel e r.1 z ∧ Rel w0 e r.2 w' := by
  unfold nextN at q
  split at q
  · rename_i b
    simp only [vrel] at hi
    obtain ⟨kb, hkb, rfl⟩ := hi
    split at q
    · rename_i hg
      obtain ⟨hfz, hg⟩ := H.getW_some hg
      cases q
      obtain ⟨m', since, seen', last, r1, r2, _⟩ := R.heap b _ kb hg hkb
      have r2 := r2 rfl
      subst r2
      have hgo : (getObj kb).run P w = .ok (.mapIter none since ⟨seen'⟩ last) w := by simp [getObj, Sem.run, r1]
      refine ⟨_, List.mem_cons_self, w, .tuple #[.bool false], by simp [Instr.next, hgo], ?_, R⟩
      simp only [vrel]
      exact ⟨_, rfl, vrels_one (by simp only [vrel])⟩
    · rename_i m olds seen ls hg
      obtain ⟨hfz, hg⟩ := H.getW_some hg
      split at q
      · rename_i es ls' hgm
        cases hall0 : (sameLs ls ls' && es.all fun e => olds.contains e.2.2) with
        | false => rw [hall0] at q; cases q
        | true =>
          rw [hall0] at q
          simp only [cond_true] at q
          obtain ⟨hls, hall⟩ := (Bool.and_eq_true _ _).mp hall0
          have hls := sameLs_eq hls
          subst hls
          obtain ⟨m', since, seen', last, r1, _, r3, r4, r5, r6, r7, r8, r9, r10⟩ := R.heap b _ kb hg hkb
          obtain ⟨km, hkm, rfl⟩ := r3 m rfl
          obtain ⟨l, clk, es', t1, tp, t2, t3, t4, t5⟩ := R.map hgm hkm
          have hclk := crel_eq r8 t5
          have hall' : (es'.all fun e => olds.contains e.2.2) = true := List.all_eq_true.2 fun p hp => List.all_eq_true.1 hall p (tp.mem_iff.2 hp)
          have tpf := tp.filter (fun e : V × V × Nat => !(seen.contains e.2.2))
          subst hclk
          subst r7
          have hold : ∀ x ∈ l, x.born < since := by
            intro x hx
            obtain ⟨p, hp, _, _, hs⟩ := mrel_mem t2 x hx
            exact r5 p.2.2 (by simpa using List.all_eq_true.1 hall' p hp) _ hs
          have hfil := mrel_filter r4 r9 r10 t2 hall'
          have hleft : leftOf (⟨l⟩ : Array MapEntry) ⟨seen'⟩ = ⟨l.filter fun x => !(seen'.contains x.born)⟩ := by
            unfold leftOf
            apply Array.ext'
            simp
          have hlt := (R.new _ _ hkb).2
          rcases run_next_at (P := P) w ty kb km since since ⟨seen'⟩ ⟨l⟩ since r1 t1 (by simpa using hold) (Nat.le_refl _) with ⟨h0, hrun⟩ | ⟨x, hx, w1, hw1, hrun⟩
          · rw [hleft] at h0
            have h0 : (l.filter fun x => !(seen'.contains x.born)) = [] := List.eq_nil_of_length_eq_zero (by simpa using h0)
            rw [h0] at hfil
            have he : (es.filter fun x => !(seen.contains x.2.2)) = [] := by
              have he' : (es'.filter fun x => !(seen.contains x.2.2)) = [] := by
                cases hh : es'.filter fun x => !(seen.contains x.2.2) with
                | nil => rfl
                | cons p t =>
                  rw [hh] at hfil
                  obtain ⟨k, v, s⟩ := p
                  obtain ⟨y, r, q1, _⟩ := hfil
                  cases q1
              rw [he'] at tpf
              exact tpf.eq_nil
            rw [he] at q
            cases q
            refine ⟨_, List.mem_cons_self, w, _, hrun, ?_, R⟩
            simp only [vrel]
            exact ⟨_, rfl, vrels_one (by simp only [vrel])⟩
          · rw [hleft] at hx
            obtain ⟨p, hp', p2, p3, p4⟩ := mrel_mem hfil x (by simpa using hx)
            have hp := tpf.mem_iff.2 hp'
            have hs0 : p.2.2 ∈ olds := by
              have h1 := (List.mem_filter.1 hp).1
              simpa using List.all_eq_true.1 hall _ h1
            have hrs : (.tuple [.bool true, p.1, p.2.1], h.set b (some (.iter (some m) olds (seen ++ [p.2.2]) ls))) ∈ rs := by
              split at q
              · rename_i hf
                rw [hf] at hp
                cases hp
              · cases q
                exact List.mem_map.2 ⟨p, hp, rfl⟩
            have R1 : Rel w0 e h w1 := by
              rcases hw1 with rfl | rfl
              · exact R
              · exact R.drew
            have hlt1 := (R1.new _ _ hkb).2
            refine ⟨_, hrs, _, _, hrun, ?_, ?_⟩
            · simp only [vrel]
              exact ⟨[.bool true, x.key, x.val], rfl, vrels_cons.2 ⟨_, _, rfl, by simp only [vrel], vrels_cons.2 ⟨_, _, rfl, p2, vrels_one p3⟩⟩⟩
            · refine R1.upd (w' := w1.putObj kb _) hkb hfz hg (grownBy_putObj' _ _ _) ?_
              rw [World.putObj_heap_same hlt1]
              refine ⟨some km, since, seen' ++ [x.born], since, by simp, (fun hh => nomatch hh), fun r' hr => by cases hr; exact ⟨km, hkm, rfl⟩, srel_snoc r4 p4, r5, r6, ?_, t5, ?_, r10⟩
              · rfl
              · intro s hs
                rcases List.mem_append.1 hs with hs | hs
                · exact r9 s hs
                · simp at hs; subst hs; exact hs0
      · cases q
    · cases q
  · cases q
end
end Go.Proofs.YtlikabehjiocjaaGreatDoor.Ev

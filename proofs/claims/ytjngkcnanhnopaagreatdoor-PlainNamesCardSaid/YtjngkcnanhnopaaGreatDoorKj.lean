import Derived.Test.YtjngkcnanhnopaaGreatDoorKi
/-! The evaluator: the next entry of a map. -/
namespace Go.Proofs.YtjngkcnanhnopaaGreatDoor.Ev
open Go Go.RowKit
set_option linter.unusedVariables false
set_option linter.unusedSimpArgs false
section
variable {P : Program} {w0 w : World} {e : E} {h : H}
theorem srel_mem : ∀ {ss l : List Nat}, srel e ss l → (∀ s ∈ ss, ∃ n, e.κ s = some n ∧ n ∈ l) ∧ (∀ n ∈ l, ∃ s ∈ ss, e.κ s = some n)
  | [], _, hq => by have hq : _ = [] := hq; subst hq; exact ⟨(fun s hs => nomatch hs), (fun n hn => nomatch hn)⟩
  | s :: ss, _, ⟨x, r, h1, h2, h3⟩ => by
    subst h1
    obtain ⟨p, q⟩ := srel_mem h3
    refine ⟨fun t ht => ?_, fun n hn => ?_⟩
    · rcases List.mem_cons.1 ht with rfl | ht
      · exact ⟨x, h2, by simp⟩
      · obtain ⟨n, hn, hm⟩ := p t ht; exact ⟨n, hn, by simp [hm]⟩
    · rcases List.mem_cons.1 hn with rfl | hn
      · exact ⟨s, by simp, h2⟩
      · obtain ⟨t, ht, hk⟩ := q n hn; exact ⟨t, by simp [ht], hk⟩
theorem srel_snoc : ∀ {ss l : List Nat} {s n : Nat}, srel e ss l → e.κ s = some n → srel e (ss ++ [s]) (l ++ [n])
  | [], _, s, n, hq, hn => by have hq : _ = [] := hq; subst hq; exact ⟨n, [], rfl, hn, rfl⟩
  | t :: ss, _, s, n, ⟨x, r, h1, h2, h3⟩, hn => by subst h1; exact ⟨x, r ++ [n], rfl, h2, srel_snoc h3 hn⟩
theorem seen_iff {olds seen seen' : List Nat} {s n : Nat} (h1 : srel e seen seen') (h2 : ∀ s ∈ seen, s ∈ olds) (h3 : ∀ s ∈ olds, ∀ s' ∈ olds, e.κ s = e.κ s' → s = s') (hs : s ∈ olds) (hn : e.κ s = some n) : seen.contains s = seen'.contains n := by
  obtain ⟨p, q⟩ := srel_mem h1
  cases hc : seen.contains s with
  | true =>
    obtain ⟨n', hn', hm⟩ := p s (by simpa using hc)
    rw [hn] at hn'
    cases hn'
    exact (by simpa using hm : seen'.contains n = true).symm
  | false =>
    cases hd : seen'.contains n with
    | false => rfl
    | true =>
      obtain ⟨t, ht, hk⟩ := q n (by simpa using hd)
      have := h3 t (h2 t ht) s hs (by rw [hk, hn])
      subst this
      have : seen.contains t = true := by simpa using ht
      rw [this] at hc
      cases hc
theorem mrel_filter {olds seen seen' : List Nat} (h1 : srel e seen seen') (h2 : ∀ s ∈ seen, s ∈ olds) (h3 : ∀ s ∈ olds, ∀ s' ∈ olds, e.κ s = e.κ s' → s = s') : ∀ {es : List (V × V × Nat)} {l : List MapEntry}, mrel e es l → (es.all fun x => olds.contains x.2.2) = true →
    mrel e (es.filter fun x => !(seen.contains x.2.2)) (l.filter fun x => !(seen'.contains x.born))
  | [], _, hm, _ => by have hm : _ = [] := hm; subst hm; rfl
  | (k, v, s) :: es, _, ⟨x, r, q1, q2, q3, q4, q5⟩, ha => by
    subst q1
    simp only [List.all_cons, Bool.and_eq_true] at ha
    have hs := seen_iff h1 h2 h3 (by simpa using ha.1) q4
    have ih := mrel_filter h1 h2 h3 q5 ha.2
    simp only [List.filter_cons, hs]
    split
    · exact ⟨x, _, rfl, q2, q3, q4, ih⟩
    · exact ih
theorem run_nextV (R : Rel w0 e h w) {it v : V} {it' : Value} {h' : H} (ty : TypeId) (hi : vrel e it it') (q : nextV h it = some (v, h')) :
    ∃ w' z, (Instr.next it' false ty).run P w = .ok z w' ∧ vrel e v z ∧ Rel w0 e h' w' := by
  unfold nextV at q
  split at q
  · rename_i b
    simp only [vrel] at hi
    obtain ⟨kb, hkb, rfl⟩ := hi
    split at q
    · rename_i hg
      obtain ⟨hfz, hg⟩ := H.getW_some hg
      cases q
      obtain ⟨m', since, seen', last, r1, r2, _⟩ := R.heap b _ kb hg hkb
      have r2 := r2 rfl
      subst r2
      have hgo : (getObj kb).run P w = .ok (.mapIter none since ⟨seen'⟩ last) w := by simp [getObj, Sem.run, r1]
      refine ⟨w, .tuple #[.bool false], by simp [Instr.next, hgo], ?_, R⟩
      simp only [vrel]
      exact ⟨_, rfl, vrels_one (by simp only [vrel])⟩
    · rename_i m olds seen ls hg
      obtain ⟨hfz, hg⟩ := H.getW_some hg
      split at q
      · rename_i es ls' hgm
        cases hall0 : (sameLs ls ls' && es.all fun e => olds.contains e.2.2) with
        | false => rw [hall0] at q; cases q
        | true =>
          rw [hall0] at q
          simp only [cond_true] at q
          obtain ⟨hls, hall⟩ := (Bool.and_eq_true _ _).mp hall0
          have hls := sameLs_eq hls
          subst hls
          obtain ⟨m', since, seen', last, r1, _, r3, r4, r5, r6, r7, r8, r9, r10⟩ := R.heap b _ kb hg hkb
          obtain ⟨km, hkm, rfl⟩ := r3 m rfl
          obtain ⟨l, clk, es', t1, tp, t2, t3, t4, t5⟩ := R.map hgm hkm
          have hclk := crel_eq r8 t5
          have hall' : (es'.all fun e => olds.contains e.2.2) = true := List.all_eq_true.2 fun p hp => List.all_eq_true.1 hall p (tp.mem_iff.2 hp)
          have tpf := tp.filter (fun e : V × V × Nat => !(seen.contains e.2.2))
          subst hclk
          subst r7
          have hgo : (getObj kb).run P w = .ok (.mapIter (some km) since ⟨seen'⟩ since) w := by simp [getObj, Sem.run, r1]
          have hgm' := run_getMap (P := P) t1
          have hold : ∀ x ∈ l, x.born < since := by
            have key : ∀ {es : List (V × V × Nat)} {l : List MapEntry}, mrel e es l → (es.all fun e => olds.contains e.2.2) = true → ∀ x ∈ l, x.born < since := by
              intro es
              induction es with
              | nil => intro l hm _ x hx; have hm : _ = [] := hm; subst hm; cases hx
              | cons p es ih =>
                obtain ⟨k, v, s⟩ := p
                rintro l ⟨y, r, q1, q2, q3, q4, q5⟩ ha x hx
                subst q1
                simp only [List.all_cons, Bool.and_eq_true] at ha
                rcases List.mem_cons.1 hx with rfl | hx
                · exact r5 s (by simpa using ha.1) _ q4
                · exact ih q5 ha.2 x hx
            exact key t2 hall'
          have htest : (!(⟨seen'⟩ : Array Nat).isEmpty && !(⟨l⟩ : Array MapEntry).isEmpty && (⟨l⟩ : Array MapEntry).all (fun x => decide (x.born ≥ since))) = false := by
            cases l with
            | nil => simp
            | cons y l =>
              have := hold y (by simp)
              have : ¬ y.born ≥ since := by omega
              simp [this]
          have hfil := mrel_filter r4 r9 r10 t2 hall'
          have hleft : (⟨l⟩ : Array MapEntry).filter (fun x => !(⟨seen'⟩ : Array Nat).contains x.born) = ⟨l.filter fun x => !(seen'.contains x.born)⟩ := by
            apply Array.ext'
            simp
          split at q
          · rename_i hf
            cases q
            rw [hf] at tpf
            rw [tpf.nil_eq.symm] at hfil
            have hfil : _ = [] := hfil
            refine ⟨w, .tuple #[.bool false], ?_, ?_, R⟩
            · simp only [Instr.next, Sem.run_bind, hgo, Result.andThen_ok, hgm', htest, Bool.false_eq_true, if_false, hleft, hfil]
              simp [choose, Sem.run, Question.forced]
            · simp only [vrel]
              exact ⟨_, rfl, vrels_one (by simp only [vrel])⟩
          · rename_i k0 v0 s0 hf
            cases q
            rw [hf] at tpf
            rw [List.perm_singleton.1 tpf.symm] at hfil
            obtain ⟨x, r, p1, p2, p3, p4, p5⟩ := hfil
            have p5 : r = [] := p5
            subst p5
            have hxl : x ∈ l := by
              have : x ∈ l.filter fun x => !(seen'.contains x.born) := by rw [p1]; simp
              exact (List.mem_filter.1 this).1
            have hxb := hold x hxl
            have hs0 : s0 ∈ olds := by
              have : (k0, v0, s0) ∈ es.filter (fun e => !(seen.contains e.2.2)) := by rw [hf]; simp
              have h1 := (List.mem_filter.1 this).1
              have := List.all_eq_true.1 hall _ h1
              simpa using this
            have hlt := (R.new _ _ hkb).2
            refine ⟨w.putObj kb (.mapIter (some km) since ((⟨seen'⟩ : Array Nat).push x.born) since), .tuple #[.bool true, x.key, x.val], ?_, ?_, ?_⟩
            · have hset : (setObj kb (.mapIter (some km) since ((⟨seen'⟩ : Array Nat).push x.born) since)).run P w = .ok () (w.putObj kb (.mapIter (some km) since ((⟨seen'⟩ : Array Nat).push x.born) since)) := by
                simp [setObj, Sem.run, r1, World.putObj]
              have hnb : ¬ x.born ≥ since := by omega
              simp only [Instr.next, Sem.run_bind, hgo, Result.andThen_ok, hgm', htest, Bool.false_eq_true, if_false, hleft, p1]
              simp [choose, Sem.run, Question.forced, hxb, hnb] at hset ⊢
              simp [hset]
            · simp only [vrel]
              exact ⟨[.bool true, x.key, x.val], rfl, vrels_cons.2 ⟨_, _, rfl, by simp only [vrel], vrels_cons.2 ⟨_, _, rfl, p2, vrels_one p3⟩⟩⟩
            · refine R.upd hkb hfz hg (grownBy_putObj' _ _ _) ?_
              rw [World.putObj_heap_same hlt]
              refine ⟨some km, since, seen' ++ [x.born], since, by simp, (fun hh => nomatch hh), fun r' hr => by cases hr; exact ⟨km, hkm, rfl⟩, srel_snoc r4 p4, r5, r6, ?_, t5, ?_, r10⟩
              · rfl
              · intro s hs
                rcases List.mem_append.1 hs with hs | hs
                · exact r9 s hs
                · simp at hs; subst hs; exact hs0
          · cases q
      · cases q
    · cases q
  · cases q
end
end Go.Proofs.YtjngkcnanhnopaaGreatDoor.Ev

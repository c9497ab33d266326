import Derived.Test.YtdammjolkcjogaaMa
import Derived.Maps.RangeRun
import Derived.RangeFuncGives
import Derived.Sort.MapsRangeIn
/-! A range over a map ('MapOf'): the iterator in whatever block ('Iter'), its start, its step, the round's entry. -/
namespace Go.Proofs.Ytdammjolkcjogaa
open Go.RowKit Go.Maps Go.MapKept
open Go.ChangeMaps (setBlock heap_setBlock_same heap_setBlock_other)

/-- Block r ranges over the map at b, which reads as g: the keys of 'done' have come; 'left' more are to come. -/
def Iter {α β : Type} (kv : α → Value) (ev : β → Value) (ok : α → Prop) (w : World) (b r : Nat) (g : α → Option β) (done : List α) (left : Nat) : Prop :=
  ∃ es clock since seen c0, w.heap[b]? = some (.map es clock) ∧ Stamped es clock ∧
    (∀ e ∈ es.toList, ∃ a v, e.key = kv a ∧ e.val = ev v ∧ g a = some v) ∧
    (∀ a v, g a = some v → ok a ∧ ∃ e ∈ es.toList, e.key = kv a ∧ e.val = ev v) ∧
    w.heap[r]? = some (.mapIter (some b) since seen c0) ∧ (∀ x ∈ es.toList, x.born < since) ∧ since ≤ c0 ∧ since ≤ clock ∧
    (leftOf es seen).size = left ∧ done.Nodup ∧ done.length + left = es.size ∧ (∀ e ∈ es.toList, seen.contains e.born = true ↔ ∃ a ∈ done, e.key = kv a) ∧ (∀ a ∈ done, ∃ v, g a = some v)

section
variable {α β : Type} {P : Program} {k t e : TypeId} {kv : α → Value} {ev : β → Value} {ok : α → Prop} {w w1 : World} {b r : Nat} {g : α → Option β} {done : List α} {left : Nat}

theorem Iter.move (h : Iter kv ev ok w b r g done left) (hb : w1.heap[b]? = w.heap[b]?) (hr : w1.heap[r]? = w.heap[r]?) : Iter kv ev ok w1 b r g done left := by
  obtain ⟨es, clock, since, seen, c0, h0, h1, h2, h3, h4, h5⟩ := h
  exact ⟨es, clock, since, seen, c0, hb.trans h0, h1, h2, h3, hr.trans h4, h5⟩
theorem Iter.mapOf (h : Iter kv ev ok w b r g done left) : MapOf kv ev ok w b g := by
  obtain ⟨es, clock, since, seen, c0, h0, h1, h2, h3, h4, h5⟩ := h
  exact ⟨es, clock, h0, h1, h2, h3⟩
theorem Iter.lt (h : Iter kv ev ok w b r g done left) : b < w.heap.size ∧ r < w.heap.size := by
  obtain ⟨es, clock, since, seen, c0, h0, h1, h2, h3, h4, h5⟩ := h
  exact ⟨(Array.getElem?_eq_some_iff.1 h0).1, (Array.getElem?_eq_some_iff.1 h4).1⟩
theorem Iter.walk (h : Iter kv ev ok w b r g done left) : ∃ o : Obj, w.heap[r]? = some o ∧ o.isWalk = true := by
  obtain ⟨es, clock, since, seen, c0, h0, h1, h2, h3, h4, h5⟩ := h
  exact ⟨_, h4, rfl⟩
theorem Iter.nodup (h : Iter kv ev ok w b r g done left) : done.Nodup := by
  obtain ⟨es, clock, since, seen, c0, h0, h1, h2, h3, h4, h5, h6, h7, h8, h9, h10⟩ := h
  exact h9
theorem Iter.there (h : Iter kv ev ok w b r g done left) : ∀ a ∈ done, ∃ v, g a = some v := by
  obtain ⟨es, clock, since, seen, c0, h0, h1, h2, h3, h4, h5, h6, h7, h8, h9, h10, h11, h12⟩ := h
  exact h12
theorem Iter.good (h : Iter kv ev ok w b r g done left) : ∀ a ∈ done, ok a := fun a ha => by
  obtain ⟨v, hv⟩ := h.there a ha
  exact h.mapOf.good hv

theorem sb_same {o' : Obj} (hr : w.heap[r]? = some o') (o : Obj) : (setBlock w r o).heap[r]? = some o := by
  obtain ⟨hlt, _⟩ := Array.getElem?_eq_some_iff.1 hr
  simp [setBlock, hlt]
theorem sb_other (o : Obj) {i : Nat} (h : i ≠ r) : (setBlock w r o).heap[i]? = w.heap[i]? := by
  simp [setBlock, Ne.symm h]

theorem leftOf_nil (es : Array MapEntry) : (leftOf es #[]).size = es.size := by
  unfold leftOf
  rw [Array.filter_eq_self.2 (by simp)]

/-- 'range' over a map. -/
theorem MapOf.range (h : MapOf kv ev ok w b g) (ht : P.underlying t = some (.map k e)) :
    ∃ o n, (Instr.range t (.map (some b))).run P w = .ok (.pointer (some ⟨w.heap.size, 0, none⟩)) (w.alloc o) ∧ o.isWalk = true ∧ Iter kv ev ok (w.alloc o) b w.heap.size g [] n := by
  obtain ⟨es, clock, hb, hs, h1, h2⟩ := h
  have hlt := (Array.getElem?_eq_some_iff.1 hb).1
  refine ⟨_, es.size, run_range_map w t k e b es clock ht hb, rfl, es, clock, clock, #[], clock, by rw [heap_alloc_old w _ hlt, hb], hs, h1, h2, heap_alloc_new w _, hs.1, Nat.le_refl _, Nat.le_refl _, leftOf_nil es, List.nodup_nil, by simp, ?_, by simp⟩
  intro e he
  simp

/-- 'next': all have come, or one more comes; then the round's entry is that one. -/
theorem Iter.next (h : Iter kv ev ok w b r g done left) (inj : ∀ a b, kv a = kv b → a = b) (ty : TypeId) :
    (left = 0 ∧ (∀ a, a ∈ done ↔ ∃ v, g a = some v) ∧ (Instr.next (.pointer (some ⟨r, 0, none⟩)) false ty).run P w = .ok (.tuple #[.bool false]) w) ∨
    ∃ a v w' left', left' < left ∧ g a = some v ∧ ok a ∧ a ∉ done ∧ (Instr.next (.pointer (some ⟨r, 0, none⟩)) false ty).run P w = .ok (.tuple #[.bool true, kv a, ev v]) w' ∧ Iter kv ev ok w' b r g (done ++ [a]) left' ∧
      (Instr.entry (.pointer (some ⟨r, 0, none⟩))).run P w' = .ok (.tuple #[kv a, ev v]) w' ∧ w.grownBy w' (some r) ∧ w'.heap.size = w.heap.size := by
  obtain ⟨es, clock, since, seen, c0, h0, h1, h2, h3, h4, h5, h6, h7, h8, h9, h10, h11, h12⟩ := h
  rcases run_next_at (P := P) w ty r b since c0 seen es clock h4 h0 h5 h6 with ⟨hl, hrun⟩ | ⟨e0, he0, w1, hw1, hrun⟩
  · left
    refine ⟨by omega, fun a => ⟨fun ha => h12 a ha, fun ⟨v, hv⟩ => ?_⟩, hrun⟩
    obtain ⟨_, e0, he, hk, _⟩ := h3 a v hv
    have hc : seen.contains e0.born = true := by
      cases hc : seen.contains e0.born with
      | true => rfl
      | false =>
        have : e0 ∈ (leftOf es seen) := Array.mem_filter.2 ⟨by simpa using he, by rw [hc]; rfl⟩
        have hemp : leftOf es seen = #[] := Array.eq_empty_of_size_eq_zero hl
        rw [hemp] at this
        simp at this
    obtain ⟨a', ha', hka⟩ := (h11 e0 he).1 hc
    rwa [inj a a' (hk.symm.trans hka)]
  · right
    obtain ⟨hmem, hns⟩ := mem_left he0
    obtain ⟨a, v, hk, hv, hg⟩ := h2 e0 hmem
    have hne : r ≠ b := by
      rintro rfl
      rw [h0] at h4
      cases h4
    have hh1 : ∀ j : Nat, w1.heap[j]? = w.heap[j]? := fun j => by rcases hw1 with rfl | rfl <;> rfl
    have hr1 : w1.heap[r]? = some (.mapIter (some b) since seen c0) := (hh1 r).trans h4
    have hnd : a ∉ done := fun ha => by
      have := (h11 e0 hmem).2 ⟨a, ha, hk⟩
      rw [hns] at this
      cases this
    have hb' : (setBlock w1 r (.mapIter (some b) since (seen.push e0.born) clock)).heap[b]? = some (.map es clock) := (sb_other _ (Ne.symm hne)).trans ((hh1 b).trans h0)
    have hr' := sb_same hr1 (Obj.mapIter (some b) since (seen.push e0.born) clock)
    have hsz : (setBlock w1 r (.mapIter (some b) since (seen.push e0.born) clock)).heap.size = w.heap.size := by
      rcases hw1 with rfl | rfl <;> simp [setBlock] <;> rfl
    have hlen : (leftOf es (seen.push e0.born)).size + 1 = (leftOf es seen).size := by
      have hsh := left_shrinks es seen e0 he0
      have hle : (leftOf es seen).size ≤ (leftOf es (seen.push e0.born)).size + 1 := by
        unfold leftOf
        have e1 : ∀ p : MapEntry → Bool, (es.filter p).size = (es.toList.filter p).length := fun p => by rw [← Array.toList_filter, Array.length_toList]
        rw [e1, e1]
        clear e1
        have hnb : (es.toList.map (·.born)).Nodup := by
          have := ((stamped_iff es clock).1 h1).2.1
          exact this
        clear hsh hsz hr' hb' hnd hr1 hh1 hrun h12 h11 h10 h9 h8 h7 h6 h5 h4 h3 h2 hk hv hg hne hw1 h1 h0 he0
        generalize es.toList = l at hmem hnb
        induction l with
        | nil => simp
        | cons x l ih =>
          have hnb' := List.nodup_cons.1 (by simpa using hnb : (x.born :: l.map (·.born)).Nodup)
          rcases List.mem_cons.1 hmem with rfl | hm
          · have hsame : l.filter (fun e => !(seen.push e0.born).contains e.born) = l.filter (fun e => !seen.contains e.born) := by
              apply List.filter_congr
              intro y hy
              have hyb : (y.born == e0.born) = false := beq_eq_false_iff_ne.2 (fun e => hnb'.1 (by rw [← e]; exact List.mem_map.2 ⟨y, hy, rfl⟩))
              rw [contains_push, hyb, Bool.or_false]
            rw [List.filter_cons, List.filter_cons, hsame]
            split <;> split <;> (try simp only [List.length_cons]) <;> omega
          · have ih' := ih hm hnb'.2
            have hxb : (x.born == e0.born) = false := beq_eq_false_iff_ne.2 (fun e => hnb'.1 (by rw [e]; exact List.mem_map.2 ⟨e0, hm, rfl⟩))
            rw [List.filter_cons, List.filter_cons, contains_push, hxb, Bool.or_false]
            split <;> (try simp only [List.length_cons]) <;> omega
      omega
    refine ⟨a, v, _, (leftOf es (seen.push e0.born)).size, by omega, hg, (h3 a v hg).1, hnd, ?_, ⟨es, clock, since, seen.push e0.born, clock, hb', h1, h2, h3, hr', h5, h7, h7, rfl, ?_, by simp; omega, ?_, ?_⟩, ?_, ⟨?_, ?_, ?_, by rw [hsz]; exact Nat.le_refl _, ?_⟩, hsz⟩
    · rw [← hk, ← hv]; exact hrun
    · rw [List.nodup_append]
      exact ⟨h9, by simp, fun x hx y hy e => hnd (by rw [List.mem_singleton.1 hy] at e; rwa [← e])⟩
    · intro e he
      rw [contains_push, Bool.or_eq_true, h11 e he, beq_iff_eq]
      constructor
      · rintro (⟨x, hx, hkx⟩ | hbn)
        · exact ⟨x, List.mem_append_left _ hx, hkx⟩
        · have hee : e = e0 := by
            have hf1 := find_born e es.toList ((stamped_iff es clock).1 h1).2.1 he
            have hf2 := find_born e0 es.toList ((stamped_iff es clock).1 h1).2.1 hmem
            rw [hbn] at hf1
            rw [hf1] at hf2
            exact Option.some.inj hf2
          exact ⟨a, by simp, by rw [hee, hk]⟩
      · rintro ⟨x, hx, hkx⟩
        rcases List.mem_append.1 hx with hx | hx
        · exact .inl ⟨x, hx, hkx⟩
        · rw [List.mem_singleton.1 hx] at hkx
          right
          have hp := ((stamped_iff es clock).1 h1).2.2
          obtain ⟨i, hi, rfl⟩ := List.getElem_of_mem he
          obtain ⟨j, hj, rfl⟩ := List.getElem_of_mem hmem
          rw [List.pairwise_iff_getElem] at hp
          rcases Nat.lt_trichotomy i j with hlt | rfl | hlt
          · exact absurd (hkx.trans hk.symm) (hp i j hi hj hlt)
          · rfl
          · exact absurd (hk.trans hkx.symm) (hp j i hj hi hlt)
    · intro x hx
      rcases List.mem_append.1 hx with hx | hx
      · exact h12 x hx
      · rw [List.mem_singleton.1 hx]; exact ⟨v, hg⟩
    · rw [← hk, ← hv]
      exact run_entry_at _ r b since seen es clock e0 hr' hb' hmem ((stamped_iff es clock).1 h1).2.1
    · rcases hw1 with rfl | rfl <;> rfl
    · rcases hw1 with rfl | rfl <;> rfl
    · rcases hw1 with rfl | rfl <;> rfl
    · intro j hj hn
      rw [sb_other _ (fun e => hn (by rw [e])), hh1]
theorem Iter.of_walks (h : Iter kv ev ok w b r g done left) (hk : KeepsWalks w w1) : Iter kv ev ok w1 b r g done left := by
  obtain ⟨es, clock, since, seen, c0, h0, h1, h2, h3, h4, h5⟩ := h
  exact ⟨es, clock, since, seen, c0, hk.same b _ h0 rfl, h1, h2, h3, hk.same r _ h4 rfl, h5⟩
end

section
variable {α β : Type} {P : Program} {k t e : TypeId} {kv : α → Value} {ev : β → Value} {ok : α → Prop} {w : World} {b r : Nat} {g : α → Option β} {done : List α} {left : Nat}
variable {F : Fence} {n : Nat} {ops : Array Oper} {rest : List Oper} {o : Oper} {a : Act} {Q : Exit → Act → World → Prop}

theorem wpListIn_range_map (hg : o.guard = none) (m : Operand) (t : TypeId) (hop : o.op = Op.range t m) (ht : P.underlying t = some (.map k e)) (hm : a.eval m = .map (some b)) (h : MapOf kv ev ok w b g)
    (hK : ∀ (ob : Obj) (n0 : Nat), ob.isWalk = true → Iter kv ev ok (w.alloc ob) b w.heap.size g [] n0 → wpListIn F n P ops Q rest (a.put o.dst (.pointer (some ⟨w.heap.size, 0, none⟩))) (w.alloc ob)) :
    wpListIn F n P ops Q (o :: rest) a w := by
  refine wpListIn_plain hg fun K' hK' => ?_
  obtain ⟨ob, n0, hrun, r1, r2⟩ := h.range (P := P) ht
  unfold Oper.wpIn
  refine ⟨?_, ?_⟩
  · simp [Oper.about, hop]
  · rw [Oper.semAt_plain F _ _ (by rw [hop]; intro c hc'; cases hc')]
    simp [execOp, hop, hm, hrun, Result.andThen]
    exact hK' _ _ (hK ob n0 r1 r2)
theorem wpListIn_next_iter (hg : o.guard = none) (it : Operand) (hop : o.op = Op.next it false) (hit : a.eval it = .pointer (some ⟨r, 0, none⟩)) (h : Iter kv ev ok w b r g done left) (inj : ∀ a b, kv a = kv b → a = b)
    (hDone : (∀ a, a ∈ done ↔ ∃ v, g a = some v) → wpListIn F n P ops Q rest (a.put o.dst (.tuple #[.bool false])) w)
    (hMore : ∀ (x : α) (v : β) (w' : World) (left' : Nat), left' < left → g x = some v → ok x → x ∉ done → Iter kv ev ok w' b r g (done ++ [x]) left' → (Instr.entry (.pointer (some ⟨r, 0, none⟩))).run P w' = .ok (.tuple #[kv x, ev v]) w' →
      w.grownBy w' (some r) → w'.heap.size = w.heap.size → wpListIn F n P ops Q rest (a.put o.dst (.tuple #[.bool true, kv x, ev v])) w') :
    wpListIn F n P ops Q (o :: rest) a w := by
  refine wpListIn_plain hg fun K' hK' => ?_
  unfold Oper.wpIn
  refine ⟨by simp [Oper.about, hop], ?_⟩
  rw [Oper.semAt_plain F _ _ (by rw [hop]; intro c hc'; cases hc')]
  rcases h.next (P := P) inj o.type with ⟨_, hl, hrun⟩ | ⟨x, v, w', left', h1, h2, h3, h4, hrun, h5, h6, h7, h8⟩
  · simp [execOp, hop, hit, hrun, Result.andThen]
    exact hK' _ _ (hDone hl)
  · simp [execOp, hop, hit, hrun, Result.andThen]
    exact hK' _ _ (hMore x v w' left' h1 h2 h3 h4 h5 h6 h7 h8)
theorem wpList_range_map (hg : o.guard = none) (m : Operand) (t : TypeId) (hop : o.op = Op.range t m) (ht : P.underlying t = some (.map k e)) (hm : a.eval m = .map (some b)) (h : MapOf kv ev ok w b g)
    (hK : ∀ (ob : Obj) (n0 : Nat), ob.isWalk = true → Iter kv ev ok (w.alloc ob) b w.heap.size g [] n0 → wpList P ops Q rest (a.put o.dst (.pointer (some ⟨w.heap.size, 0, none⟩))) (w.alloc ob)) :
    wpList P ops Q (o :: rest) a w := by
  refine wpList_plain hg fun K' hK' => ?_
  obtain ⟨ob, n0, hrun, r1, r2⟩ := h.range (P := P) ht
  unfold Oper.wp
  simp [execOp, hop, hm, hrun, Result.andThen]
  exact hK' _ _ (hK ob n0 r1 r2)
theorem wpList_next_iter (hg : o.guard = none) (it : Operand) (hop : o.op = Op.next it false) (hit : a.eval it = .pointer (some ⟨r, 0, none⟩)) (h : Iter kv ev ok w b r g done left) (inj : ∀ a b, kv a = kv b → a = b)
    (hDone : (∀ a, a ∈ done ↔ ∃ v, g a = some v) → wpList P ops Q rest (a.put o.dst (.tuple #[.bool false])) w)
    (hMore : ∀ (x : α) (v : β) (w' : World) (left' : Nat), left' < left → g x = some v → ok x → x ∉ done → Iter kv ev ok w' b r g (done ++ [x]) left' → (Instr.entry (.pointer (some ⟨r, 0, none⟩))).run P w' = .ok (.tuple #[kv x, ev v]) w' →
      w.grownBy w' (some r) → w'.heap.size = w.heap.size → wpList P ops Q rest (a.put o.dst (.tuple #[.bool true, kv x, ev v])) w') :
    wpList P ops Q (o :: rest) a w := by
  refine wpList_plain hg fun K' hK' => ?_
  unfold Oper.wp
  rcases h.next (P := P) inj o.type with ⟨_, hl, hrun⟩ | ⟨x, v, w', left', h1, h2, h3, h4, hrun, h5, h6, h7, h8⟩
  · simp [execOp, hop, hit, hrun, Result.andThen]
    exact hK' _ _ (hDone hl)
  · simp [execOp, hop, hit, hrun, Result.andThen]
    exact hK' _ _ (hMore x v w' left' h1 h2 h3 h4 h5 h6 h7 h8)
end
end Go.Proofs.Ytdammjolkcjogaa

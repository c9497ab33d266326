import Derived.Test.YtdammjolkcjogaaCliM
/-! chain.Run: what stands between two changes. -/
namespace Go.Proofs.Ytdammjolkcjogaa
open Go.RowKit Go.Maps Go.MapKept Go.WideMaps
open Go.Proofs.YtdammjolkcjogaaW.PrintWords Go.Proofs.YtdammjolkcjogaaW.PrintLast Go.Proofs.YtdammjolkcjogaaW.PrintMore
open PModelNames
set_option linter.unusedVariables false
set_option linter.unusedSimpArgs false
/-- The row's value behind k changes. -/
def yk (k : Nat) : AVal := if k = 0 then ⟨0, 0, 0, ⟨#[]⟩⟩ else ⟨1, (k : Int) - 1, 0, ⟨#[]⟩⟩
theorem yk_ne (k : Nat) : (yk k).f0 ≠ (yk (k + 1)).f0 ∨ (yk k).f1 ≠ (yk (k + 1)).f1 := by
  unfold yk
  by_cases h : k = 0
  · subst h; left; simp
  · right; rw [if_neg h, if_neg (by omega)]; show (k : Int) - 1 ≠ ((k + 1 : Nat) : Int) - 1; omega
theorem yk_succ (k : Nat) : yk (k + 1) = ⟨1, (k : Int), 0, ⟨#[]⟩⟩ := by
  unfold yk
  rw [if_neg (by omega)]
  show (⟨1, ((k + 1 : Nat) : Int) - 1, 0, ⟨#[]⟩⟩ : AVal) = _
  congr 1
  omega
/-- kq changes were taken off, ki were done. -/
structure RS (w W : World) (c mb t r q b C s0 : Nat) (its : List (Option (Nat × Nat))) (kq ki ko : Nat) (vo : Value) : Prop where
  bel : Below w.heap.size w W
  one : ∃ v, One W c mb t r v ∧ Kd.R kVal 53 W 0 (fun _ => True) v [yk ki]
  lst : Items W b its
  que : ∃ a', W.heap[q]? = some (.cells #[.slice a' (its.length - kq) (C - kq)] 94 (0, 0)) ∧ (kq < its.length → a' = some ⟨b, kq * 7, none⟩)
  st : W.heap[s0]? = some (.cells #[.int .i64 0, .slice none 0 0, .slice none 0 0] 44 (0, 0))
  out : (ko = 0 ∧ vo = .slice none 0 0) ∨ (0 < ko ∧ ∃ ob oc, vo = .slice (some ⟨ob, 0, none⟩) 1 oc ∧ 1 ≤ oc ∧ OutB W ob ∧ w.heap.size ≤ ob)
  new : w.heap.size ≤ c ∧ w.heap.size ≤ mb ∧ w.heap.size ≤ t ∧ w.heap.size ≤ r ∧ w.heap.size ≤ q ∧ w.heap.size ≤ b ∧ w.heap.size ≤ s0
  hC : its.length ≤ C
theorem cells_ne {W : World} {k k' e e' : Nat} {cs cs' : Array Value} (h : W.heap[k]? = some (.cells cs e (0, 0))) (h' : W.heap[k']? = some (.cells cs' e' (0, 0))) (hne : e ≠ e') : k ≠ k' := by
  rintro rfl
  rw [h] at h'
  injection h' with h'
  injection h' with _ h' _
  exact hne h'
theorem map_ne {W : World} {k k' e : Nat} {cs : Array Value} {α β : Type} {kv : α → Value} {ev : β → Value} {ok : α → Prop} {g : α → Option β} (h : W.heap[k]? = some (.cells cs e (0, 0))) (h' : MapOf kv ev ok W k' g) : k ≠ k' := by
  rintro rfl
  obtain ⟨es, cl, he⟩ := h'.isMap
  rw [h] at he
  cases he
section
variable {w W W1 : World} {c mb t r q b C s0 : Nat} {its : List (Option (Nat × Nat))} {kq ki ko : Nat} {vo : Value} {S : Nat → Prop}
theorem OutB.cells {ob : Nat} (h : OutB W ob) : ∃ cur, W.heap[ob]? = some (.cells cur 101 (0, 0)) := by
  obtain ⟨cur, _, _, _, _, _, _, h, _⟩ := h
  exact ⟨cur, h⟩
/-- Nothing of it is changed. -/
theorem RS.below (H : RS w W c mb t r q b C s0 its kq ki ko vo) (hb : Below W.heap.size W W1) : RS w W1 c mb t r q b C s0 its kq ki ko vo where
  bel := H.bel.trans (hb.mono H.bel.size)
  one := by
    obtain ⟨v, h1, h2⟩ := H.one
    exact ⟨v, h1.below hb, Kd.R_below h2 hb⟩
  lst := H.lst.below hb
  que := by
    obtain ⟨a', h1, h2⟩ := H.que
    exact ⟨a', (hb.block q (blk_lt h1)).trans h1, h2⟩
  st := (hb.block s0 (blk_lt H.st)).trans H.st
  out := H.out.imp id (fun ⟨h0, ob, oc, h1, h2, h3, h4⟩ => ⟨h0, ob, oc, h1, h2, h3.move (hb.block ob h3.lt), h4⟩)
  new := H.new
  hC := H.hC
/-- The list of what is to be done is written. -/
theorem RS.queue (H : RS w W c mb t r q b C s0 its kq ki ko vo) (hc : Chg W W1 (fun k => k = q)) {kq' : Nat} (hq : ∃ a', W1.heap[q]? = some (.cells #[.slice a' (its.length - kq') (C - kq')] 94 (0, 0)) ∧ (kq' < its.length → a' = some ⟨b, kq' * 7, none⟩)) :
    RS w W1 c mb t r q b C s0 its kq' ki ko vo := by
  obtain ⟨a0, hq0, _⟩ := H.que
  obtain ⟨v, h1, h2⟩ := H.one
  have hI : Items W1 b its := H.lst.chg hc (fun k cur e hk he => by
    subst hk
    rw [hq0] at he
    injection he with he
    injection he with _ he _
    subst he
    decide)
  have hR : Kd.R kVal 53 W1 0 (fun _ => True) v [yk ki] := R_chg h2 hc (fun k e cells _ he hk hkq => by
    subst hkq
    rw [hq0] at hk
    injection hk with hk
    injection hk with _ hk _
    subst hk
    revert he
    decide)
  exact {
    bel := H.bel.trans (hc.below H.bel.size (fun k hk => by rw [hk]; exact H.new.2.2.2.2.1))
    one := ⟨v, h1.chg hc (cells_ne h1.blk hq0 (by decide)) (fun e => (map_ne hq0 h1.amap) e.symm) (cells_ne h1.tab hq0 (by decide)) (fun e => (map_ne hq0 h1.rows) e.symm), hR⟩
    lst := hI
    que := hq
    st := (hc.block s0 (blk_lt H.st) (cells_ne H.st hq0 (by decide))).trans H.st
    out := H.out.imp id (fun ⟨h0, ob, oc, h1, h2, h3, h4⟩ => ⟨h0, ob, oc, h1, h2, h3.move (hc.block ob h3.lt (by
      obtain ⟨cur, hcur⟩ := h3.cells
      exact cells_ne hcur hq0 (by decide))), h4⟩)
    new := H.new
    hC := H.hC }
/-- A change is done. -/
theorem RS.applied (H : RS w W c mb t r q b C s0 its kq ki ko vo) (hc : Chg W W1 (fun k => k = t ∨ k = r)) {v' : Value} (h1' : One W1 c mb t r v') (h2' : Kd.R kVal 53 W1 0 (fun _ => True) v' [yk (ki + 1)]) :
    RS w W1 c mb t r q b C s0 its kq (ki + 1) ko vo := by
  obtain ⟨v, h1, h2⟩ := H.one
  obtain ⟨a', hq1, hq2⟩ := H.que
  have ne : ∀ {k e : Nat} {cs : Array Value}, W.heap[k]? = some (.cells cs e (0, 0)) → e ≠ 59 → ¬ (k = t ∨ k = r) := fun hk he h => by
    rcases h with h | h
    · exact cells_ne hk h1.tab he h
    · exact map_ne hk h1.rows h
  refine ⟨H.bel.trans (hc.below H.bel.size (fun k hk => ?_)), ⟨v', h1', h2'⟩, H.lst.chg hc (fun k cur e hk he => ?_), ⟨a', (hc.block q (blk_lt hq1) (ne hq1 (by decide))).trans hq1, hq2⟩, (hc.block s0 (blk_lt H.st) (ne H.st (by decide))).trans H.st, H.out.imp id (fun ⟨h0, ob, oc, g1, g2, g3, g4⟩ => ⟨h0, ob, oc, g1, g2, g3.move ?_, g4⟩), H.new, H.hC⟩
  · have := H.new
    rcases hk with hk | hk <;> omega
  · have he2 : e = 59 := by
      cases hd : decide (e = 59) with
      | true => exact of_decide_eq_true hd
      | false => exact absurd hk (ne he (of_decide_eq_false hd))
    subst he2
    decide
  · obtain ⟨cur, hcur⟩ := g3.cells
    exact hc.block ob g3.lt (ne hcur (by decide))
/-- A row is noted that is the first one. -/
theorem RS.first (H : RS w W c mb t r q b C s0 its kq ki 0 vo) (hb : Below W.heap.size W W1) {ob oc : Nat} (h1 : 1 ≤ oc) (h2 : W.heap.size ≤ ob) (h3 : OutB W1 ob) : RS w W1 c mb t r q b C s0 its kq ki 1 (.slice (some ⟨ob, 0, none⟩) 1 oc) :=
  { H.below hb with out := .inr ⟨by omega, ob, oc, rfl, h1, h3, Nat.le_trans H.bel.size h2⟩ }
/-- .. that was noted. -/
theorem RS.more {ob oc : Nat} (H : RS w W c mb t r q b C s0 its kq ki (ko + 1) (.slice (some ⟨ob, 0, none⟩) 1 oc)) (hO : OutB W ob) (h4 : w.heap.size ≤ ob) (h1 : 1 ≤ oc) (hc : Chg W W1 (fun k => k = ob)) (h3 : OutB W1 ob) : RS w W1 c mb t r q b C s0 its kq ki (ko + 2) (.slice (some ⟨ob, 0, none⟩) 1 oc) := by
  obtain ⟨cur, ho⟩ := hO.cells
  obtain ⟨v, g1, g2⟩ := H.one
  obtain ⟨a', hq1, hq2⟩ := H.que
  refine ⟨H.bel.trans (hc.below H.bel.size (fun k hk => by rw [hk]; exact h4)), ⟨v, g1.chg hc (cells_ne g1.blk ho (by decide)) (fun e => (map_ne ho g1.amap) e.symm) (cells_ne g1.tab ho (by decide)) (fun e => (map_ne ho g1.rows) e.symm), R_chg g2 hc (fun k e cells _ he hk hkq => ?_)⟩, H.lst.chg hc (fun k cur2 e hk he => ?_), ⟨a', (hc.block q (blk_lt hq1) (cells_ne hq1 ho (by decide))).trans hq1, hq2⟩, (hc.block s0 (blk_lt H.st) (cells_ne H.st ho (by decide))).trans H.st, .inr ⟨by omega, ob, oc, rfl, h1, h3, h4⟩, H.new, H.hC⟩
  · subst hkq
    rw [ho] at hk
    injection hk with hk
    injection hk with _ hk _
    subst hk
    revert he
    decide
  · subst hk
    rw [ho] at he
    injection he with he
    injection he with _ he _
    subst he
    decide
/-- One more row is noted. -/
theorem RS.noted (H : RS w W c mb t r q b C s0 its kq ki ko vo) (u1 u2 : Option Addr) (n1 c1 n2 c2 : Nat) :
    Calls Try.prog 41 #[vo, .agg #[.int .i64 1, .int .i64 1, .slice u1 n1 c1, .slice u2 n2 c2]] W fun e W1 => ∃ vo', e = .returned vo' ∧ RS w W1 c mb t r q b C s0 its kq ki (ko + 1) vo' := by
  have h0 := H.out
  rcases h0 with ⟨rfl, rfl⟩ | ⟨hk, ob, oc, rfl, h1, h2, h3⟩
  · refine (note_first u1 u2 n1 c1 n2 c2 W).mono ?_
    rintro e W1 ⟨ob, oc, rfl, g1, g2, g3, g4⟩
    exact ⟨_, rfl, H.first g4 g1 g2 g3⟩
  · obtain ⟨k, rfl⟩ : ∃ k, ko = k + 1 := ⟨ko - 1, by omega⟩
    refine (note_more u1 u2 n1 c1 n2 c2 ob oc W h1 h2).mono ?_
    rintro e W1 ⟨rfl, g1, g2⟩
    exact ⟨_, rfl, H.more h2 h3 h1 g2 g1⟩
end
end Go.Proofs.Ytdammjolkcjogaa

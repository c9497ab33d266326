import Derived.Test.YtljahhgankcalaaHtpM
import Derived.Test.YtljahhgankcalaaG2
import Derived.Test.YtljahhgankcalaaRz
import Derived.Test.YtljahhgankcalaaG5
import Derived.Test.YtljahhgankcalaaG3
import Derived.Test.YtljahhgankcalaaGF
/-! The document's heap: a plain model of it; find, most, Len, New. -/
namespace Go.Proofs.Ytljahhgankcalaa
open Go.RowKit Go.Maps Go.MapKept Go.WideMaps
open Go.Proofs.YtljahhgankcalaaW.PrintWords Go.Proofs.YtljahhgankcalaaW.PrintLast Go.Proofs.YtljahhgankcalaaW.PrintMore
open PHeapThere
set_option linter.unusedVariables false
set_option linter.unusedSimpArgs false

/-- The document's heap: its places (and where their rows lie), its numbers. -/
structure RH where
  L : List RP
  G : List (Int × Int)
def kGv : Kd (Int × Int) := Kd.pair (Kd.int .i64) (Kd.int .i64)
theorem kGv_openM {w : World} {base : Nat} {ok : Nat → Prop} {x : Int × Int} {cs : List Value} (h : kGv.M w base ok x cs) : cs = [.int .i64 x.1, .int .i64 x.2] := by
  obtain ⟨_, _, rfl, rfl, rfl⟩ := h
  rfl
theorem kGv_mkM (w : World) (base : Nat) (ok : Nat → Prop) (x : Int × Int) : kGv.M w base ok x [.int .i64 x.1, .int .i64 x.2] := ⟨[.int .i64 x.1], [.int .i64 x.2], rfl, rfl, rfl⟩
/-- In w the document's heap at x reads as R, by blocks of G alone. -/
structure RAt (w : World) (x : Nat) (R : RH) (G : Nat → Prop) (lv gv : Value) : Prop where
  blk : w.heap[x]? = some (.cells #[lv, gv] 136 (0, 0))
  pl : Kd.R kRP 38 w 0 G lv R.L
  gs : Kd.R kGv 152 w 0 G gv R.G
  rows : ∀ p ∈ R.L, Kd.R kVal 91 w 0 G (.slice p.A p.t.f6.length p.c) p.t.f6
  xG : G x
  bound : ∀ k, G k → k < w.heap.size
def RIs (w : World) (x : Nat) (R : RH) (G : Nat → Prop) : Prop := ∃ lv gv, RAt w x R G lv gv

section
variable {w w1 : World} {x : Nat} {R : RH} {G S : Nat → Prop} {lv gv : Value}
theorem RAt.chg (H : RAt w x R G lv gv) (hc : Chg w w1 S) (hS : ∀ k, G k → ¬ S k) : RAt w1 x R G lv gv where
  blk := (hc.block x (H.bound x H.xG) (hS x H.xG)).trans H.blk
  pl := R_chg H.pl hc (fun k _ _ hk _ _ => hS k hk)
  gs := R_chg H.gs hc (fun k _ _ hk _ _ => hS k hk)
  rows := fun p hp => R_chg (H.rows p hp) hc (fun k _ _ hk _ _ => hS k hk)
  xG := H.xG
  bound := fun k hk => Nat.lt_of_lt_of_le (H.bound k hk) hc.size
theorem RAt.mono {G' : Nat → Prop} (H : RAt w x R G lv gv) (h1 : ∀ k, G k → G' k) (h2 : ∀ k, G' k → k < w.heap.size) : RAt w x R G' lv gv where
  blk := H.blk
  pl := Kd.R_mono H.pl h1
  gs := Kd.R_mono H.gs h1
  rows := fun p hp => Kd.R_mono (H.rows p hp) h1
  xG := h1 _ H.xG
  bound := h2
theorem RIs.chg (H : RIs w x R G) (hc : Chg w w1 S) (hS : ∀ k, G k → ¬ S k) : RIs w1 x R G := by
  obtain ⟨lv, gv, H⟩ := H
  exact ⟨lv, gv, H.chg hc hS⟩
theorem RIs.below (H : RIs w x R G) (hb : Below w.heap.size w w1) : RIs w1 x R G := H.chg (Chg.of_below hb (fun _ => False)) (fun _ _ h => h)
theorem RIs.bound (H : RIs w x R G) : ∀ k, G k → k < w.heap.size := by
  obtain ⟨lv, gv, H⟩ := H
  exact H.bound
theorem RIs.mono {G' : Nat → Prop} (H : RIs w x R G) (h1 : ∀ k, G k → G' k) (h2 : ∀ k, G' k → k < w.heap.size) : RIs w x R G' := by
  obtain ⟨lv, gv, H⟩ := H
  exact ⟨lv, gv, H.mono h1 h2⟩
theorem gv_cells {ok : Nat → Prop} {v : Value} {gs : List (Int × Int)} {e base : Nat} (h : Kd.R kGv e w base ok v gs) {i : Nat} (hi : i < gs.length) :
    ∃ g cap, v = .slice (some ⟨g, 0, none⟩) gs.length cap ∧ gs.length ≤ cap ∧ w.cell? ⟨g, i * 2, none⟩ = some (.int .i64 gs[i].1) ∧ w.cell? ⟨g, i * 2 + 1, none⟩ = some (.int .i64 gs[i].2) := by
  obtain ⟨g, cap, cur, c, hv, _, _, hg, h1, h2, _, hM, _, hc⟩ := R_elem h hi
  obtain rfl := kGv_openM hM
  exact ⟨g, cap, hv, h1, (blk_cell hg _).trans (hc 0 _ rfl), (blk_cell hg _).trans (hc 1 _ rfl)⟩
end

/-- Where a slot's place stands. -/
def RH.find (R : RH) (s : Int) : Int := if R.L.findIdx (fun p => p.slot == s) < R.L.length then (R.L.findIdx (fun p => p.slot == s) : Nat) else -1
def RH.most (R : RH) (no : Int) : Int := ((R.G.find? (fun g => g.1 == no)).map (·.2)).getD 0
theorem RH.find_hit {R : RH} {s : Int} {i : Nat} (hi : i < R.L.length) (he : R.L[i].slot = s) (hb : ∀ j (hj : j < R.L.length), j < i → R.L[j].slot ≠ s) : R.find s = i := by
  have : R.L.findIdx (fun p => p.slot == s) = i := (List.findIdx_eq hi).2 ⟨by simpa using he, fun j hj => by simpa using hb j (by omega) hj⟩
  unfold RH.find
  rw [this, if_pos hi]
theorem RH.find_miss {R : RH} {s : Int} (hb : ∀ p ∈ R.L, p.slot ≠ s) : R.find s = -1 := by
  have : R.L.findIdx (fun p => p.slot == s) = R.L.length := List.findIdx_eq_length.2 (fun p hp => by simpa using hb p hp)
  unfold RH.find
  rw [this, if_neg (by omega)]
theorem RH.most_hit {R : RH} {no : Int} {i : Nat} (hi : i < R.G.length) (he : R.G[i].1 = no) (hb : ∀ j (hj : j < R.G.length), j < i → R.G[j].1 ≠ no) : R.most no = R.G[i].2 := by
  have : R.G.find? (fun g => g.1 == no) = some R.G[i] := List.find?_eq_some_iff_getElem.2 ⟨by simpa using he, i, hi, rfl, fun j hj => by simpa using hb j (by omega) hj⟩
  unfold RH.most
  rw [this]
  rfl
theorem RH.most_miss {R : RH} {no : Int} (hb : ∀ g ∈ R.G, g.1 ≠ no) : R.most no = 0 := by
  have : R.G.find? (fun g => g.1 == no) = none := List.find?_eq_none.2 (fun g hg => by simpa using hb g hg)
  unfold RH.most
  rw [this]
  rfl

set_option maxRecDepth 100000 in
theorem find_calls (x : Nat) (s : Int) (R : RH) (G : Nat → Prop) (w : World) (H : RIs w x R G) (hl : R.L.length < 2147483648) :
    Calls Try.prog 85 #[.pointer (some ⟨x, 0, none⟩), .int .i64 s] w fun e w' => e = .returned (.int .i64 (R.find s)) ∧ w' = w := by
  obtain ⟨lv, gv, H⟩ := H
  obtain ⟨A, c, e⟩ := Kd.R_slice H.pl
  subst e
  have c0 := blk_cell H.blk 0
  simp at c0
  have HL := Aside0.mk H.pl
  have hl2 : (R.L.length : Int) < 2147483648 := by omega
  clear H hl
  go_enter Try.func85, Try.ntmps85
  go_wp2
  go_loopw [5] (fun v5 wr => ∃ i : Nat, i ≤ R.L.length ∧ v5 = .int .i64 i ∧ wr = w ∧ Aside0 (∀ j (hj : j < R.L.length), j < i → R.L[j].slot ≠ s)) (fun v5 _ => R.L.length - (intOf v5).toNat)
  case atStart => exact ⟨0, Nat.zero_le _, rfl, rfl, ⟨fun j _ hj => by omega⟩⟩
  case round =>
    obtain ⟨i, hi, rfl, rfl, hb⟩ := hrel
    by_cases hlt : i < R.L.length
    · have d1 : decide (i < R.L.length) = true := decide_eq_true hlt
      have d2 : decide ((i : Int) < (R.L.length : Int)) = true := decide_eq_true (by omega)
      have i1 : (0 : Int) ≤ (i : Int) := by omega
      have i2 : (i : Int) < (R.L.length : Int) := by omega
      obtain ⟨g, cap, hv, hcap, x0, _⟩ := rp_cells HL.out hlt
      injection hv with hv _ hvc
      subst hv
      subst hvc
      by_cases he : R.L[i].slot = s
      · have hf := RH.find_hit hlt he hb.out
        have e1 : (R.L[i].slot == s) = true := beq_iff_eq.2 he
        clear he hb
        replace hf := Aside0.mk hf
        go_wp2
        go_ret
        exact ⟨by rw [hf.out]; rfl, rfl⟩
      · have e1 : (R.L[i].slot == s) = false := beq_eq_false_iff_ne.2 he
        have hb2 : Aside0 (∀ j (hj : j < R.L.length), j < i + 1 → R.L[j].slot ≠ s) := ⟨fun j hj h => by
          by_cases e : j = i
          · subst e; exact he
          · exact hb.out j hj (by omega)⟩
        have hl3 := Aside0.mk hlt
        clear he hb
        go_wp2
        go_roundw
        case measure => have := hl3.out; simp [intOf]; omega
        case rel => exact ⟨i + 1, by have := hl3.out; omega, by go_num, by first | rfl | trivial, hb2⟩
    · have d1 : decide (i < R.L.length) = false := decide_eq_false hlt
      have d2 : decide ((i : Int) < (R.L.length : Int)) = false := decide_eq_false (by omega)
      have hf : R.find s = -1 := RH.find_miss (fun p hp => by
        obtain ⟨j, hj, rfl⟩ := List.mem_iff_getElem.1 hp
        exact hb.out j hj (by omega))
      replace hf := Aside0.mk hf
      clear hlt hb
      go_wp2
      go_ret
      exact ⟨by rw [hf.out]; rfl, rfl⟩
set_option maxRecDepth 100000 in
theorem most_calls (x : Nat) (no : Int) (R : RH) (G : Nat → Prop) (w : World) (H : RIs w x R G) (hl : R.G.length < 2147483648) :
    Calls Try.prog 87 #[.pointer (some ⟨x, 0, none⟩), .int .i64 no] w fun e w' => e = .returned (.int .i64 (R.most no)) ∧ w' = w := by
  obtain ⟨lv, gv, H⟩ := H
  obtain ⟨A, c, e⟩ := Kd.R_slice H.gs
  subst e
  have c0 := blk_cell H.blk 1
  simp at c0
  have HL := Aside0.mk H.gs
  have hl2 : (R.G.length : Int) < 2147483648 := by omega
  clear H hl
  go_enter Try.func87, Try.ntmps87
  go_wp2
  go_loopw [5] (fun v5 wr => ∃ i : Nat, i ≤ R.G.length ∧ v5 = .int .i64 i ∧ wr = w ∧ Aside0 (∀ j (hj : j < R.G.length), j < i → R.G[j].1 ≠ no)) (fun v5 _ => R.G.length - (intOf v5).toNat)
  case atStart => exact ⟨0, Nat.zero_le _, rfl, rfl, ⟨fun j _ hj => by omega⟩⟩
  case round =>
    obtain ⟨i, hi, rfl, rfl, hb⟩ := hrel
    by_cases hlt : i < R.G.length
    · have d1 : decide (i < R.G.length) = true := decide_eq_true hlt
      have d2 : decide ((i : Int) < (R.G.length : Int)) = true := decide_eq_true (by omega)
      have i1 : (0 : Int) ≤ (i : Int) := by omega
      have i2 : (i : Int) < (R.G.length : Int) := by omega
      obtain ⟨g, cap, hv, hcap, x0, x1⟩ := gv_cells HL.out hlt
      injection hv with hv _ hvc
      subst hv
      subst hvc
      by_cases he : R.G[i].1 = no
      · have hf := RH.most_hit hlt he hb.out
        have e1 : (R.G[i].1 == no) = true := beq_iff_eq.2 he
        clear he hb
        replace hf := Aside0.mk hf
        go_wp2
        go_ret
        exact ⟨by rw [hf.out]; rfl, rfl⟩
      · have e1 : (R.G[i].1 == no) = false := beq_eq_false_iff_ne.2 he
        have hb2 : Aside0 (∀ j (hj : j < R.G.length), j < i + 1 → R.G[j].1 ≠ no) := ⟨fun j hj h => by
          by_cases e : j = i
          · subst e; exact he
          · exact hb.out j hj (by omega)⟩
        have hl3 := Aside0.mk hlt
        clear he hb
        go_wp2
        go_roundw
        case measure => have := hl3.out; simp [intOf]; omega
        case rel => exact ⟨i + 1, by have := hl3.out; omega, by go_num, by first | rfl | trivial, hb2⟩
    · have d1 : decide (i < R.G.length) = false := decide_eq_false hlt
      have d2 : decide ((i : Int) < (R.G.length : Int)) = false := decide_eq_false (by omega)
      have hf : R.most no = 0 := RH.most_miss (fun p hp => by
        obtain ⟨j, hj, rfl⟩ := List.mem_iff_getElem.1 hp
        exact hb.out j hj (by omega))
      replace hf := Aside0.mk hf
      clear hlt hb
      go_wp2
      go_ret
      exact ⟨by rw [hf.out]; rfl, rfl⟩
theorem rlen_calls (x : Nat) (R : RH) (G : Nat → Prop) (w : World) (H : RIs w x R G) (hl : R.L.length < 2147483648) :
    Calls Try.prog 88 #[.pointer (some ⟨x, 0, none⟩)] w fun e w' => e = .returned (.int .i64 R.L.length) ∧ w' = w := by
  obtain ⟨lv, gv, H⟩ := H
  obtain ⟨A, c, e⟩ := Kd.R_slice H.pl
  subst e
  have c0 := blk_cell H.blk 0
  simp at c0
  have hl2 : (R.L.length : Int) < 2147483648 := by omega
  clear H hl
  go_enter Try.func88, Try.ntmps88
  go_wp2
  go_ret
  exact ⟨rfl, rfl⟩
theorem rnew_calls (w : World) : Calls Try.prog 46 #[] w fun e w' => ∃ x, e = .returned (.pointer (some ⟨x, 0, none⟩)) ∧ RIs w' x ⟨[], []⟩ (fun k => w.heap.size ≤ k ∧ k < w'.heap.size) ∧ Below w.heap.size w w' := by
  go_enter Try.func46, Try.ntmps46
  go_wp2
  go_ret
  refine ⟨_, rfl, ⟨_, _, heap_alloc_new w _, Kd.R_nil _ _ _ _ _, Kd.R_nil _ _ _ _ _, fun p hp => (by cases hp), ⟨Nat.le_refl _, by simp⟩, fun k hk => hk.2⟩, (Below.refl _ w).alloc (Nat.le_refl _) _⟩
end Go.Proofs.Ytljahhgankcalaa

/-! rise: numbers, rising, each once: a plain law. -/
namespace Go.Proofs.Ytljahhgankcalaa
open Go.RowKit Go.Maps Go.MapKept Go.WideMaps
open Go.Proofs.YtljahhgankcalaaW.PrintWords Go.Proofs.YtljahhgankcalaaW.PrintLast Go.Proofs.YtljahhgankcalaaW.PrintMore
open PHeapPlays
set_option linter.unusedVariables false
set_option linter.unusedSimpArgs false

theorem rd_at (l : List Int) {i : Nat} (hi : i < l.length) : Go.Proofs.YtljahhgankcalaaW.PrintWords.rd l (i : Int) = l[i] := by
  unfold Go.Proofs.YtljahhgankcalaaW.PrintWords.rd
  simp [hi]
theorem rise_in (x3 : List Int) (a : Int) (m : Nat) (hm : m ≤ x3.length) (h3 : x3.Pairwise (· < ·)) (hb : ∀ j (hj : j < x3.length), j < m → x3[j] < a) (ha : ∀ j (hj : j < x3.length), m ≤ j → a < x3[j]) :
    (x3.take m ++ [a] ++ x3.drop m).Pairwise (· < ·) ∧ (∀ x, x ∈ x3.take m ++ [a] ++ x3.drop m ↔ x ∈ x3 ∨ x = a) ∧ (x3.take m ++ [a] ++ x3.drop m).length = x3.length + 1 := by
  have ht : ∀ x ∈ x3.take m, x < a := fun x hx => by
    obtain ⟨j, hj, rfl⟩ := List.mem_iff_getElem.1 hx
    rw [List.length_take] at hj
    rw [List.getElem_take]
    exact hb j (by omega) (by omega)
  have hd : ∀ x ∈ x3.drop m, a < x := fun x hx => by
    obtain ⟨j, hj, rfl⟩ := List.mem_iff_getElem.1 hx
    rw [List.length_drop] at hj
    rw [List.getElem_drop]
    exact ha _ (by omega) (by omega)
  refine ⟨?_, fun x => ?_, ?_⟩
  · rw [List.pairwise_append, List.pairwise_append]
    refine ⟨⟨h3.sublist (List.take_sublist _ _), by simp, fun x hx y hy => by rw [List.mem_singleton.1 hy]; exact ht x hx⟩, h3.sublist (List.drop_sublist _ _), fun x hx y hy => ?_⟩
    rcases List.mem_append.1 hx with hx | hx
    · exact Int.lt_trans (ht x hx) (hd y hy)
    · rw [List.mem_singleton.1 hx]; exact hd y hy
  · have : x ∈ x3 ↔ x ∈ x3.take m ∨ x ∈ x3.drop m := by rw [← List.mem_append, List.take_append_drop]
    rw [this]
    simp only [List.mem_append, List.mem_singleton]
    constructor
    · rintro ((h | h) | h)
      · exact .inl (.inl h)
      · exact .inr h
      · exact .inl (.inr h)
    · rintro ((h | h) | h)
      · exact .inl (.inl h)
      · exact .inr h
      · exact .inl (.inr h)
  · simp only [List.length_append, List.length_take, List.length_drop, List.length_singleton]
    omega

theorem rise_up {x0 y : List Int} {i : Int} {r : List Int} (K : Nat) (h : covenantref11_rise.l0 K x0 y i = some r) : ∀ d, covenantref11_rise.l0 (K + d) x0 y i = some r
  | 0 => h
  | d + 1 => (covenantref11_rise.mono_l (K + d)).1 _ _ _ r (rise_up K h d)
theorem rise_l1 (x0 x3 : List Int) (i : Nat) (hi : i < x0.length) (hl0 : x0.length < 1000000000) (hl3 : x3.length < 1000000000) (h3 : x3.Pairwise (· < ·)) : ∀ n m, m + n = x3.length → (∀ j (hj : j < x3.length), j < m → x3[j] < x0[i]) →
    ∃ y : List Int, y.Pairwise (· < ·) ∧ (∀ x, x ∈ y ↔ x ∈ x3 ∨ x = x0[i]) ∧ y.length ≤ x3.length + 1 ∧ ∀ K r, covenantref11_rise.l0 K x0 y ((i : Int) + 1) = some r → covenantref11_rise.l1 (K + n + 1) x0 x3 i m = some r
  | 0, m, hm, hb => by
    have hr := rise_in x3 x0[i] m (by omega) h3 hb (fun j hj hmj => by omega)
    refine ⟨_, hr.1, hr.2.1, by omega, fun K r h => ?_⟩
    rw [covenantref11_rise.l1, if_neg (by omega)]
    simp only [Option.bind_some]
    rw [if_pos (by omega), if_pos (by omega), if_pos (by simp; omega), if_pos (by omega), if_pos (by omega), if_pos (by simp; omega), if_pos (by simp; omega), wrap64_self (by omega) (by omega), rd_at x0 hi]
    simpa using h
  | n + 1, m, hm, hb => by
    have hmx : m < x3.length := by omega
    by_cases h1 : x3[m] < x0[i]
    · obtain ⟨y, a, b, c, d⟩ := rise_l1 x0 x3 i hi hl0 hl3 h3 n (m + 1) (by omega) (fun j hj h => by
        by_cases e : j = m
        · subst e; exact h1
        · exact hb j hj (by omega))
      refine ⟨y, a, b, c, fun K r h => ?_⟩
      rw [covenantref11_rise.l1, if_pos (by omega), if_pos (by omega), if_pos (by omega), if_pos (by omega), if_pos (by rw [rd_at x3 hmx, rd_at x0 hi]; exact h1), wrap64_self (by omega) (by omega)]
      exact d K r h
    · by_cases h2 : x3[m] = x0[i]
      · refine ⟨x3, h3, fun x => ⟨.inl, fun h => ?_⟩, by omega, fun K r h => ?_⟩
        · rcases h with h | h
          · exact h
          · rw [h, ← h2]; exact List.getElem_mem hmx
        · rw [covenantref11_rise.l1, if_pos (by omega), if_pos (by omega), if_pos (by omega), if_pos (by omega), if_neg (by rw [rd_at x3 hmx, rd_at x0 hi]; exact h1), if_pos (by rw [rd_at x3 hmx, rd_at x0 hi]; exact h2), wrap64_self (by omega) (by omega)]
          exact rise_up K h (n + 1)
      · have hr := rise_in x3 x0[i] m (by omega) h3 hb (fun j hj hmj => by
          by_cases e : m = j
          · subst e; omega
          · have := List.pairwise_iff_getElem.1 h3 m j hmx hj (by omega)
            omega)
        refine ⟨_, hr.1, hr.2.1, by omega, fun K r h => ?_⟩
        rw [covenantref11_rise.l1, if_pos (by omega), if_pos (by omega), if_pos (by omega), if_pos (by omega), if_neg (by rw [rd_at x3 hmx, rd_at x0 hi]; exact h1), if_neg (by rw [rd_at x3 hmx, rd_at x0 hi]; exact h2)]
        simp only [Option.bind_some]
        rw [if_pos (by omega), if_pos (by simp; omega), if_pos (by simp; omega), if_pos (by simp; omega), wrap64_self (by omega) (by omega), rd_at x0 hi]
        refine rise_up K ?_ (n + 1)
        simpa using h
theorem rise_l0 (x0 : List Int) (hl0 : x0.length < 100000000) : ∀ n i, i + n = x0.length → ∀ x3 : List Int, x3.Pairwise (· < ·) → x3.length ≤ i → (∀ x, x ∈ x3 ↔ x ∈ x0.take i) →
    ∃ K r, covenantref11_rise.l0 K x0 x3 (i : Int) = some r ∧ r.Pairwise (· < ·) ∧ ∀ x, x ∈ r ↔ x ∈ x0
  | 0, i, hi, x3, h3, hl, hm => ⟨1, x3, by rw [covenantref11_rise.l0, if_neg (by omega)], h3, fun x => by rw [hm, List.take_of_length_le (by omega)]⟩
  | n + 1, i, hi, x3, h3, hl, hm => by
    obtain ⟨y, a, b, c, d⟩ := rise_l1 x0 x3 i (by omega) (by omega) (by omega) h3 x3.length 0 (by omega) (fun j _ h => by omega)
    obtain ⟨K, r, h1, h2, h3'⟩ := rise_l0 x0 hl0 n (i + 1) (by omega) y a (by omega) (fun x => by
      rw [b, hm, List.take_succ_eq_append_getElem (by omega), List.mem_append, List.mem_singleton])
    refine ⟨K + x3.length + 1 + 1, r, ?_, h2, h3'⟩
    rw [covenantref11_rise.l0, if_pos (by omega)]
    exact d K r h1
theorem rise_law (l : List Int) (hl : l.length < 100000000) : ∃ K r, covenantref11_rise.f K l = some r ∧ r.Pairwise (· < ·) ∧ ∀ x, x ∈ r ↔ x ∈ l :=
  rise_l0 l hl l.length 0 (by omega) [] (by simp) (by simp) (by simp)
end Go.Proofs.Ytljahhgankcalaa

/-! The document's heap: IDs, Tables, Slots, At. (Printed by genpb.py, but for At.) -/
namespace Go.Proofs.Ytljahhgankcalaa
open Go.RowKit Go.Maps Go.MapKept Go.WideMaps
open Go.Proofs.YtljahhgankcalaaW.PrintWords Go.Proofs.YtljahhgankcalaaW.PrintLast Go.Proofs.YtljahhgankcalaaW.PrintMore
open PHeapThere
set_option linter.unusedVariables false
set_option linter.unusedSimpArgs false

def selI (no : Int) (l : List RP) : List Int := (l.filter (fun p => p.t.f0 == no)).map (·.t.f1)
def selT (l : List RP) : List Int := l.map (·.t.f0)
def selS (no id : Int) (l : List RP) : List Int := (l.filter (fun p => p.t.f0 == no && p.t.f1 == id)).map (·.slot)
theorem take_up {l : List RP} {k : Nat} (h : k < l.length) : l.take (k + 1) = l.take k ++ [l[k]] := List.take_succ_eq_append_getElem h
theorem selI_hit {no : Int} {l : List RP} {k : Nat} (h : k < l.length) (e : l[k].t.f0 = no) : selI no (l.take (k + 1)) = selI no (l.take k) ++ [l[k].t.f1] := by
  unfold selI
  rw [take_up h, List.filter_append, List.map_append]
  simp [e]
theorem selI_miss {no : Int} {l : List RP} {k : Nat} (h : k < l.length) (e : l[k].t.f0 ≠ no) : selI no (l.take (k + 1)) = selI no (l.take k) := by
  unfold selI
  rw [take_up h, List.filter_append, List.map_append]
  simp [e]
theorem selT_hit {l : List RP} {k : Nat} (h : k < l.length) : selT (l.take (k + 1)) = selT (l.take k) ++ [l[k].t.f0] := by
  unfold selT
  rw [take_up h, List.map_append]
  rfl
theorem selS_hit {no id : Int} {l : List RP} {k : Nat} (h : k < l.length) (e : l[k].t.f0 = no) (e2 : l[k].t.f1 = id) : selS no id (l.take (k + 1)) = selS no id (l.take k) ++ [l[k].slot] := by
  unfold selS
  rw [take_up h, List.filter_append, List.map_append]
  simp [e, e2]
theorem selS_miss {no id : Int} {l : List RP} {k : Nat} (h : k < l.length) (e : ¬ (l[k].t.f0 = no ∧ l[k].t.f1 = id)) : selS no id (l.take (k + 1)) = selS no id (l.take k) := by
  unfold selS
  rw [take_up h, List.filter_append, List.map_append]
  have : (l[k].t.f0 == no && l[k].t.f1 == id) = false := by
    rw [Bool.and_eq_false_iff]
    by_cases h1 : l[k].t.f0 = no
    · exact .inr (beq_eq_false_iff_ne.2 (fun h2 => e ⟨h1, h2⟩))
    · exact .inl (beq_eq_false_iff_ne.2 h1)
  simp [this]
theorem selI_len (no : Int) (l : List RP) : (selI no l).length ≤ l.length := by unfold selI; rw [List.length_map]; exact List.length_filter_le _ _
theorem selT_len (l : List RP) : (selT l).length ≤ l.length := by unfold selT; rw [List.length_map]; exact Nat.le_refl _
theorem selS_len (no id : Int) (l : List RP) : (selS no id l).length ≤ l.length := by unfold selS; rw [List.length_map]; exact List.length_filter_le _ _

set_option maxRecDepth 100000 in
set_option maxHeartbeats 2000000 in
/-- Tables: those of the places, rising. -/
theorem rtables_calls (x : Nat) (R : RH) (G : Nat → Prop) (w : World) (H : RIs w x R G) (hl : R.L.length < 90000000) :
    Calls Try.prog 89 #[.pointer (some ⟨x, 0, none⟩)] w fun e w' => ∃ v l, e = .returned v ∧ Kd.R kInt 3 w' w.heap.size (fun _ => True) v l ∧ l.Pairwise (· < ·) ∧ (∀ n, n ∈ l ↔ n ∈ selT R.L) ∧ Below w.heap.size w w' := by
  obtain ⟨lv, gv, H⟩ := H
  obtain ⟨A, c, e⟩ := Kd.R_slice H.pl
  subst e
  have c00 := blk_cell H.blk 0
  simp at c00
  have HL := Aside0.mk H.pl
  have C0 := Aside0.mk c00
  have hl2 : (R.L.length : Int) < 90000000 := by omega
  clear H c00
  replace hl := Aside0.mk hl
  have hrise := rise_law (selT R.L) (by have := hl.out; have := selT_len R.L; omega)
  obtain ⟨K, rl, hr1, hr2, hr3⟩ := hrise
  replace hr1 := Aside0.mk hr1
  replace hr2 := Aside0.mk hr2
  replace hr3 := Aside0.mk hr3
  go_enter Try.func89, Try.ntmps89
  go_wp2
  go_loopw [3, 4] (fun v1 v2 wr => ∃ k : Nat, k ≤ R.L.length ∧ v2 = .int .i64 k ∧ Aside0 (Kd.R kInt 3 wr w.heap.size (fun _ => True) v1 (selT (R.L.take k))) ∧ Aside0 (Below w.heap.size w wr)) (fun _ v2 _ => R.L.length - (intOf v2).toNat)
  case atStart => exact ⟨0, Nat.zero_le _, rfl, ⟨Kd.R_nil _ _ _ _ _⟩, ⟨Below.refl _ _⟩⟩
  case round =>
    obtain ⟨k, hk, rfl, HO, HB⟩ := hrel
    have c0 := (HB.out.cell (p := ⟨x, 0, none⟩) (World.block_lt_of_cell? w _ C0.out)).trans C0.out
    by_cases hlt : k < R.L.length
    · have d1 : decide (k < R.L.length) = true := decide_eq_true hlt
      have d2 : decide ((k : Int) < (R.L.length : Int)) = true := decide_eq_true (by omega)
      have i1 : (0 : Int) ≤ (k : Int) := by omega
      have i2 : (k : Int) < (R.L.length : Int) := by omega
      obtain ⟨g, cap, hv, hcap, y0, y1, y2, hrest⟩ := rp_cells HL.out hlt
      injection hv with hv hvl hvc
      clear hvl
      subst hv
      subst hvc
      have x0 := (HB.out.cell (p := ⟨g, k * 8, none⟩) (World.block_lt_of_cell? w _ y0)).trans y0
      have x1 := (HB.out.cell (p := ⟨g, k * 8 + 1, none⟩) (World.block_lt_of_cell? w _ y1)).trans y1
      have x2 := (HB.out.cell (p := ⟨g, k * 8 + 2, none⟩) (World.block_lt_of_cell? w _ y2)).trans y2
      clear y0 y1 y2 hrest
      have hl3 := Aside0.mk hlt
      have hln : (selT (R.L.take k)).length ≤ k := Nat.le_trans (selT_len (R.L.take k)) (by rw [List.length_take]; omega)
      replace hln := Aside0.mk hln
      have htk := selT_hit hlt
      generalize R.L[k].t.f0 = nv at htk x1
      replace htk := Aside0.mk htk
      obtain ⟨va, vc, e3⟩ := Kd.R_slice HO.out
      subst e3
      have hsz := HB.out.size
      go_wp2_with (at_builtin; go_loud (refine Kd.R_append kInt (w0 := w) w.heap.size rfl (.tmp 14) (.tmp 24) 53 3 (.int .i64 0) 8 rfl Try.underlying53 Try.infoInt rfl (by decide) (by omega) (.slice va (selT (R.L.take k)).length vc) (selT (R.L.take k)) (nv) [.int .i64 (nv)] (fun _ => True) (fun _ => False) rfl rfl rfl (fun _ h => h.elim) (fun _ _ => trivial) HO.out HB.out hsz (by have := hln.out; omega) ?_); intro v1 w5 ho hb hg hat)
      have HO5 := Aside0.mk (htk.out ▸ ho)
      have HB5 := Aside0.mk hb
      clear ho hb hg hat
      go_wp2
      go_roundw
      case measure => have := hl3.out; simp [intOf]; omega
      case rel => exact ⟨k + 1, by have := hl3.out; omega, by go_num, HO5, HB5⟩
    · have d1 : decide (k < R.L.length) = false := decide_eq_false hlt
      have d2 : decide ((k : Int) < (R.L.length : Int)) = false := decide_eq_false (by omega)
      obtain rfl : k = R.L.length := by omega
      have hO := HO.out
      rw [List.take_length] at hO
      replace hO := Aside0.mk hO
      clear HO hlt
      obtain ⟨va, vc, e3⟩ := Kd.R_slice hO.out
      subst e3
      have n := PHeapPlays.covenantref11_rise.calls K va vc (selT R.L) rl wr (Kd.R_reads' hO.out).2.2 (Kd.R_reads' hO.out).2.1 hr1.out
      go_wp2_with fail
      refine n.mono ?_
      clear n
      rintro e w6 ⟨v6, rfl, o6, b6⟩
      have O6 := Aside0.mk o6
      have B6 := Aside0.mk b6
      clear o6 b6
      go_wp2
      go_ret
      exact ⟨_, rl, rfl, Kd.R_lower O6.out HB.out.size, hr2.out, hr3.out, HB.out.trans (B6.out.mono HB.out.size)⟩
set_option maxRecDepth 100000 in
set_option maxHeartbeats 2000000 in
/-- IDs: those of the places of a table, rising. -/
theorem rids_calls (x : Nat) (no : Int) (R : RH) (G : Nat → Prop) (w : World) (H : RIs w x R G) (hl : R.L.length < 90000000) :
    Calls Try.prog 53 #[.pointer (some ⟨x, 0, none⟩), .int .i64 no] w fun e w' => ∃ v l, e = .returned v ∧ Kd.R kInt 3 w' w.heap.size (fun _ => True) v l ∧ l.Pairwise (· < ·) ∧ (∀ n, n ∈ l ↔ n ∈ selI no R.L) ∧ Below w.heap.size w w' := by
  obtain ⟨lv, gv, H⟩ := H
  obtain ⟨A, c, e⟩ := Kd.R_slice H.pl
  subst e
  have c00 := blk_cell H.blk 0
  simp at c00
  have HL := Aside0.mk H.pl
  have C0 := Aside0.mk c00
  have hl2 : (R.L.length : Int) < 90000000 := by omega
  clear H c00
  replace hl := Aside0.mk hl
  have hrise := rise_law (selI no R.L) (by have := hl.out; have := selI_len no R.L; omega)
  obtain ⟨K, rl, hr1, hr2, hr3⟩ := hrise
  replace hr1 := Aside0.mk hr1
  replace hr2 := Aside0.mk hr2
  replace hr3 := Aside0.mk hr3
  go_enter Try.func53, Try.ntmps53
  go_wp2
  go_loopw [5, 6] (fun v1 v2 wr => ∃ k : Nat, k ≤ R.L.length ∧ v2 = .int .i64 k ∧ Aside0 (Kd.R kInt 3 wr w.heap.size (fun _ => True) v1 (selI no (R.L.take k))) ∧ Aside0 (Below w.heap.size w wr)) (fun _ v2 _ => R.L.length - (intOf v2).toNat)
  case atStart => exact ⟨0, Nat.zero_le _, rfl, ⟨Kd.R_nil _ _ _ _ _⟩, ⟨Below.refl _ _⟩⟩
  case round =>
    obtain ⟨k, hk, rfl, HO, HB⟩ := hrel
    have c0 := (HB.out.cell (p := ⟨x, 0, none⟩) (World.block_lt_of_cell? w _ C0.out)).trans C0.out
    by_cases hlt : k < R.L.length
    · have d1 : decide (k < R.L.length) = true := decide_eq_true hlt
      have d2 : decide ((k : Int) < (R.L.length : Int)) = true := decide_eq_true (by omega)
      have i1 : (0 : Int) ≤ (k : Int) := by omega
      have i2 : (k : Int) < (R.L.length : Int) := by omega
      obtain ⟨g, cap, hv, hcap, y0, y1, y2, hrest⟩ := rp_cells HL.out hlt
      injection hv with hv hvl hvc
      clear hvl
      subst hv
      subst hvc
      have x0 := (HB.out.cell (p := ⟨g, k * 8, none⟩) (World.block_lt_of_cell? w _ y0)).trans y0
      have x1 := (HB.out.cell (p := ⟨g, k * 8 + 1, none⟩) (World.block_lt_of_cell? w _ y1)).trans y1
      have x2 := (HB.out.cell (p := ⟨g, k * 8 + 2, none⟩) (World.block_lt_of_cell? w _ y2)).trans y2
      clear y0 y1 y2 hrest
      have hl3 := Aside0.mk hlt
      have hln : (selI no (R.L.take k)).length ≤ k := Nat.le_trans (selI_len no (R.L.take k)) (by rw [List.length_take]; omega)
      replace hln := Aside0.mk hln
      by_cases he : R.L[k].t.f0 = no
      · have e1 : (R.L[k].t.f0 == no) = true := beq_iff_eq.2 he
        have htk := selI_hit hlt he
        generalize R.L[k].t.f1 = nv at htk x2
        replace htk := Aside0.mk htk
        obtain ⟨va, vc, e3⟩ := Kd.R_slice HO.out
        subst e3
        have hsz := HB.out.size
        go_wp2_with (at_builtin; go_loud (refine Kd.R_append kInt (w0 := w) w.heap.size rfl (.tmp 27) (.tmp 37) 53 3 (.int .i64 0) 8 rfl Try.underlying53 Try.infoInt rfl (by decide) (by omega) (.slice va (selI no (R.L.take k)).length vc) (selI no (R.L.take k)) (nv) [.int .i64 (nv)] (fun _ => True) (fun _ => False) rfl rfl rfl (fun _ h => h.elim) (fun _ _ => trivial) HO.out HB.out hsz (by have := hln.out; omega) ?_); intro v1 w5 ho hb hg hat)
        have HO5 := Aside0.mk (htk.out ▸ ho)
        have HB5 := Aside0.mk hb
        clear ho hb hg hat
        go_wp2
        go_roundw
        case measure => have := hl3.out; simp [intOf]; omega
        case rel => exact ⟨k + 1, by have := hl3.out; omega, by go_num, HO5, HB5⟩
      · have e1 : (R.L[k].t.f0 == no) = false := beq_eq_false_iff_ne.2 he
        have htk := Aside0.mk (selI_miss (no := no) hlt he)
        obtain ⟨va, vc, e3⟩ := Kd.R_slice HO.out
        subst e3
        have HO5 : Aside0 (Kd.R kInt 3 wr w.heap.size (fun _ => True) (.slice va (selI no (R.L.take k)).length vc) (selI no (R.L.take (k + 1)))) := ⟨by rw [htk.out]; exact HO.out⟩
        go_wp2
        go_roundw
        case measure => have := hl3.out; simp [intOf]; omega
        case rel => exact ⟨k + 1, by have := hl3.out; omega, by go_num, HO5, HB⟩
    · have d1 : decide (k < R.L.length) = false := decide_eq_false hlt
      have d2 : decide ((k : Int) < (R.L.length : Int)) = false := decide_eq_false (by omega)
      obtain rfl : k = R.L.length := by omega
      have hO := HO.out
      rw [List.take_length] at hO
      replace hO := Aside0.mk hO
      clear HO hlt
      obtain ⟨va, vc, e3⟩ := Kd.R_slice hO.out
      subst e3
      have n := PHeapPlays.covenantref11_rise.calls K va vc (selI no R.L) rl wr (Kd.R_reads' hO.out).2.2 (Kd.R_reads' hO.out).2.1 hr1.out
      go_wp2_with fail
      refine n.mono ?_
      clear n
      rintro e w6 ⟨v6, rfl, o6, b6⟩
      have O6 := Aside0.mk o6
      have B6 := Aside0.mk b6
      clear o6 b6
      go_wp2
      go_ret
      exact ⟨_, rl, rfl, Kd.R_lower O6.out HB.out.size, hr2.out, hr3.out, HB.out.trans (B6.out.mono HB.out.size)⟩
set_option maxRecDepth 100000 in
set_option maxHeartbeats 2000000 in
/-- Slots: those of a row, as they were put. -/
theorem rslots_calls (x : Nat) (no : Int) (id : Int) (R : RH) (G : Nat → Prop) (w : World) (H : RIs w x R G) (hl : R.L.length < 90000000) :
    Calls Try.prog 54 #[.pointer (some ⟨x, 0, none⟩), .int .i64 no, .int .i64 id] w fun e w' => ∃ v, e = .returned v ∧ Kd.R kInt 3 w' w.heap.size (fun _ => True) v (selS no id R.L) ∧ Below w.heap.size w w' := by
  obtain ⟨lv, gv, H⟩ := H
  obtain ⟨A, c, e⟩ := Kd.R_slice H.pl
  subst e
  have c00 := blk_cell H.blk 0
  simp at c00
  have HL := Aside0.mk H.pl
  have C0 := Aside0.mk c00
  have hl2 : (R.L.length : Int) < 90000000 := by omega
  clear H c00
  replace hl := Aside0.mk hl
  go_enter Try.func54, Try.ntmps54
  go_wp2
  go_loopw [7, 8] (fun v1 v2 wr => ∃ k : Nat, k ≤ R.L.length ∧ v2 = .int .i64 k ∧ Aside0 (Kd.R kInt 3 wr w.heap.size (fun _ => True) v1 (selS no id (R.L.take k))) ∧ Aside0 (Below w.heap.size w wr)) (fun _ v2 _ => R.L.length - (intOf v2).toNat)
  case atStart => exact ⟨0, Nat.zero_le _, rfl, ⟨Kd.R_nil _ _ _ _ _⟩, ⟨Below.refl _ _⟩⟩
  case round =>
    obtain ⟨k, hk, rfl, HO, HB⟩ := hrel
    have c0 := (HB.out.cell (p := ⟨x, 0, none⟩) (World.block_lt_of_cell? w _ C0.out)).trans C0.out
    by_cases hlt : k < R.L.length
    · have d1 : decide (k < R.L.length) = true := decide_eq_true hlt
      have d2 : decide ((k : Int) < (R.L.length : Int)) = true := decide_eq_true (by omega)
      have i1 : (0 : Int) ≤ (k : Int) := by omega
      have i2 : (k : Int) < (R.L.length : Int) := by omega
      obtain ⟨g, cap, hv, hcap, y0, y1, y2, hrest⟩ := rp_cells HL.out hlt
      injection hv with hv hvl hvc
      clear hvl
      subst hv
      subst hvc
      have x0 := (HB.out.cell (p := ⟨g, k * 8, none⟩) (World.block_lt_of_cell? w _ y0)).trans y0
      have x1 := (HB.out.cell (p := ⟨g, k * 8 + 1, none⟩) (World.block_lt_of_cell? w _ y1)).trans y1
      have x2 := (HB.out.cell (p := ⟨g, k * 8 + 2, none⟩) (World.block_lt_of_cell? w _ y2)).trans y2
      clear y0 y1 y2 hrest
      have hl3 := Aside0.mk hlt
      have hln : (selS no id (R.L.take k)).length ≤ k := Nat.le_trans (selS_len no id (R.L.take k)) (by rw [List.length_take]; omega)
      replace hln := Aside0.mk hln
      by_cases he : R.L[k].t.f0 = no
      · have e1 : (R.L[k].t.f0 == no) = true := beq_iff_eq.2 he
        by_cases he2 : R.L[k].t.f1 = id
        · have e2 : (R.L[k].t.f1 == id) = true := beq_iff_eq.2 he2
          have htk := selS_hit hlt he he2
          generalize R.L[k].slot = nv at htk x0
          replace htk := Aside0.mk htk
          obtain ⟨va, vc, e3⟩ := Kd.R_slice HO.out
          subst e3
          have hsz := HB.out.size
          go_wp2_with (at_builtin; go_loud (refine Kd.R_append kInt (w0 := w) w.heap.size rfl (.tmp 42) (.tmp 51) 53 3 (.int .i64 0) 8 rfl Try.underlying53 Try.infoInt rfl (by decide) (by omega) (.slice va (selS no id (R.L.take k)).length vc) (selS no id (R.L.take k)) (nv) [.int .i64 (nv)] (fun _ => True) (fun _ => False) rfl rfl rfl (fun _ h => h.elim) (fun _ _ => trivial) HO.out HB.out hsz (by have := hln.out; omega) ?_); intro v1 w5 ho hb hg hat)
          have HO5 := Aside0.mk (htk.out ▸ ho)
          have HB5 := Aside0.mk hb
          clear ho hb hg hat
          go_wp2
          go_roundw
          case measure => have := hl3.out; simp [intOf]; omega
          case rel => exact ⟨k + 1, by have := hl3.out; omega, by go_num, HO5, HB5⟩
        · have e2 : (R.L[k].t.f1 == id) = false := beq_eq_false_iff_ne.2 he2
          have htk := Aside0.mk (selS_miss (no := no) (id := id) hlt (fun h => he2 h.2))
          obtain ⟨va, vc, e3⟩ := Kd.R_slice HO.out
          subst e3
          have HO5 : Aside0 (Kd.R kInt 3 wr w.heap.size (fun _ => True) (.slice va (selS no id (R.L.take k)).length vc) (selS no id (R.L.take (k + 1)))) := ⟨by rw [htk.out]; exact HO.out⟩
          go_wp2
          go_roundw
          case measure => have := hl3.out; simp [intOf]; omega
          case rel => exact ⟨k + 1, by have := hl3.out; omega, by go_num, HO5, HB⟩
      · have e1 : (R.L[k].t.f0 == no) = false := beq_eq_false_iff_ne.2 he
        have htk := Aside0.mk (selS_miss (no := no) (id := id) hlt (fun h => he h.1))
        obtain ⟨va, vc, e3⟩ := Kd.R_slice HO.out
        subst e3
        have HO5 : Aside0 (Kd.R kInt 3 wr w.heap.size (fun _ => True) (.slice va (selS no id (R.L.take k)).length vc) (selS no id (R.L.take (k + 1)))) := ⟨by rw [htk.out]; exact HO.out⟩
        go_wp2
        go_roundw
        case measure => have := hl3.out; simp [intOf]; omega
        case rel => exact ⟨k + 1, by have := hl3.out; omega, by go_num, HO5, HB⟩
    · have d1 : decide (k < R.L.length) = false := decide_eq_false hlt
      have d2 : decide ((k : Int) < (R.L.length : Int)) = false := decide_eq_false (by omega)
      obtain rfl : k = R.L.length := by omega
      have hO := HO.out
      rw [List.take_length] at hO
      replace hO := Aside0.mk hO
      clear HO hlt
      obtain ⟨va, vc, e3⟩ := Kd.R_slice hO.out
      subst e3
      go_wp2
      go_ret
      exact ⟨_, rfl, hO.out, HB.out⟩
end Go.Proofs.Ytljahhgankcalaa

/-! The document's heap: give, Next, At. -/
namespace Go.Proofs.Ytljahhgankcalaa
open Go.RowKit Go.Maps Go.MapKept Go.WideMaps
open Go.Proofs.YtljahhgankcalaaW.PrintWords Go.Proofs.YtljahhgankcalaaW.PrintLast Go.Proofs.YtljahhgankcalaaW.PrintMore
open PHeapThere
attribute [local go_sem] max2_mx min2_mn max_two min_two
set_option linter.unusedVariables false
set_option linter.unusedSimpArgs false

def RH.give (R : RH) (no id : Int) : RH := { R with G := R.G.filter (fun g => g.1 != no) ++ [(no, mx id (R.most no))] }
theorem RH.find_cases (R : RH) (s : Int) : (∃ i : Nat, ∃ h : i < R.L.length, R.find s = i ∧ R.L[i].slot = s) ∨ (R.find s = -1 ∧ ∀ p ∈ R.L, p.slot ≠ s) := by
  by_cases h : R.L.findIdx (fun p => p.slot == s) < R.L.length
  · refine .inl ⟨_, h, by unfold RH.find; rw [if_pos h], ?_⟩
    have := List.findIdx_getElem (w := h)
    simpa using this
  · refine .inr ⟨by unfold RH.find; rw [if_neg h], fun p hp e => h (List.findIdx_lt_length_of_exists ⟨p, hp, by simpa using e⟩)⟩

section
variable {w w5 : World} {x : Nat} {R : RH} {G : Nat → Prop} {lv gv v1 : Value}
theorem RAt.other (H : RAt w x R G lv gv) {w1 : World} (hch : Chg w w1 (fun k => k = x)) {α : Type} {d : Kd α} {e : Nat} {v : Value} {xs : List α} (hd : ∀ q, q ∈ e :: d.E → q ≠ 136) (h : Kd.R d e w 0 G v xs) : Kd.R d e w1 0 G v xs := R_typ h H.blk hd hch
theorem RAt.setG (H : RAt w x R G lv gv) (hb : Below w.heap.size w w5) {gs' : List (Int × Int)} (ho : Kd.R kGv 152 w5 w.heap.size (fun _ => True) v1 gs') :
    RAt (w5.setCell ⟨x, 1, none⟩ v1) x { R with G := gs' } (ext G w (w5.setCell ⟨x, 1, none⟩ v1)) lv v1 ∧ Chg w (w5.setCell ⟨x, 1, none⟩ v1) (fun k => k = x) := by
  have hch : Chg w (w5.setCell ⟨x, 1, none⟩ v1) (fun k => k = x) := (Chg.of_below hb (fun k => k = x)).setCell (p := ⟨x, 1, none⟩) (.inl rfl) v1
  have hxl := H.bound x H.xG
  have hs5 := hb.size
  have hg5 : w5.heap[x]? = some (.cells #[lv, gv] 136 (0, 0)) := (hb.block x hxl).trans H.blk
  have hb6 := blk_set hg5 1 v1
  have hs6 : (w5.setCell ⟨x, 1, none⟩ v1).heap.size = w5.heap.size := by simp [World.setCell]
  refine ⟨⟨by simpa using hb6, Kd.R_mono (H.other hch (fun q hq => ?_) H.pl) (fun k hk => .inl hk), ?_, fun p hp => Kd.R_mono (H.other hch (fun q hq => ?_) (H.rows p hp)) (fun k hk => .inl hk), .inl H.xG, fun k hk => ?_⟩, hch⟩
  · have hq2 : q ∈ ([38] : List Nat) := hq
    simp at hq2
    subst hq2
    decide
  · have h1 : Kd.R kGv 152 w5 w.heap.size (fun k => w.heap.size ≤ k ∧ k < w5.heap.size) v1 gs' := Kd.R_mono (Kd.R_bound ho) (fun k hk => ⟨hk.2.1, hk.2.2.1⟩)
    have h2 := R_chg h1 ((Chg.refl w5 (fun k => k = x)).setCell (p := ⟨x, 1, none⟩) (.inl rfl) v1) (fun k q cells hk _ _ e => by have := hk.1; omega)
    exact Kd.R_lower (Kd.R_mono h2 (fun k hk => .inr ⟨hk.1, by rw [hs6]; exact hk.2⟩)) (Nat.zero_le _)
  · have hq2 : q ∈ ([91] : List Nat) := hq
    simp at hq2
    subst hq2
    decide
  · rcases hk with hk | hk
    · have := H.bound k hk; omega
    · exact hk.2
theorem RAt.setL (H : RAt w x R G lv gv) (hb : Below w.heap.size w w5) {l' : List RP} (ho : Kd.R kRP 38 w5 w.heap.size (fun _ => True) v1 l') (hrows : ∀ p ∈ l', Kd.R kVal 91 w5 0 (fun k => G k ∨ w.heap.size ≤ k) (.slice p.A p.t.f6.length p.c) p.t.f6) :
    RAt (w5.setCell ⟨x, 0, none⟩ v1) x { R with L := l' } (ext G w (w5.setCell ⟨x, 0, none⟩ v1)) v1 gv ∧ Chg w (w5.setCell ⟨x, 0, none⟩ v1) (fun k => k = x) := by
  have hch : Chg w (w5.setCell ⟨x, 0, none⟩ v1) (fun k => k = x) := (Chg.of_below hb (fun k => k = x)).setCell (p := ⟨x, 0, none⟩) (.inl rfl) v1
  have hxl := H.bound x H.xG
  have hs5 := hb.size
  have hg5 : w5.heap[x]? = some (.cells #[lv, gv] 136 (0, 0)) := (hb.block x hxl).trans H.blk
  have hb6 := blk_set hg5 0 v1
  have hs6 : (w5.setCell ⟨x, 0, none⟩ v1).heap.size = w5.heap.size := by simp [World.setCell]
  have hc5 : Chg w5 (w5.setCell ⟨x, 0, none⟩ v1) (fun k => k = x) := (Chg.refl w5 (fun k => k = x)).setCell (p := ⟨x, 0, none⟩) (.inl rfl) v1
  refine ⟨⟨by simpa using hb6, ?_, Kd.R_mono (H.other hch (fun q hq => ?_) H.gs) (fun k hk => .inl hk), fun p hp => ?_, .inl H.xG, fun k hk => ?_⟩, hch⟩
  · have h1 : Kd.R kRP 38 w5 w.heap.size (fun k => w.heap.size ≤ k ∧ k < w5.heap.size) v1 l' := Kd.R_mono (Kd.R_bound ho) (fun k hk => ⟨hk.2.1, hk.2.2.1⟩)
    have h2 := R_chg h1 hc5 (fun k q cells hk _ _ e => by have := hk.1; omega)
    exact Kd.R_lower (Kd.R_mono h2 (fun k hk => .inr ⟨hk.1, by rw [hs6]; exact hk.2⟩)) (Nat.zero_le _)
  · have hq2 : q ∈ ([152] : List Nat) := hq
    simp at hq2
    subst hq2
    decide
  · have h1 := R_typ (hrows p hp) hg5 (fun q hq => by
      have hq2 : q ∈ ([91] : List Nat) := hq
      simp at hq2
      subst hq2
      decide) hc5
    refine Kd.R_mono (Kd.R_bound h1) (fun k hk => ?_)
    rcases hk.1 with h | h
    · exact .inl h
    · exact .inr ⟨h, hk.2.2.1⟩
  · rcases hk with hk | hk
    · have := H.bound k hk; omega
    · exact hk.2
end

set_option maxRecDepth 100000 in
set_option maxHeartbeats 1000000 in
theorem rat_calls (x : Nat) (s : Int) (R : RH) (G : Nat → Prop) (w : World) (H : RIs w x R G) (hl : R.L.length < 2147483648) :
    Calls Try.prog 51 #[.pointer (some ⟨x, 0, none⟩), .int .i64 s] w fun e w' => ∃ (t0 t1 t2 t3 t4 t5 : Int) (t6 : Option Addr) (n6 c6 : Nat), e = .returned (.tuple #[.agg #[.int .i64 t0, .int .i64 t1, .int .i64 t2, .int .i64 t3, .int .i64 t4, .int .i64 t5, .slice t6 n6 c6], .bool (decide (0 ≤ R.find s))]) ∧ Below w.heap.size w w' := by
  have hf := find_calls x s R G _ (H.below ((Below.refl _ w).alloc (Nat.le_refl _) (.cells #[.int .i64 0, .int .i64 0, .int .i64 0, .int .i64 0, .int .i64 0, .int .i64 0, .slice none 0 0] 32))) hl
  rcases R.find_cases s with ⟨i, hi, h1, h2⟩ | ⟨h1, h2⟩
  · rw [h1] at hf ⊢
    have d0 : decide ((i : Int) < 0) = false := decide_eq_false (by omega)
    have d1 : decide (0 ≤ (i : Int)) = true := decide_eq_true (by omega)
    rw [d1]
    obtain ⟨lv, gv, H⟩ := H
    obtain ⟨g, cap, hv, hcap, y0, y1, y2, y3, y4, y5, y6, y7⟩ := rp_cells H.pl hi
    have k0 := blk_cell H.blk 0
    simp at k0
    rw [hv] at k0
    have b1 : (0 : Int) ≤ (i : Int) := by omega
    have b2 : (i : Int) < (R.L.length : Int) := by omega
    have hlt : x < w.heap.size := H.bound x H.xG
    have hgl : g < w.heap.size := World.block_lt_of_cell? w ⟨g, i * 8, none⟩ y0
    generalize R.L[i] = p at y0 y1 y2 y3 y4 y5 y6 y7
    clear H hv h1 h2
    go_enter Try.func51, Try.ntmps51
    go_wp2_with (go_at_call 85; refine hf.mono ?_; rintro e w' ⟨rfl, rfl⟩)
    refine bodyPost_ret (results_ct rfl _ _ w.heap.size 32 #[.int .i64 p.t.f0, .int .i64 p.t.f1, .int .i64 p.t.f2, .int .i64 p.t.f3, .int .i64 p.t.f4, .int .i64 p.t.f5, .slice p.A p.t.f6.length p.c] (0, 0) _ rfl (blk_new w _) Try.underlying32 rfl (by kernel_rfl)) rfl ?_
    exact ⟨_, _, _, _, _, _, _, _, _, rfl, (Below.refl _ w).alloc (Nat.le_refl _) _⟩
  · rw [h1] at hf ⊢
    clear h1 h2 H
    go_enter Try.func51, Try.ntmps51
    go_wp2_with (go_at_call 85; refine hf.mono ?_; rintro e w' ⟨rfl, rfl⟩)
    refine bodyPost_ret (results_ct rfl _ _ w.heap.size 32 #[.int .i64 0, .int .i64 0, .int .i64 0, .int .i64 0, .int .i64 0, .int .i64 0, .slice none 0 0] (0, 0) _ rfl (blk_new w _) Try.underlying32 rfl (by kernel_rfl)) rfl ?_
    exact ⟨_, _, _, _, _, _, _, _, _, rfl, (Below.refl _ w).alloc (Nat.le_refl _) _⟩
theorem give_up (R : RH) (no : Int) {k : Nat} (h : k < R.G.length) : (R.G.take (k + 1)).filter (fun g => g.1 != no) = (R.G.take k).filter (fun g => g.1 != no) ++ (if R.G[k].1 = no then [] else [(R.G[k].1, R.G[k].2)]) := by
  rw [List.take_succ_eq_append_getElem h, List.filter_append]
  by_cases e : R.G[k].1 = no <;> simp [e]
theorem Try.infoGv : (Try.prog.info? 152).map (fun i => (i.zero, i.size, i.bytes)) = some (some (.agg #[.int .i64 0, .int .i64 0]), 2, 16) := by kernel_rfl
set_option maxRecDepth 100000 in
set_option maxHeartbeats 2000000 in
theorem give_calls (x : Nat) (no id : Int) (R : RH) (G : Nat → Prop) (w : World) (H : RIs w x R G) (hl : R.G.length < 90000000) :
    Calls Try.prog 86 #[.pointer (some ⟨x, 0, none⟩), .int .i64 no, .int .i64 id] w fun e w' => (∃ v, e = .returned v) ∧ RIs w' x (R.give no id) (ext G w w') ∧ Chg w w' G := by
  obtain ⟨lv, gv, H⟩ := H
  obtain ⟨A, c, e⟩ := Kd.R_slice H.gs
  subst e
  have c00 := blk_cell H.blk 1
  have f00 := blk_frozen H.blk 1
  simp at c00
  have HL := Aside0.mk H.gs
  have C0 := Aside0.mk c00
  have F0 := Aside0.mk f00
  have hl2 : (R.G.length : Int) < 90000000 := by omega
  have HH := Aside0.mk H
  clear H c00 f00
  replace hl := Aside0.mk hl
  go_enter Try.func86, Try.ntmps86
  go_wp2
  go_loopw [6, 7] (fun v1 v2 wr => ∃ k : Nat, k ≤ R.G.length ∧ v2 = .int .i64 k ∧ Aside0 (Kd.R kGv 152 wr w.heap.size (fun _ => True) v1 ((R.G.take k).filter (fun g => g.1 != no))) ∧ Aside0 (Below w.heap.size w wr)) (fun _ v2 _ => R.G.length - (intOf v2).toNat)
  case atStart => exact ⟨0, Nat.zero_le _, rfl, ⟨Kd.R_nil _ _ _ _ _⟩, ⟨Below.refl _ _⟩⟩
  case round =>
    obtain ⟨k, hk, rfl, HO, HB⟩ := hrel
    have c0 := (HB.out.cell (p := ⟨x, 1, none⟩) (World.block_lt_of_cell? w _ C0.out)).trans C0.out
    have hsz := HB.out.size
    by_cases hlt : k < R.G.length
    · have d1 : decide (k < R.G.length) = true := decide_eq_true hlt
      have d2 : decide ((k : Int) < (R.G.length : Int)) = true := decide_eq_true (by omega)
      have i1 : (0 : Int) ≤ (k : Int) := by omega
      have i2 : (k : Int) < (R.G.length : Int) := by omega
      obtain ⟨g, cap, hv, hcap, y0, y1⟩ := gv_cells HL.out hlt
      injection hv with hv hvl hvc
      clear hvl
      subst hv
      subst hvc
      have x0 := (HB.out.cell (p := ⟨g, k * 2, none⟩) (World.block_lt_of_cell? w _ y0)).trans y0
      have x1 := (HB.out.cell (p := ⟨g, k * 2 + 1, none⟩) (World.block_lt_of_cell? w _ y1)).trans y1
      clear y0 y1
      have hl3 := Aside0.mk hlt
      have htk := give_up R no hlt
      have hln : ((R.G.take k).filter (fun g => g.1 != no)).length ≤ k := Nat.le_trans (List.length_filter_le _ _) (by rw [List.length_take]; omega)
      replace hln := Aside0.mk hln
      generalize (R.G.take k).filter (fun g => g.1 != no) = pre at HO htk hln
      generalize R.G[k].1 = n1 at x0 htk
      generalize R.G[k].2 = n2 at x1 htk
      obtain ⟨va, vc, e3⟩ := Kd.R_slice HO.out
      subst e3
      by_cases he : n1 = no
      · have e1 : (n1 != no) = false := by rw [he]; exact bne_self_eq_false _
        rw [if_pos he, List.append_nil] at htk
        have HO5 : Aside0 (Kd.R kGv 152 wr w.heap.size (fun _ => True) (.slice va pre.length vc) ((R.G.take (k + 1)).filter (fun g => g.1 != no))) := ⟨by rw [htk]; exact HO.out⟩
        clear he htk
        go_wp2
        go_roundw
        case measure => have := hl3.out; simp [intOf]; omega
        case rel => exact ⟨k + 1, by have := hl3.out; omega, by go_num, HO5, HB⟩
      · have e1 : (n1 != no) = true := by simpa using he
        rw [if_neg he] at htk
        replace htk := Aside0.mk htk
        clear he
        go_wp2_with (at_builtin; go_loud (refine Kd.R_append kGv (w0 := w) w.heap.size rfl (.tmp 27) (.tmp 35) 134 152 (.agg #[.int .i64 0, .int .i64 0]) 16 rfl Try.underlying134 Try.infoGv rfl (by decide) (by omega) (.slice va pre.length vc) pre (n1, n2) [.int .i64 n1, .int .i64 n2] (fun _ => True) (fun _ => False) rfl rfl (kGv_mkM _ _ _ _) (fun _ h => h.elim) (fun _ _ => trivial) HO.out HB.out hsz (by have := hln.out; omega) ?_); intro v1 w5 ho hb hg hat)
        have HO5 := Aside0.mk (htk.out ▸ ho)
        have HB5 := Aside0.mk hb
        clear ho hb hg hat
        go_wp2
        go_roundw
        case measure => have := hl3.out; simp [intOf]; omega
        case rel => exact ⟨k + 1, by have := hl3.out; omega, by go_num, HO5, HB5⟩
    · have d1 : decide (k < R.G.length) = false := decide_eq_false hlt
      have d2 : decide ((k : Int) < (R.G.length : Int)) = false := decide_eq_false (by omega)
      obtain rfl : k = R.G.length := by omega
      have hO := HO.out
      rw [List.take_length] at hO
      replace hO := Aside0.mk hO
      clear HO hlt
      have hm := most_calls x no R G wr (RIs.below ⟨_, _, HH.out⟩ HB.out) (by have := hl.out; omega)
      have hxl := HH.out.bound x HH.out.xG
      replace hxl := Aside0.mk hxl
      have hln : (R.G.filter (fun g => g.1 != no)).length ≤ R.G.length := List.length_filter_le _ _
      replace hln := Aside0.mk hln
      have HE : Aside0 (R.give no id = { R with G := R.G.filter (fun g => g.1 != no) ++ [(no, mx id (R.most no))] }) := ⟨rfl⟩
      generalize R.G.filter (fun g => g.1 != no) = pre at hO hln HE
      obtain ⟨va, vc, e3⟩ := Kd.R_slice hO.out
      subst e3
      generalize R.most no = mo at hm HE
      go_wp2_with (first | (go_at_call 87; refine hm.mono ?_; rintro e w' ⟨rfl, rfl⟩) | (at_builtin; go_loud (refine Kd.R_append kGv (w0 := w) w.heap.size rfl (.tmp 38) (.tmp 46) 134 152 (.agg #[.int .i64 0, .int .i64 0]) 16 rfl Try.underlying134 Try.infoGv rfl (by decide) (by omega) (.slice va pre.length vc) pre (no, mx id mo) [.int .i64 no, .int .i64 (mx id mo)] (fun _ => True) (fun _ => False) rfl rfl (kGv_mkM _ _ _ _) (fun _ h => h.elim) (fun _ _ => trivial) hO.out HB.out hsz (by have := hln.out; have := hl.out; omega) ?_); intro v1 w5 ho hb hg hat; clear hg hat; have hbk := (hb.block x hxl.out).trans HH.out.blk; have f5 := blk_frozen hbk 1; have c5 := blk_cell hbk 1; simp at c5; obtain ⟨a9, c9, e9⟩ := Kd.R_slice ho; simp only [List.length_append, List.length_cons, List.length_nil, Nat.zero_add] at e9; subst e9; replace ho := Aside0.mk ho; replace hb := Aside0.mk hb; clear hbk))
      go_end0
      have hfin := HH.out.setG hb.out ho.out
      exact ⟨⟨_, rfl⟩, by rw [HE.out]; exact ⟨_, _, hfin.1⟩, hfin.2.mono (fun k _ e => e ▸ HH.out.xG)⟩

def RH.next (R : RH) (no : Int) : Int × RH := if no < 1 ∨ 2147483647 < no ∨ R.most no = 2147483647 then (0, R) else (R.most no + 1, R.give no (R.most no + 1))
set_option maxRecDepth 100000 in
set_option maxHeartbeats 1000000 in
theorem rnext_calls (x : Nat) (no : Int) (R : RH) (G : Nat → Prop) (w : World) (H : RIs w x R G) (hl : R.G.length < 90000000) (hm : 0 ≤ R.most no ∧ R.most no ≤ 2147483647) :
    Calls Try.prog 50 #[.pointer (some ⟨x, 0, none⟩), .int .i64 no] w fun e w' => e = .returned (.int .i64 (R.next no).1) ∧ RIs w' x (R.next no).2 (ext G w w') ∧ Chg w w' G := by
  have hmc := most_calls x no R G w H (by omega)
  have hgc := give_calls x no (R.most no + 1) R G w H hl
  have same : RIs w x R (ext G w w) := H.mono (fun k hk => .inl hk) (fun k hk => by
    rcases hk with hk | hk
    · exact H.bound k hk
    · exact hk.2)
  unfold RH.next
  generalize R.most no = mo at hmc hgc hm ⊢
  have SM := Aside0.mk same
  clear H same
  by_cases h1 : no < 1
  · rw [if_pos (.inl h1)]
    have d1 : decide (no < 1) = true := decide_eq_true h1
    clear h1 hgc hmc
    go_enter Try.func50, Try.ntmps50
    go_wp2
    go_ret
    exact ⟨rfl, SM.out, Chg.refl _ _⟩
  · have d1 : decide (no < 1) = false := decide_eq_false h1
    by_cases h2 : 2147483647 < no
    · rw [if_pos (.inr (.inl h2))]
      have d2 : decide (2147483647 < no) = true := decide_eq_true h2
      clear h1 h2 hgc hmc
      go_enter Try.func50, Try.ntmps50
      go_wp2
      go_ret
      exact ⟨rfl, SM.out, Chg.refl _ _⟩
    · have d2 : decide (2147483647 < no) = false := decide_eq_false h2
      by_cases h3 : mo = 2147483647
      · rw [if_pos (.inr (.inr h3))]
        have d3 : (mo == 2147483647) = true := beq_iff_eq.2 h3
        clear h1 h2 h3 hgc
        go_enter Try.func50, Try.ntmps50
        go_wp2_with (go_at_call 87; refine hmc.mono ?_; rintro e w' ⟨rfl, rfl⟩)
        go_ret
        exact ⟨rfl, SM.out, Chg.refl _ _⟩
      · rw [if_neg (by omega)]
        have d3 : (mo == 2147483647) = false := beq_eq_false_iff_ne.2 h3
        have hw : wrap64 (mo + 1) = mo + 1 := wrap64_self (by omega) (by omega)
        have hb1 : -9223372036854775808 ≤ mo + 1 := by omega
        have hb2 : mo + 1 ≤ 9223372036854775807 := by omega
        clear h1 h2 h3
        go_enter Try.func50, Try.ntmps50
        go_wp2_with (first | (go_at_call 87; refine hmc.mono ?_; rintro e w' ⟨rfl, rfl⟩) | (go_at_call 86; refine hgc.mono ?_; rintro e w' ⟨⟨v, rfl⟩, hr, hc⟩))
        go_ret
        exact ⟨rfl, hr, hc⟩
end Go.Proofs.Ytljahhgankcalaa

/-! The document's heap: Kill. -/
namespace Go.Proofs.Ytljahhgankcalaa
open Go.RowKit Go.Maps Go.MapKept Go.WideMaps
open Go.Proofs.YtljahhgankcalaaW.PrintWords Go.Proofs.YtljahhgankcalaaW.PrintLast Go.Proofs.YtljahhgankcalaaW.PrintMore
open PHeapThere
set_option linter.unusedVariables false
set_option linter.unusedSimpArgs false

theorem kRP_ofK {w w1 : World} {base : Nat} {ok : Nat → Prop} {p : RP} {cs : List Value} (h : kRP.K w p cs) : kRP.M w1 base ok p cs := by
  obtain ⟨_, _, rfl, rfl, ⟨_, _, rfl, rfl, ⟨_, _, rfl, rfl, ⟨_, _, rfl, rfl, ⟨_, _, rfl, rfl, ⟨_, _, rfl, rfl, ⟨_, _, rfl, rfl, rfl⟩⟩⟩⟩⟩⟩⟩ := h
  exact kRP_mkM _ _ _ p
theorem Try.infoPlc : (Try.prog.info? 38).map (fun i => (i.zero, i.size, i.bytes)) = some (some (.agg #[.int .i64 0, .int .i64 0, .int .i64 0, .int .i64 0, .int .i64 0, .int .i64 0, .int .i64 0, .slice none 0 0]), 8, 80) := by kernel_rfl
def RP.kill (p : RP) (a b : Int) : RP := { p with t := { p.t with f4 := a, f5 := b } }
def RH.at? (R : RH) (s : Int) : Nat := R.L.findIdx (fun p => p.slot == s)
def RH.kill (R : RH) (s a b : Int) : Int × RH := if h : R.at? s < R.L.length then (0, { R with L := R.L.set (R.at? s) (R.L[R.at? s].kill a b) }) else (1, R)
theorem RH.find_at (R : RH) (s : Int) : R.find s = if R.at? s < R.L.length then (R.at? s : Int) else -1 := rfl
/-- A place of the list, changed. -/
theorem RAt.killed {w w1 : World} {x g cap i : Nat} {R : RH} {G : Nat → Prop} {gv : Value} {a b : Int} (H : RAt w x R G (.slice (some ⟨g, 0, none⟩) R.L.length cap) gv) (hi : i < R.L.length) (h1 : w1 = (w.setCell ⟨g, i * 8 + 5, none⟩ (.int .i64 a)).setCell ⟨g, i * 8 + 6, none⟩ (.int .i64 b)) :
    RAt w1 x { R with L := R.L.set i (R.L[i].kill a b) } G (.slice (some ⟨g, 0, none⟩) R.L.length cap) gv ∧ Chg w w1 (fun k => k = g) := by
  obtain ⟨g', cap', cur, c, hv, hgG, _, hg, hn, hmx, hsz, hM, _, hc⟩ := R_elem H.pl hi
  injection hv with hv1 hv2 hv3
  injection hv1 with hv1
  injection hv1 with hv1
  subst hv1
  obtain rfl := kRP_openM hM
  have hch : Chg w w1 (fun k => k = g) := by
    rw [h1]
    exact ((Chg.refl w (fun k => k = g)).setCell (p := ⟨g, i * 8 + 5, none⟩) (.inl rfl) _).setCell (p := ⟨g, i * 8 + 6, none⟩) (.inl rfl) _
  have hg1 := blk_set (blk_set hg (i * 8 + 5) (.int .i64 a)) (i * 8 + 6) (.int .i64 b)
  rw [← h1] at hg1
  have hxg : x ≠ g := fun e => by
    have := H.blk
    rw [e, hg] at this
    simp at this
  have y5 : cur[i * 8 + 5]? = _ := hc 5 _ rfl
  have y6 : cur[i * 8 + 6]? = _ := hc 6 _ rfl
  have l5 := (Array.getElem?_eq_some_iff.1 y5).1
  have l6 := (Array.getElem?_eq_some_iff.1 y6).1
  have hcur : ∀ k, k ≠ i * 8 + 5 → k ≠ i * 8 + 6 → ((cur.setIfInBounds (i * 8 + 5) (.int .i64 a)).setIfInBounds (i * 8 + 6) (.int .i64 b))[k]? = cur[k]? := fun k e4 e5 => by
    rw [Array.getElem?_setIfInBounds_ne (Ne.symm e5), Array.getElem?_setIfInBounds_ne (Ne.symm e4)]
  have typ : ∀ {q t : Nat}, q ∈ ([t] : List Nat) → t ≠ 38 → q ≠ 38 := fun h1 h2 e => by
    simp at h1
    exact h2 (h1 ▸ e)
  refine ⟨⟨?_, ?_, R_typ H.gs hg (fun q hq => typ (t := 152) hq (by decide)) hch, fun p hp => ?_, H.xG, fun k hk => Nat.lt_of_lt_of_le (H.bound k hk) hch.size⟩, hch⟩
  · exact (hch.block x (H.bound x H.xG) hxg).trans H.blk
  · have hsz8 : kRP.sz = 8 := rfl
    refine R_upd H.pl hi rfl hg hch (fun k _ hk => hk) hg1 (by simp) (fun k hk => hcur k (by rw [hsz8] at hk; omega) (by rw [hsz8] at hk; omega)) (kRP_mkM w1 0 _ (R.L[i].kill a b)) (fun j hj => ?_)
    have hj' : j < 8 := hj
    show ((cur.setIfInBounds (i * 8 + 5) (.int .i64 a)).setIfInBounds (i * 8 + 6) (.int .i64 b))[i * 8 + j]? = _
    match j, hj' with
    | 0, _ => rw [hcur _ (by omega) (by omega)]; exact hc 0 _ rfl
    | 1, _ => rw [hcur _ (by omega) (by omega)]; exact hc 1 _ rfl
    | 2, _ => rw [hcur _ (by omega) (by omega)]; exact hc 2 _ rfl
    | 3, _ => rw [hcur _ (by omega) (by omega)]; exact hc 3 _ rfl
    | 4, _ => rw [hcur _ (by omega) (by omega)]; exact hc 4 _ rfl
    | 5, _ => rw [Array.getElem?_setIfInBounds_ne (by omega), Array.getElem?_setIfInBounds_self_of_lt l5]; rfl
    | 6, _ => rw [Array.getElem?_setIfInBounds_self_of_lt (by simpa using l6)]; rfl
    | 7, _ => rw [hcur _ (by omega) (by omega)]; exact hc 7 _ rfl
  · have hr : Kd.R kVal 91 w 0 G (.slice p.A p.t.f6.length p.c) p.t.f6 := by
      rcases List.mem_or_eq_of_mem_set hp with h | h
      · exact H.rows p h
      · rw [h]
        exact H.rows R.L[i] (List.getElem_mem hi)
    exact R_typ hr hg (fun q hq => typ (t := 91) hq (by decide)) hch
theorem ext_self {G : Nat → Prop} {w : World} {x : Nat} {R : RH} (H : RIs w x R G) : RIs w x R (ext G w w) := H.mono (fun k hk => .inl hk) (fun k hk => by
  rcases hk with hk | hk
  · exact H.bound k hk
  · exact hk.2)
theorem kill_facts {w w5 : World} {x i : Nat} {R : RH} {G : Nat → Prop} {lv gv v1 : Value} {a b : Int} (HH : RAt w x R G lv gv) (hi : i < R.L.length) (hb0 : Below w.heap.size w w5) (ho : Kd.R kRP 38 w5 w.heap.size (fun _ => True) v1 R.L) :
    ∃ g cap, v1 = .slice (some ⟨g, 0, none⟩) R.L.length cap ∧ R.L.length ≤ cap ∧ x ≠ g ∧ g ≠ x ∧ w5.cell? ⟨g, i * 8 + 5, none⟩ = some (.int .i64 R.L[i].t.f4) ∧ w5.cell? ⟨g, i * 8 + 6, none⟩ = some (.int .i64 R.L[i].t.f5) ∧ w5.frozen? ⟨g, i * 8 + 5, none⟩ = false ∧ w5.frozen? ⟨g, i * 8 + 6, none⟩ = false ∧
      w5.cell? ⟨x, 0, none⟩ = some lv ∧ w5.frozen? ⟨x, 0, none⟩ = false ∧ Aside0 (RIs (((w5.setCell ⟨x, 0, none⟩ (.slice (some ⟨g, 0, none⟩) R.L.length cap)).setCell ⟨g, i * 8 + 5, none⟩ (.int .i64 a)).setCell ⟨g, i * 8 + 6, none⟩ (.int .i64 b)) x { L := R.L.set i (R.L[i].kill a b), G := R.G } (ext G w (((w5.setCell ⟨x, 0, none⟩ (.slice (some ⟨g, 0, none⟩) R.L.length cap)).setCell ⟨g, i * 8 + 5, none⟩ (.int .i64 a)).setCell ⟨g, i * 8 + 6, none⟩ (.int .i64 b))) ∧ Chg w (((w5.setCell ⟨x, 0, none⟩ (.slice (some ⟨g, 0, none⟩) R.L.length cap)).setCell ⟨g, i * 8 + 5, none⟩ (.int .i64 a)).setCell ⟨g, i * 8 + 6, none⟩ (.int .i64 b)) G) := by
  have hfin := HH.setL hb0 ho (fun p hp => Kd.R_below (Kd.R_mono (HH.rows p hp) (fun k hk => .inl hk)) hb0)
  obtain ⟨g, cap, cur, c, hv, hgG, hgb, hgg, hn, hmx, hsz, hM, hcl, hcc⟩ := R_elem ho hi
  obtain rfl := kRP_openM hM
  subst hv
  have hxl := HH.bound x HH.xG
  have hx5 := (hb0.block x hxl).trans HH.blk
  have hk := hfin.1.killed (a := a) (b := b) hi rfl
  have h1 := hk.1
  have c5 := hcc 5 _ rfl
  have c6 := hcc 6 _ rfl
  refine ⟨g, cap, rfl, hn, by omega, by omega, (blk_cell hgg (i * 8 + 5)).trans c5, (blk_cell hgg (i * 8 + 6)).trans c6, blk_frozen hgg _, blk_frozen hgg _, blk_cell hx5 0, blk_frozen hx5 0, ⟨⟨_, gv, h1.mono (fun k hk => ?_) (fun k hk => ?_)⟩, ?_⟩⟩
  · rcases hk with hk | hk
    · exact .inl hk
    · exact .inr ⟨hk.1, by simpa [World.setCell] using hk.2⟩
  · rcases hk with hk | hk
    · exact h1.bound k (.inl hk)
    · exact hk.2
  · exact hfin.2.trans hk.2 (fun k _ e => e ▸ HH.xG) (fun k hkl e => by omega)
set_option maxRecDepth 100000 in
set_option maxHeartbeats 2000000 in
theorem rkill_calls (x : Nat) (s a b : Int) (R : RH) (G : Nat → Prop) (w : World) (H : RIs w x R G) (hl : R.L.length < 90000000) :
    Calls Try.prog 48 #[.pointer (some ⟨x, 0, none⟩), .int .i64 s, .int .i64 a, .int .i64 b] w fun e w' => e = .returned (.int .i64 (R.kill s a b).1) ∧ RIs w' x (R.kill s a b).2 (ext G w w') ∧ Chg w w' G := by
  have hf := find_calls x s R G w H (by omega)
  rw [RH.find_at] at hf
  unfold RH.kill
  by_cases hi : R.at? s < R.L.length
  · rw [dif_pos hi]
    rw [if_pos hi] at hf
    generalize R.at? s = i at hf hi ⊢
    obtain ⟨lv, gv, H⟩ := H
    obtain ⟨A, c, e⟩ := Kd.R_slice H.pl
    subst e
    have c0 := blk_cell H.blk 0
    simp at c0
    have HR := Aside0.mk (Kd.R_reads' H.pl).2.2
    have hxl := H.bound x H.xG
    have d0 : decide ((i : Int) < 0) = false := decide_eq_false (by omega)
    have i1 : (0 : Int) ≤ (i : Int) := by omega
    have i2 : (i : Int) < (R.L.length : Int) := by omega
    have HH := Aside0.mk H
    have HI := Aside0.mk hi
    have HX := Aside0.mk hxl
    obtain ⟨l', hl'⟩ : ∃ l', R.L.set i (R.L[i].kill a b) = l' := ⟨_, rfl⟩
    simp only [hl']
    have HL' : Aside0 (∀ h : i < R.L.length, R.L.set i (R.L[i].kill a b) = l') := ⟨fun _ => hl'⟩
    clear H hl' hi
    go_enter Try.func48, Try.ntmps48
    go_wp2_with (first | (go_at_call 85; refine hf.mono ?_; rintro e w' ⟨rfl, hw⟩; obtain rfl := hw.symm) | (at_builtin; go_loud (refine Kd.R_append_rows kRP (w0 := w) w.heap.size rfl (.tmp 16) (.tmp 20) 36 38 (.agg #[.int .i64 0, .int .i64 0, .int .i64 0, .int .i64 0, .int .i64 0, .int .i64 0, .int .i64 0, .slice none 0 0]) 80 rfl Try.underlying36 Try.infoPlc rfl (by decide) (by omega) (.slice (some ⟨w.heap.size, 0, none⟩) 0 0) [] R.L _ _ _ (fun _ => True) (fun _ => False) rfl rfl (R_empty kRP 38 w w.heap.size (Nat.le_refl _) (fun _ => True) trivial) (Kd.C_below HR.out ((Below.refl _ _).alloc (Nat.le_refl _) _)) (fun _ _ h => kRP_ofK h) (fun _ h => h.elim) (fun _ _ => trivial) ((Below.refl _ _).alloc (Nat.le_refl _) _) (by simp) (by simp; omega) ?_); intro v1 w5 ho hb hg hat; go_loud (simp only [List.nil_append] at ho); obtain ⟨g, cap, ev, hn, hxg, hgx, k5, k6, z5, z6, kx, zx, HFa⟩ := kill_facts (a := a) (b := b) HH.out HI.out hb ho; subst ev; clear hb hg hat ho))
    go_ret
    obtain ⟨hr, hc⟩ := HFa.out
    exact ⟨rfl, by rw [← HL'.out HI.out]; exact hr, hc⟩
  · simp only [dif_neg hi]
    rw [if_neg hi] at hf
    have HS := Aside0.mk (ext_self H)
    clear hi H
    go_enter Try.func48, Try.ntmps48
    go_wp2_with (go_at_call 85; refine hf.mono ?_; rintro e w' ⟨rfl, hw⟩; obtain rfl := hw.symm)
    go_ret
    exact ⟨rfl, HS.out, Chg.refl _ _⟩
end Go.Proofs.Ytljahhgankcalaa

/-! The document's heap: Free. -/
namespace Go.Proofs.Ytljahhgankcalaa
open Go.RowKit Go.Maps Go.MapKept Go.WideMaps
open Go.Proofs.YtljahhgankcalaaW.PrintWords Go.Proofs.YtljahhgankcalaaW.PrintLast Go.Proofs.YtljahhgankcalaaW.PrintMore
open PHeapThere
set_option linter.unusedVariables false
set_option linter.unusedSimpArgs false

def RH.free (R : RH) (s : Int) : Int × RH := if R.at? s < R.L.length then (0, { R with L := R.L.eraseIdx (R.at? s) }) else (1, R)
theorem cuts {w : World} {A : Option Addr} {c i : Nat} {L : List RP} (hC : Kd.C kRP w A L.length L) (hc : L.length ≤ c) (hi : i < L.length) :
    (∀ W : World, (Instr.slice 36 (.slice A L.length c) none (some (.int .i64 (i : Int))) none).run Try.prog W = .ok (.slice A i c) W) ∧ Kd.C kRP w A i (L.take i) ∧
      ∃ A2 m2 c2, (∀ W : World, (Instr.slice 36 (.slice A L.length c) (some (.int .i64 ((i : Int) + 1))) none none).run Try.prog W = .ok (.slice A2 m2 c2) W) ∧ Kd.C kRP w A2 m2 (L.drop (i + 1)) ∧ m2 ≤ L.length := by
  obtain ⟨i0, hi0, hzz⟩ := Option.map_eq_some_iff.1 Try.infoPlc
  simp only [Prod.mk.injEq] at hzz
  have e1 : ((i : Int)).toNat = i := by omega
  have e2 : ((i : Int) + 1).toNat = i + 1 := by omega
  have h1 := cut_to (P := Try.prog) 36 38 .i64 Try.underlying36 hi0 A L.length c (i : Int) (by omega) (by omega) hc
  have h2 := cut_from (P := Try.prog) 36 38 .i64 Try.underlying36 hi0 8 hzz.2.1 A L.length c ((i : Int) + 1) (by omega) (by omega)
  rw [e1] at h1
  rw [e2] at h2
  have h3 := Kd.C_take (m := i) hC (by omega)
  rw [show (L.take i).length = i from by rw [List.length_take]; omega] at h3
  have h4 := Kd.C_drop (m := i + 1) hC (by omega) hc
  rw [List.length_drop] at h4
  exact ⟨h1, h3, _, _, _, h2, h4, by omega⟩
set_option maxRecDepth 100000 in
set_option maxHeartbeats 2000000 in
theorem rfree_calls (x : Nat) (s : Int) (R : RH) (G : Nat → Prop) (w : World) (H : RIs w x R G) (hl : R.L.length < 90000000) :
    Calls Try.prog 49 #[.pointer (some ⟨x, 0, none⟩), .int .i64 s] w fun e w' => e = .returned (.int .i64 (R.free s).1) ∧ RIs w' x (R.free s).2 (ext G w w') ∧ Chg w w' G := by
  have hf := find_calls x s R G w H (by omega)
  rw [RH.find_at] at hf
  unfold RH.free
  by_cases hi : R.at? s < R.L.length
  · rw [if_pos hi]
    rw [if_pos hi] at hf
    generalize R.at? s = i at hf hi ⊢
    obtain ⟨lv, gv, H⟩ := H
    obtain ⟨A, c, e⟩ := Kd.R_slice H.pl
    subst e
    have c0 := blk_cell H.blk 0
    simp at c0
    obtain ⟨r1, hC1, A2, m2, c2, r2, hC2, hm2⟩ := cuts (Kd.R_reads' H.pl).2.2 (Kd.R_reads' H.pl).2.1 hi
    have hxl := H.bound x H.xG
    have d0 : decide ((i : Int) < 0) = false := decide_eq_false (by omega)
    have i1 : (0 : Int) ≤ (i : Int) := by omega
    have i2 : (i : Int) < 90000000 := by omega
    have HE : Aside0 (R.L.eraseIdx i = R.L.take i ++ R.L.drop (i + 1)) := ⟨List.eraseIdx_eq_take_drop_succ _ _⟩
    have HM : Aside0 (∀ p ∈ R.L.eraseIdx i, p ∈ R.L) := ⟨fun p hp => List.mem_of_mem_eraseIdx hp⟩
    have hlt1 : (R.L.take i).length ≤ i := by rw [List.length_take]; omega
    generalize R.L.take i = l1 at hC1 HE hlt1
    generalize R.L.drop (i + 1) = l2 at hC2 HE
    replace hlt1 := Aside0.mk hlt1
    have HC1 := Aside0.mk hC1
    have HC2 := Aside0.mk hC2
    have HH := Aside0.mk H
    have HI := Aside0.mk hi
    have HX := Aside0.mk hxl
    have HM2 := Aside0.mk hm2
    clear H hi hC1 hC2 hm2
    go_enter Try.func49, Try.ntmps49
    go_wp2_with (first
      | (go_at_call 85; refine hf.mono ?_; rintro e w' ⟨rfl, hw⟩; obtain rfl := hw.symm)
      | (at_builtin; refine Kd.R_append_rows kRP (w0 := w) w.heap.size rfl (.tmp 12) (.tmp 18) 36 38 (.agg #[.int .i64 0, .int .i64 0, .int .i64 0, .int .i64 0, .int .i64 0, .int .i64 0, .int .i64 0, .slice none 0 0]) 80 rfl Try.underlying36 Try.infoPlc rfl (by decide) (by omega) (.slice (some ⟨w.heap.size, 0, none⟩) 0 0) [] l1 _ _ _ (fun _ => True) (fun _ => False) rfl rfl (R_empty kRP 38 w w.heap.size (Nat.le_refl _) (fun _ => True) trivial) (Kd.C_below HC1.out ((Below.refl _ _).alloc (Nat.le_refl _) _)) (fun _ _ h => kRP_ofK h) (fun _ h => h.elim) (fun _ _ => trivial) ((Below.refl _ _).alloc (Nat.le_refl _) _) (by simp) (by simp; omega) ?_; intro v1 w5 ho hb hg hat; simp only [List.nil_append] at ho; clear hg hat; obtain ⟨va, vc, ev⟩ := Kd.R_slice ho; subst ev; have kx := blk_cell ((hb.block x HX.out).trans HH.out.blk) 0; simp at kx; replace ho := Aside0.mk ho; have hB5 := Aside0.mk hb; clear hb)
      | (at_builtin; refine Kd.R_append_rows kRP (w0 := w) w.heap.size rfl (.tmp 21) (.tmp 28) 36 38 (.agg #[.int .i64 0, .int .i64 0, .int .i64 0, .int .i64 0, .int .i64 0, .int .i64 0, .int .i64 0, .slice none 0 0]) 80 rfl Try.underlying36 Try.infoPlc rfl (by decide) (by omega) (.slice va l1.length vc) l1 l2 _ _ _ (fun _ => True) (fun _ => False) rfl rfl ho.out (Kd.C_below HC2.out hB5.out) (fun _ _ h => kRP_ofK h) (fun _ h => h.elim) (fun _ _ => trivial) hB5.out hB5.out.size (by have := hlt1.out; have := HM2.out; omega) ?_; intro v2 w6 ho2 hb hg hat; clear hg hat; have kx6 := blk_cell ((hb.block x HX.out).trans HH.out.blk) 0; have zx6 := blk_frozen ((hb.block x HX.out).trans HH.out.blk) 0; simp at kx6; rw [← HE.out] at ho2; obtain ⟨vb, vd, ev2⟩ := Kd.R_slice ho2; subst ev2; replace ho2 := Aside0.mk ho2; have hB6 := Aside0.mk hb; clear hb))
    go_ret
    have hfin := HH.out.setL hB6.out ho2.out (fun p hp => Kd.R_below (Kd.R_mono (HH.out.rows p (HM.out p hp)) (fun k hk => .inl hk)) hB6.out)
    exact ⟨rfl, ⟨_, _, hfin.1⟩, hfin.2.mono (fun k _ e => e ▸ HH.out.xG)⟩
  · rw [if_neg hi]
    rw [if_neg hi] at hf
    have HS := Aside0.mk (ext_self H)
    clear hi H
    go_enter Try.func49, Try.ntmps49
    go_wp2_with (go_at_call 85; refine hf.mono ?_; rintro e w' ⟨rfl, hw⟩; obtain rfl := hw.symm)
    go_ret
    exact ⟨rfl, HS.out, Chg.refl _ _⟩
def RH.put (R : RH) (s : Int) (t : ATup) (A : Option Addr) (c : Nat) : RH := ({ R with L := R.L ++ [⟨s, t, A, c⟩] } : RH).give t.f0 t.f1
end Go.Proofs.Ytljahhgankcalaa

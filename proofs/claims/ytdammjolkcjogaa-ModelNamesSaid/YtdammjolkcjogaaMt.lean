import Derived.Test.YtdammjolkcjogaaMk
import Derived.Test.YtdammjolkcjogaaDg
/-! model: Tables. -/
namespace Go.Proofs.Ytdammjolkcjogaa
open Go.RowKit Go.Maps Go.MapKept Go.WideMaps Go.Shelf
open Go.Proofs.YtdammjolkcjogaaW.PrintWords Go.Proofs.YtdammjolkcjogaaW.PrintLast Go.Proofs.YtdammjolkcjogaaW.PrintMore
open PModelNames
set_option linter.unusedVariables false
set_option linter.unusedSimpArgs false

/-- 'len(m)'. -/
theorem MapOf.len {α β : Type} {P : Program} {kv : α → Value} {ev : β → Value} {ok : α → Prop} {w : World} {b : Nat} {g : α → Option β} {t k e : TypeId} (h : MapOf kv ev ok w b g) (ht : P.underlying t = some (.map k e)) (ty : TypeId) :
    ∃ n : Nat, (Builtin.len_ #[t] ty #[.map (some b)]).run P w = .ok (.int .i64 n) w ∧ (n = 0 ↔ ∀ a, g a = none) := by
  obtain ⟨es, clock, hb, _, h1, h2⟩ := h
  refine ⟨es.size, by simp [Builtin.len_, run_underlying ht, MapKept.run_getObj_map hb, goInt, Result.andThen], ?_⟩
  constructor
  · intro h0 a
    cases hg : g a with
    | none => rfl
    | some v =>
      obtain ⟨_, x, hx, _⟩ := h2 a v hg
      have : es.toList.length = 0 := by simpa using h0
      rw [List.length_eq_zero_iff.1 this] at hx
      cases hx
  · intro hn
    rcases Nat.eq_zero_or_pos es.size with h0 | h0
    · exact h0
    · obtain ⟨a, v, _, _, hg⟩ := h1 es[0] (by simp)
      rw [hn a] at hg
      cases hg
theorem nodup_sub : ∀ (ss D : List Int), ss.Nodup → (∀ x ∈ ss, x ∈ D) → ss.length ≤ D.length
  | [], D, _, _ => by simp
  | a :: ss, D, hn, h => by
    rw [List.nodup_cons] at hn
    have ha := h a (by simp)
    have h1 := nodup_sub ss (D.erase a) hn.2 (fun x hx => (List.mem_erase_of_ne (fun e => hn.1 (by rw [← e]; exact hx))).2 (h x (by simp [hx])))
    rw [List.length_erase, if_pos (by simpa using ha)] at h1
    have := List.length_pos_of_mem ha
    simp only [List.length_cons]
    omega
theorem ints_up {w' : World} {B : Nat} {v : Value} {l : List Int} (h : Kd.R kInt 3 w' 0 (fun k => B ≤ k) v l) : Kd.R kInt 3 w' B (fun _ => True) v l :=
  Kd.R_mono (Kd.R_raise (b := 0) (b' := B) (fun _ _ _ _ h => h) h (fun k hk => (R_block h hk).1)) (fun _ _ => trivial)
open Classical in
/-- A table without rows. -/
noncomputable def MI.bare (I : MI) (no : Int) : Bool := decide (∀ i, I.rows no i = none)
theorem MI.bare_iff (I : MI) (no : Int) : I.bare no = true ↔ ∀ i, I.rows no i = none := by unfold MI.bare; simp only [decide_eq_true_eq]
def MI.IsTabs (I : MI) (l : List Int) : Prop := l.Pairwise (· < ·) ∧ ∀ x, x ∈ l ↔ ∃ i, I.rows x i ≠ none
section
variable {w : World} {m : Nat} {I : MI} {F : Nat → Prop} {mb : Nat} {tb : Int → Option (Nat × Nat)} {rv : Int → Int → Option Value} {D : List Int}
theorem InstAt.none_iff (H : InstAt w m I F mb tb rv) (no i : Int) : rv no i = none ↔ I.rows no i = none := by
  constructor
  · exact H.none_ no i
  · intro h
    cases hv : rv no i with
    | none => rfl
    | some v =>
      obtain ⟨l, h1, _⟩ := H.vals no i v hv
      rw [h] at h1
      cases h1
theorem InstAt.bare (H : InstAt w m I F mb tb rv) (no : Int) : I.bare no = true ↔ ∀ i, rv no i = none := by
  unfold MI.bare
  simp only [decide_eq_true_eq]
  exact ⟨fun h i => (H.none_iff no i).2 (h i), fun h i => (H.none_iff no i).1 (h i)⟩
set_option maxRecDepth 100000 in
theorem tables1_calls (H : InstAt w m I F mb tb rv) (bx : Nat) (hbx : w.heap[bx]? = some (.cells #[.pointer (some ⟨m, 0, none⟩)] 22 (0, 0))) (no : Int) {x : Nat × Nat} (h : tb no = some x) :
    Calls Try.prog 26 #[.int .i64 no, .pointer (some ⟨bx, 0, none⟩)] w fun e w' => e = .returned (.bool (I.bare no)) ∧ ∃ q, w' = w.drewN q := by
  have ho := H.amap.good h
  have hlk := H.amap.look keyInt Try.underlying60 (Try.zeroTab _) false ho
  obtain ⟨t, r⟩ := x
  rw [h] at hlk
  have hlk2 : (Instr.lookup 60 (.map (some mb)) (.int .i64 no) false).run Try.prog w = .ok (.pointer (some ⟨t, 0, none⟩)) w := hlk
  have c0 := blk_cell H.blk 0
  have cb := blk_cell hbx 0
  obtain ⟨b1, b2, _, _, _⟩ := H.tabs no t r h
  have c1 := blk_cell b1 0
  simp at c0 c1 cb
  obtain ⟨n, hlen, hn⟩ := b2.len Try.underlying57 3
  have hb : ((n : Int) == 0) = I.bare no := by
    cases hq : I.bare no with
    | true =>
      have := hn.2 ((H.bare no).1 hq)
      subst this
      rfl
    | false =>
      refine beq_eq_false_iff_ne.2 (fun e => ?_)
      have h0 : n = 0 := by omega
      have := (H.bare no).2 (hn.1 h0)
      rw [hq] at this
      cases this
  generalize I.bare no = p at hb ⊢
  clear H hlk h b1 b2 hn hbx
  go_enter Try.func26, Try.ntmps26
  go_wp2
  go_ret
  exact ⟨rfl, 0, rfl⟩
set_option maxRecDepth 100000 in
set_option maxHeartbeats 2000000 in
theorem tables_calls (H : InstAt w m I F mb tb rv) (hD : ∀ n x, tb n = some x → n ∈ D) (hl : D.length ≤ 1000000) :
    Calls Try.prog 10 #[.pointer (some ⟨m, 0, none⟩)] w fun e w' => ∃ v l, e = .returned v ∧ Kd.R kInt 3 w' w.heap.size (fun _ => True) v l ∧ I.IsTabs l ∧ Below w.heap.size w w' := by
  have hN : ∀ ss : List Int, ss.Nodup → (∀ x ∈ ss, ∃ v, tb x = some v) → ss.length ≤ D.length := fun ss h1 h2 => nodup_sub ss D h1 (fun x hx => by
    obtain ⟨v, hv⟩ := h2 x hx
    exact hD x v hv)
  obtain ⟨w1, hw1⟩ : ∃ w1, w.alloc (.cells #[.pointer (some ⟨m, 0, none⟩)] 22) = w1 := ⟨_, rfl⟩
  have hbx : w1.heap[w.heap.size]? = some (.cells #[.pointer (some ⟨m, 0, none⟩)] 22 (0, 0)) := by rw [← hw1]; exact heap_alloc_new w _
  have B1 : Below w.heap.size w w1 := by rw [← hw1]; exact (Below.refl _ w).alloc (Nat.le_refl _) _
  have s1 : w1.heap.size = w.heap.size + 1 := by rw [← hw1]; simp
  have H1 := H.below B1
  have hk := keysT_calls (some mb) w1
  have hbm := heap_alloc_new w1 (.cells #[.map (some mb)] 60)
  have B2 : Below w.heap.size w (w1.alloc (.cells #[.map (some mb)] 60)) := B1.alloc (by omega) _
  have cb := blk_cell hbx 0
  have c0 := blk_cell H1.blk 0
  simp at cb c0
  rw [s1] at hbm
  have H2 := H.below B2
  have hs := sortedKeysT (w.heap.size + 1) mb D.length tb hN hl (w1.alloc (.cells #[.map (some mb)] 60)) (by simpa using blk_cell hbm 0) H2.amap
  obtain ⟨w2, hw2⟩ : ∃ w2, w1.alloc (.cells #[.map (some mb)] 60) = w2 := ⟨_, rfl⟩
  rw [hw2] at hs B2 H2 hk
  rw [s1] at hk
  have hbx2 : w2.heap[w.heap.size]? = some (.cells #[.pointer (some ⟨m, 0, none⟩)] 22 (0, 0)) := by rw [← hw2]; exact (Below.heap_alloc w1 _ _ (by omega)).trans hbx
  have s2 : w2.heap.size = w.heap.size + 2 := by rw [← hw2]; simp; omega
  have cb2 := blk_cell hbx2 0
  simp at cb2
  have HH := Aside0.mk (And.intro H2 (And.intro hbx2 (And.intro B2 s2)))
  have hbd := Aside0.mk H.bound
  have hw2' := Aside0.mk hw2
  clear H H1 H2 hbx hbx2 hbm B1 B2 hN hD hl hw2
  go_enter Try.func10, Try.ntmps10
  go_wp2_with fail
  refine hk.mono ?_
  clear hk
  rintro e wq ⟨he, hq⟩
  rw [he, hq]
  clear he hq
  go_wp2_with fail
  refine hs.mono ?_
  clear hs
  rintro e w3 ⟨v, l, rfl, hrise, hmem, hR, hB3⟩
  have H3 := HH.out.1.below hB3
  have hbx3 := (hB3.block w.heap.size (by have := HH.out.2.2.2; omega)).trans HH.out.2.1
  have hown : ∀ k, v.ownBlock = some k → w2.heap.size ≤ k := fun k hk => (R_block (Kd.R_mono (Kd.R_bound hR) (ok' := fun k => w2.heap.size ≤ k) (fun k hk => hk.2.1)) hk).1
  have hdel := deleteInt_calls 26 #[.pointer (some ⟨w.heap.size, 0, none⟩)] I.bare (enters_of Try.func26 (by kernel_rfl) rfl) v l (fun k => w2.heap.size ≤ k) w3 (Kd.R_lower (Kd.R_mono (Kd.R_bound hR) (fun k hk => hk.2.1)) (Nat.zero_le _)) (fun W x hx hc => by
    obtain ⟨y, hy⟩ := (hmem x).1 hx
    have hF : ∀ k, F k → ¬ (some k = v.ownBlock) := fun k hk e => by have := hown k e.symm; have := hbd.out k hk; have := HH.out.2.2.2; omega
    exact tables1_calls (H3.chg hc hF) w.heap.size ((hc.block _ (by have := HH.out.2.2.2; have := hB3.size; omega) (fun e => by have := hown _ e.symm; have := HH.out.2.2.2; omega)).trans hbx3) x hy)
  have HX := Aside0.mk (And.intro hrise (And.intro hmem (And.intro hB3 (And.intro hown H3))))
  clear hrise hmem hR hB3 H3 hbx3 hown
  go_wp2_with fail
  refine hdel.mono ?_
  clear hdel
  rintro e w4 ⟨v1, rfl, hR4, ho4, hc4, hs4⟩
  have hout : Aside0 (Kd.R kInt 3 w4 w.heap.size (fun _ => True) v1 (l.filter (fun x => !I.bare x)) ∧ I.IsTabs (l.filter (fun x => !I.bare x)) ∧ Below w.heap.size w w4) := ⟨by
    refine ⟨ints_up (Kd.R_mono hR4 (fun k hk => by have := HH.out.2.2.2; omega)), ⟨HX.out.1.sublist (List.filter_sublist), fun x => ?_⟩, ?_⟩
    · rw [List.mem_filter, HX.out.2.1 x]
      have hbr := HX.out.2.2.2.2.bare x
      constructor
      · rintro ⟨⟨y, hy⟩, h2⟩
        have hnb : ¬ (∀ i, I.rows x i = none) := fun hall => by
          have : I.bare x = true := I.bare_iff x |>.2 hall
          rw [this] at h2
          cases h2
        exact Classical.byContradiction (fun hc => hnb (fun i => Classical.byContradiction (fun hi => hc ⟨i, hi⟩)))
      · rintro ⟨i, hi⟩
        constructor
        · cases ht : tb x with
          | some y => exact ⟨y, rfl⟩
          | none => exact absurd (HX.out.2.2.2.2.none_ x i ((HX.out.2.2.2.2.off x ht).1 i)) hi
        · cases hq : I.bare x with
          | false => rfl
          | true =>
            have := hbr.1 hq i
            exact absurd (HX.out.2.2.2.2.none_ x i this) hi
    · have h1 := HH.out.2.2.1.trans (HX.out.2.2.1.mono HH.out.2.2.1.size)
      exact h1.trans (hc4.below h1.size (fun k e => by have := HX.out.2.2.2.1 k e.symm; have := HH.out.2.2.2; omega))⟩
  clear hR4 ho4 hc4
  go_wp2
  go_ret
  exact ⟨v1, _, rfl, hout.out.1, hout.out.2.1, hout.out.2.2⟩
end
end Go.Proofs.Ytdammjolkcjogaa

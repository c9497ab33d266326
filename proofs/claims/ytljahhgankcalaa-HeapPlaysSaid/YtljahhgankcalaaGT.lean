import Derived.Test.YtljahhgankcalaaHrpM
import Derived.Test.YtljahhgankcalaaGS
/-! Lemmas on tables, rows, lists that rise. Printed by genpx.py. -/
namespace Go.Proofs.Ytljahhgankcalaa
open Go.RowKit Go.Maps Go.MapKept Go.WideMaps Go.Shelf
open Go.Proofs.YtljahhgankcalaaW.PrintWords Go.Proofs.YtljahhgankcalaaW.PrintLast Go.Proofs.YtljahhgankcalaaW.PrintMore
open PHeapThere
set_option linter.unusedVariables false
set_option linter.unusedSimpArgs false

theorem rise_ext : ∀ (l l' : List Int), l.Pairwise (· < ·) → l'.Pairwise (· < ·) → (∀ x, x ∈ l ↔ x ∈ l') → l = l'
  | [], [], _, _, _ => rfl
  | [], b :: l', _, _, h => absurd ((h b).2 (by simp)) (by simp)
  | a :: l, [], _, _, h => absurd ((h a).1 (by simp)) (by simp)
  | a :: l, b :: l', h1, h2, h => by
    rw [List.pairwise_cons] at h1 h2
    have e : a = b := by
      have ha := (h a).1 (by simp)
      have hb := (h b).2 (by simp)
      rcases List.mem_cons.1 ha with e | ha
      · exact e
      · rcases List.mem_cons.1 hb with e | hb
        · exact e.symm
        · have := h2.1 a ha
          have := h1.1 b hb
          omega
    subst e
    congr 1
    refine rise_ext l l' h1.2 h2.2 (fun x => ⟨fun hx => ?_, fun hx => ?_⟩)
    · rcases List.mem_cons.1 ((h x).1 (by simp [hx])) with e | hx'
      · subst e
        exact absurd (h1.1 x hx) (by omega)
      · exact hx'
    · rcases List.mem_cons.1 ((h x).2 (by simp [hx])) with e | hx'
      · subst e
        exact absurd (h2.1 x hx) (by omega)
      · exact hx'
theorem AH.IsTabs.one {A : AH} {l l' : List Int} (h : A.IsTabs l) (h' : A.IsTabs l') : l = l' := rise_ext l l' h.1 h'.1 (fun x => (h.2 x).trans (h'.2 x).symm)
theorem AH.IsIDs.one {A : AH} {no : Int} {l l' : List Int} (h : A.IsIDs no l) (h' : A.IsIDs no l') : l = l' := rise_ext l l' h.1 h'.1 (fun x => (h.2 x).trans (h'.2 x).symm)
theorem len_le_flat (A : AH) : ∀ {vp : List (Int × Int)}, (∀ p ∈ vp, A.rows p ≠ []) → vp.length ≤ (A.flat vp).length
  | [], _ => by simp
  | p :: vp, h => by
    have h1 := len_le_flat A (vp := vp) (fun q hq => h q (by simp [hq]))
    have h2 := List.length_pos_iff.2 (h p (by simp))
    unfold AH.flat at h1 ⊢
    rw [List.flatMap_cons, List.length_append, List.length_cons]
    omega
theorem AH.IsIDs.len {A : AH} (hA : A.Ok) {no : Int} {l : List Int} (h : A.IsIDs no l) : l.length ≤ A.slots.length := by
  have hn : (l.map (fun id => (no, id))).Nodup := List.Pairwise.map _ (fun x y hxy e => by injection e with _ e2; omega) h.1
  have h1 := A.flat_le hA hn
  have h2 := len_le_flat A (vp := l.map (fun id => (no, id))) (fun p hp => by
    obtain ⟨i, hi, rfl⟩ := List.mem_map.1 hp
    exact (h.2 i).1 hi)
  rw [List.length_map] at h2
  omega
theorem AH.IsTabs.len {A : AH} (hA : A.Ok) {l : List Int} (h : A.IsTabs l) : l.length ≤ A.slots.length := by
  have hc : ∀ t : Int, ∃ i : Int, t ∈ l → A.rows (t, i) ≠ [] := fun t => by
    by_cases ht : t ∈ l
    · obtain ⟨i, hi⟩ := (h.2 t).1 ht
      exact ⟨i, fun _ => hi⟩
    · exact ⟨0, fun e => absurd e ht⟩
  obtain ⟨f, hf⟩ := Classical.axiomOfChoice hc
  have hn : (l.map (fun t => (t, f t))).Nodup := List.Pairwise.map _ (fun x y hxy e => by injection e with e1 _; omega) h.1
  have h1 := A.flat_le hA hn
  have h2 := len_le_flat A (vp := l.map (fun t => (t, f t))) (fun p hp => by
    obtain ⟨t, ht, rfl⟩ := List.mem_map.1 hp
    exact hf t ht)
  rw [List.length_map] at h2
  omega
theorem HeapIs.okRow {w : World} {h : Nat} {A : AH} {F : Nat → Prop} (H : HeapIs w h A F) (p : Int × Int) (hne : A.rows p ≠ []) : okW p := by
  obtain ⟨sv, rb, gb, rg, gg, H⟩ := H
  cases hr : rg p with
  | none => exact absurd (H.rown _ hr) hne
  | some v => exact H.rmap.good hr

end Go.Proofs.Ytljahhgankcalaa

/-! same: the places (block 0); the whole of it. -/
namespace Go.Proofs.Ytljahhgankcalaa
open Go.RowKit Go.Maps Go.MapKept Go.WideMaps Go.Shelf
open Go.Proofs.YtljahhgankcalaaW.PrintWords Go.Proofs.YtljahhgankcalaaW.PrintLast Go.Proofs.YtljahhgankcalaaW.PrintMore
open PHeapThere
set_option linter.unusedVariables false
set_option linter.unusedSimpArgs false

theorem ints_up {w' : World} {B : Nat} {v : Value} {l : List Int} (h : Kd.R kInt 3 w' 0 (fun k => B ≤ k) v l) : Kd.R kInt 3 w' B (fun _ => True) v l :=
  Kd.R_mono (Kd.R_raise (b := 0) (b' := B) (fun _ _ _ _ h => h) h (fun k hk => (R_block h hk).1)) (fun _ _ => trivial)
theorem AH.ids_are {A : AH} {R : RH} (H : Rel A R) (hl : R.L.length < 90000000) (no : Int) : ∃ l, A.IsIDs no l := by
  obtain ⟨K, r, _, h1, h2⟩ := rise_law (selI no R.L) (by have := selI_len no R.L; omega)
  exact ⟨r, H.ids h1 h2⟩
open Classical in
noncomputable def AH.idsL (A : AH) (no : Int) : List Int := if h : ∃ l, A.IsIDs no l then h.choose else []
theorem AH.idsL_is {A : AH} {no : Int} (h : ∃ l, A.IsIDs no l) : A.IsIDs no (A.idsL no) := by
  unfold AH.idsL
  rw [dif_pos h]
  exact h.choose_spec
section
variable {wr : World} {h x : Nat} {A : AH} {R : RH} {F G : Nat → Prop} {v5 v6 v7 v8 v10 v11 v12 v13 : Value} {a : Act}
set_option maxRecDepth 100000 in
set_option maxHeartbeats 4000000 in
theorem same_places (HF : FrS a h x v5 (.int .i64 0) v7 v8 v10 v11 v12 v13) (HH : HeapIs wr h A F) (HX : RIs wr x R G) (HR : Rel A R) (hl : R.L.length ≤ 1000) (hlim : A.Lim 20000) :
    Pc (sblk 0) (fun a' w' => ∃ v6' v7' v8', FrS a' h x v5 v6' v7' v8' v10 v11 v12 v13 ∧ Below wr.heap.size wr w') a wr := by
  intro J K' hJ hK
  obtain ⟨u, hu, ha⟩ := HF.open
  subst ha
  clear hu HF
  conv => arg 2; whnf
  go_wp2
  refine wp_loop_ghost_k (fun m a' w' => ∃ (i : Nat) (v7 v8 : Value), m + i = R.L.length ∧ FrS a' h x v5 (.int .i64 (i : Nat)) v7 v8 v10 v11 v12 v13 ∧ Below wr.heap.size wr w') R.L.length ⟨0, v7, v8, by omega, ⟨rfl, rfl, rfl, rfl, rfl, rfl, rfl, rfl, rfl, rfl, rfl, rfl⟩, Below.refl _ _⟩ ?_
  rintro gk a' w1 ⟨i, v7, v8, hi, HF, HB⟩
  obtain ⟨u, hu, ha⟩ := HF.open
  subst ha
  clear hu HF
  intro J2 K2 hJ2 hK2
  replace hi := Aside0.mk hi
  have HX1 := HX.below HB
  obtain ⟨lv, gv, HX1⟩ := HX1
  obtain ⟨aL, cL, eL⟩ := Kd.R_slice HX1.pl
  subst eL
  have k0 := blk_cell HX1.blk 0
  simp at k0
  by_cases hlt : i < R.L.length
  · have d1 : decide (i < R.L.length) = true := decide_eq_true hlt
    have d2 : decide ((i : Int) < (R.L.length : Int)) = true := decide_eq_true (by omega)
    have i4 : (R.L.length : Int) ≤ 1000000 := by omega
    obtain ⟨gL, cap, hv, hcap, y0, y1, y2, y3, y4, y5, y6, y7⟩ := rp_cells HX1.pl hlt
    injection hv with hv _ hvc
    subst hv
    subst hvc
    have hm := List.getElem_mem hlt
    have hrow := Kd.R_reads' (HX1.rows _ hm)
    have hat := HR.at hm
    have hlm : (A.at R.L[i].slot).f6.length < 20000 := hlim _
    have hlt6 : R.L[i].t.f6.length ≤ 1000000 := by
      have h1 := hat.2
      unfold AH.atE at h1
      rw [if_pos hat.1] at h1
      rw [← h1]; omega
    generalize R.L[i] = p at y0 y1 y2 y3 y4 y5 y6 y7 hrow hat hlm hlt6
    have hp := Aside0.mk (fun (a2 : Act) (HF2 : FrS a2 h x v5 (.int .i64 (i : Nat)) v7 v8 v10 v11 v12 v13) => same_place (wr := w1) (s := p.slot) (t := p.t) (a := a2) HF2 hlt hcap (by omega) hlt6 y0 k0 y1 y2 y3 y4 y5 y6 y7 hrow.2.2 hrow.2.1 (fun W hW => by
      have h1 := at_calls h p.slot A F W (HH.below (HB.trans (hW.mono HB.size))) (by omega)
      rw [hat.1, hat.2] at h1
      exact h1))
    replace HB := Aside0.mk HB
    have HLT := Aside0.mk hlt
    clear y0 y1 y2 y3 y4 y5 y6 y7 hrow hat hlm hlt6 hm HX1 hcap
    go_upto_block 1 with (fail)
    refine Pc.use (c := sblk 1) (hp.out _ ?f1) ?rest
    case f1 => exact ⟨rfl, rfl, rfl, rfl, rfl, rfl, rfl, rfl, rfl, rfl, rfl, rfl⟩
    rintro a' w2 ⟨v7', v8', HF, hB2⟩
    obtain ⟨u, hu, ha⟩ := HF.open
    subst ha
    clear hu HF
    have HB2 := Aside0.mk (HB.out.trans (hB2.mono HB.out.size))
    clear hB2 k0
    go_wp2
    exact Handed.intro (gk - 1) (by have := hi.out; have := HLT.out; omega) (hJ2 _ _ _ ⟨i + 1, v7', v8', by have := hi.out; have := HLT.out; omega, ⟨rfl, rfl, rfl, rfl, rfl, congrArg (Value.int .i64) (by omega), rfl, rfl, rfl, rfl, rfl, rfl⟩, HB2.out⟩)
  · have d1 : decide (i < R.L.length) = false := decide_eq_false hlt
    have d2 : decide ((i : Int) < (R.L.length : Int)) = false := decide_eq_false (by omega)
    replace HB := Aside0.mk HB
    clear hlt HX1
    go_wp2
    exact Met.intro (hJ _ _ ⟨_, _, _, ⟨rfl, rfl, rfl, rfl, rfl, rfl, rfl, rfl, rfl, rfl, rfl, rfl⟩, HB.out⟩)
set_option maxRecDepth 100000 in
set_option maxHeartbeats 4000000 in
/-- No tables. -/
theorem same_none {aT : Option Addr} {cT : Nat} (HF : FrS a h x (.slice aT 0 cT) v6 v7 v8 (.int .i64 0) v11 v12 v13) :
    Pc (sblk 4) (fun a' w' => ∃ v10' v11' v12' v13', FrS a' h x (.slice aT 0 cT) v6 v7 v8 v10' v11' v12' v13' ∧ Below wr.heap.size wr w') a wr := by
  intro J K' hJ hK
  obtain ⟨u, hu, ha⟩ := HF.open
  subst ha
  clear hu HF
  conv => arg 2; whnf
  go_wp2
  refine wp_loop_ghost_k (fun m a' w' => FrS a' h x (.slice aT 0 cT) v6 v7 v8 (.int .i64 0) v11 v12 v13 ∧ Below wr.heap.size wr w') 0 ⟨⟨rfl, rfl, rfl, rfl, rfl, rfl, rfl, rfl, rfl, rfl, rfl, rfl⟩, Below.refl _ _⟩ ?_
  rintro gk a' w1 ⟨HF, HB⟩
  obtain ⟨u, hu, ha⟩ := HF.open
  subst ha
  clear hu HF
  intro J2 K2 hJ2 hK2
  replace HB := Aside0.mk HB
  go_wp2
  exact Met.intro (hJ _ _ ⟨_, _, _, _, ⟨rfl, rfl, rfl, rfl, rfl, rfl, rfl, rfl, rfl, rfl, rfl, rfl⟩, HB.out⟩)
end
end Go.Proofs.Ytljahhgankcalaa

/-! same: the whole of it. -/
namespace Go.Proofs.Ytljahhgankcalaa
open Go.RowKit Go.Maps Go.MapKept Go.WideMaps Go.Shelf
open Go.Proofs.YtljahhgankcalaaW.PrintWords Go.Proofs.YtljahhgankcalaaW.PrintLast Go.Proofs.YtljahhgankcalaaW.PrintMore
open PHeapThere
set_option linter.unusedVariables false
set_option linter.unusedSimpArgs false

section
variable {h x : Nat} {A : AH} {R : RH} {F G : Nat → Prop}
/-- What is asked of both heaps behind their tables. -/
theorem same_rows {W : World} {T : List Int} {aT : Option Addr} {cT : Nat} {v6 v7 v8 v11 v12 v13 : Value} {a : Act} (HH : HeapIs W h A F) (HX : RIs W x R G) (hA : A.Ok) (HR : Rel A R) (hsl : A.slots.length ≤ 1000) (hTs : A.IsTabs T) (hT : Kd.R kInt 3 W 0 (fun _ => True) (.slice aT T.length cT) T)
    (HF : FrS a h x (.slice aT T.length cT) v6 v7 v8 (.int .i64 0) v11 v12 v13) :
    Pc (sblk 4) (fun a' w' => ∃ v10' v11' v12' v13', FrS a' h x (.slice aT T.length cT) v6 v7 v8 v10' v11' v12' v13' ∧ Below W.heap.size W w') a W := by
  have hTl := hTs.len hA
  have hRl : R.L.length ≤ 1000 := Nat.le_trans (HR.len hA) hsl
  rcases Nat.eq_zero_or_pos T.length with h0 | h0
  · obtain rfl := List.length_eq_zero_iff.1 h0
    exact same_none HF
  · have hIs : ∀ t, A.IsIDs t (A.idsL t) := fun t => AH.idsL_is (AH.ids_are HR (by omega) t)
    obtain ⟨gT, cap, ev, hcap, _, _, _⟩ := int_cells hT h0
    injection ev with e1 _ e2
    subst e1
    subst e2
    have hy : ∀ j (hj : j < T.length), W.cell? ⟨gT, j, none⟩ = some (.int .i64 T[j]) := fun j hj => by
      obtain ⟨g2, cap2, h1, h2, h3, h4, _⟩ := int_cells hT hj
      injection h1 with h1
      injection h1 with h1
      injection h1 with h1
      rw [h1]
      exact h4
    refine same_tabs (If := A.idsL) (Sf := fun t id => A.rows (t, id)) HF hcap (by omega) (fun t ht => ?_) (fun t ht id hid => ?_) hy (fun t ht W' hW => ?_) (fun t ht W' hW => ?_) (fun t ht id hid W' hW => ?_) (fun t ht id hid W' hW => ?_)
    · have h1 := (hIs t).len hA
      obtain ⟨id, hid⟩ := (hTs.2 t).1 ht
      exact ⟨by omega, List.length_pos_of_mem (((hIs t).2 id).2 hid)⟩
    · have h1 := hA.rows_len (t, id)
      exact ⟨by omega, List.length_pos_iff.2 (((hIs t).2 id).1 hid)⟩
    · refine (ids_of t (HH.below hW) hA (by omega)).mono ?_
      rintro e w' ⟨v, l, rfl, hv, hl, hB⟩
      obtain rfl := hl.one (hIs t)
      exact ⟨v, rfl, ints_up hv, hB⟩
    · refine (rids_calls x t R G W' (HX.below hW) (by omega)).mono ?_
      rintro e w' ⟨v, l, rfl, hv, h1, h2, hB⟩
      obtain rfl := (HR.ids h1 h2).one (hIs t)
      exact ⟨v, rfl, hv, hB⟩
    · have h1 := hA.rows_len (t, id)
      exact slots_calls h t id A F W' (HH.below hW) (HH.okRow _ (((hIs t).2 id).1 hid)) (by omega)
    · have h1 := rslots_calls x t id R G W' (HX.below hW) (by omega)
      rw [HR.rows] at h1
      exact h1
end
set_option maxRecDepth 100000 in
set_option maxHeartbeats 4000000 in
theorem same_calls {w : World} {h x : Nat} {A : AH} {R : RH} {F G : Nat → Prop} (HH : HeapIs w h A F) (HX : RIs w x R G) (hA : A.Ok) (HR : Rel A R) (hsl : A.slots.length ≤ 1000) (hlim : A.Lim 20000) :
    Calls Try.prog 52 #[.pointer (some ⟨h, 0, none⟩), .pointer (some ⟨x, 0, none⟩)] w fun e w' => e = .returned (.bool true) ∧ Below w.heap.size w w' := by
  have hRl : R.L.length ≤ 1000 := Nat.le_trans (HR.len hA) hsl
  have hmany : A.many = (R.L.length : Int) := HR.pl.len.symm
  have ht := tabs_of HH hA (by omega)
  have n1 : ((R.L.length : Int) != (R.L.length : Int)) = false := bne_self_eq_false _
  have HC := Aside0.mk (And.intro HH (And.intro HX (And.intro hA (And.intro HR (And.intro hsl (And.intro hlim (And.intro hRl hmany)))))))
  clear HH HX hA HR hsl hlim hRl hmany
  go_enter Try.func52, Try.ntmps52
  go_wp2_with fail
  refine ht.mono ?_
  clear ht
  rintro e w1 ⟨v, T, rfl, hT, hTs, hB1⟩
  obtain ⟨aT, cT, eT⟩ := Kd.R_slice hT
  subst eT
  have hln := len_calls h A F w1 (HC.out.1.below hB1)
  rw [HC.out.2.2.2.2.2.2.2] at hln
  have hlx := rlen_calls x R G w1 (HC.out.2.1.below hB1) (by have := HC.out.2.2.2.2.2.2.1; omega)
  have htx := rtables_calls x R G w1 (HC.out.2.1.below hB1) (by have := HC.out.2.2.2.2.2.2.1; omega)
  have hTl := hTs.len HC.out.2.2.1
  obtain ⟨ki, hki⟩ := ints_same T (by have := HC.out.2.2.2.2.1; omega)
  have HT := Aside0.mk (And.intro hT (And.intro hTs (And.intro hB1 hki)))
  clear hT hTs hB1 hTl hki
  go_wp2_with fail
  refine hln.mono ?_
  rintro e w2 ⟨rfl, rfl⟩
  clear hln
  go_wp2_with fail
  refine hlx.mono ?_
  rintro e w3 ⟨rfl, rfl⟩
  clear hlx
  go_wp2_with fail
  refine htx.mono ?_
  clear htx
  rintro e w4 ⟨v2, T2, rfl, hT2, h1, h2, hB4⟩
  obtain rfl := (HC.out.2.2.2.1.tabs HT.out.2.1 h1 h2).one HT.out.2.1
  obtain ⟨a2, c2, e2⟩ := Kd.R_slice hT2
  subst e2
  have HT2 := Aside0.mk (And.intro hT2 hB4)
  clear hT2 h1 h2 hB4
  go_wp2_with fail
  refine (covenantref03_Ints.calls ki aT cT T2 a2 c2 T2 true w4 (Kd.C_below (Kd.R_reads' HT.out.1).2.2 HT2.out.2) (Kd.R_reads' HT.out.1).2.1 (Kd.R_reads' HT2.out.1).2.2 (Kd.R_reads' HT2.out.1).2.1 HT.out.2.2.2).mono ?_
  rintro e w5 ⟨rfl, hD⟩
  have hB15 := HT2.out.2.trans (hD.below.mono HT2.out.2.size)
  have HB5 := Aside0.mk (HT.out.2.2.1.trans (hB15.mono HT.out.2.2.1.size))
  replace hB15 := Aside0.mk hB15
  clear hD
  go_upto_block 0 with (fail)
  refine Pc.use (c := sblk 0) (same_places (v7 := undef) (v8 := undef) (v10 := undef) (v11 := undef) (v12 := undef) (v13 := undef) (v5 := .slice aT T2.length cT) ?f1 (HC.out.1.below HB5.out) (HC.out.2.1.below HB5.out) HC.out.2.2.2.1 HC.out.2.2.2.2.2.2.1 HC.out.2.2.2.2.2.1) ?rest
  case f1 => exact ⟨rfl, rfl, rfl, rfl, rfl, rfl, rfl, rfl, rfl, rfl, rfl, rfl⟩
  rintro a' w6 ⟨v6', v7', v8', HF, hB6⟩
  obtain ⟨u, hu, ha⟩ := HF.open
  subst ha
  clear hu HF
  have HB6 := Aside0.mk (HB5.out.trans (hB6.mono HB5.out.size))
  have hT6 := Aside0.mk (Kd.R_mono (Kd.R_below HT.out.1 (hB15.out.trans (hB6.mono hB15.out.size))) (ok' := fun _ => True) (fun _ _ => trivial))
  clear hB6
  go_upto_block 4 with (fail)
  refine Pc.use (c := sblk 4) (same_rows (T := T2) (aT := aT) (cT := cT) (v6 := v6') (v7 := v7') (v8 := v8') (v11 := undef) (v12 := undef) (v13 := undef) (HC.out.1.below HB6.out) (HC.out.2.1.below HB6.out) HC.out.2.2.1 HC.out.2.2.2.1 HC.out.2.2.2.2.1 HT.out.2.1 hT6.out ?f2) ?rest2
  case f2 => exact ⟨rfl, rfl, rfl, rfl, rfl, rfl, rfl, rfl, rfl, rfl, rfl, rfl⟩
  rintro a' w7 ⟨v10', v11', v12', v13', HF, hB7⟩
  obtain ⟨u2, hu, ha⟩ := HF.open
  subst ha
  clear hu HF
  have HB7 := Aside0.mk (HB6.out.trans (hB7.mono HB6.out.size))
  clear hB7
  go_wp2
  go_ret
  exact ⟨rfl, HB7.out⟩
end Go.Proofs.Ytljahhgankcalaa

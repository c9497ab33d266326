import Derived.Test.YtdammjolkcjogaaCla
import Derived.Test.YtdammjolkcjogaaIt
import Derived.Deep.RegionHeld3
/-! model: an instance of one row; its Copy. -/
namespace Go.Proofs.Ytdammjolkcjogaa
open Go.RowKit Go.Maps Go.MapKept Go.WideMaps
open Go.Proofs.YtdammjolkcjogaaW.PrintWords Go.Proofs.YtdammjolkcjogaaW.PrintLast Go.Proofs.YtdammjolkcjogaaW.PrintMore
open PModelNames
set_option linter.unusedVariables false
set_option linter.unusedSimpArgs false

def one1 {α : Type} (x : α) : Int → Option α := fun n => if n = 1 then some x else none
/-- An instance of one table (1), of one row (1): the value v. -/
structure One (w : World) (c mb t r : Nat) (v : Value) : Prop where
  blk : w.heap[c]? = some (.cells #[.map (some mb)] 62 (0, 0))
  amap : MapOf (Value.int .i64) ptr2 okI w mb (one1 (t, r))
  tab : w.heap[t]? = some (.cells #[.map (some r), .int .i64 1] 59 (0, 0))
  rows : MapOf (Value.int .i64) id okI w r (one1 v)
section
variable {w w1 : World} {c mb t r : Nat} {v : Value} {S : Nat → Prop}
theorem One.chg (H : One w c mb t r v) (hc : Chg w w1 S) (h1 : ¬ S c) (h2 : ¬ S mb) (h3 : ¬ S t) (h4 : ¬ S r) : One w1 c mb t r v :=
  ⟨(hc.block c (blk_lt H.blk) h1).trans H.blk, H.amap.chg hc h2, (hc.block t (blk_lt H.tab) h3).trans H.tab, H.rows.chg hc h4⟩
theorem One.below (H : One w c mb t r v) (hb : Below w.heap.size w w1) : One w1 c mb t r v := H.chg (Chg.of_below hb (fun _ => False)) (fun h => h) (fun h => h) (fun h => h) (fun h => h)
theorem One.ne (H : One w c mb t r v) : c ≠ mb ∧ t ≠ mb ∧ t ≠ r ∧ c ≠ r ∧ c ≠ t := by
  obtain ⟨es, c1, he⟩ := H.amap.isMap
  obtain ⟨es2, c2, he2⟩ := H.rows.isMap
  refine ⟨fun e => ?_, fun e => ?_, fun e => ?_, fun e => ?_, fun e => ?_⟩
  · have := H.blk; rw [e, he] at this; cases this
  · have := H.tab; rw [e, he] at this; cases this
  · have := H.tab; rw [e, he2] at this; cases this
  · have := H.blk; rw [e, he2] at this; cases this
  · have h1 := H.blk
    rw [e, H.tab] at h1
    injection h1 with h1
    injection h1 with _ h1 _
    exact absurd h1 (by decide)
theorem One.lt (H : One w c mb t r v) : c < w.heap.size ∧ mb < w.heap.size ∧ t < w.heap.size ∧ r < w.heap.size := ⟨blk_lt H.blk, H.amap.lt, blk_lt H.tab, H.rows.lt⟩
end
/-- The copy under way: the tables 'done' are there. -/
structure CpSt (w wr : World) (c mb mb' it : Nat) (tr : Nat × Nat) (v : Value) (done : List Int) (left : Nat) : Prop where
  iter : Iter (Value.int .i64) ptr2 okI wr mb it (one1 tr) done left
  bel : Below w.heap.size w wr
  hit : w.heap.size ≤ it
  blk : wr.heap[c]? = some (.cells #[.map (some mb')] 62 (0, 0))
  hc : w.heap.size ≤ c
  hmb : w.heap.size ≤ mb'
  st : (done = [] ∧ MapOf (Value.int .i64) ptr2 okI wr mb' (fun _ => none)) ∨ (1 ∈ done ∧ ∃ t' r', w.heap.size ≤ t' ∧ w.heap.size ≤ r' ∧ One wr c mb' t' r' v)
theorem CpSt.step {w wr w2 : World} {c mb mb' it : Nat} {tr : Nat × Nat} {v : Value} {done : List Int} {left : Nat} (H : CpSt w wr c mb mb' it tr v done left) (hg : wr.grownBy w2 (some it)) (hn : ¬ (1 : Int) ∈ done) :
    Below w.heap.size w w2 ∧ w2.heap[c]? = some (.cells #[.map (some mb')] 62 (0, 0)) ∧ MapOf (Value.int .i64) ptr2 okI w2 mb' (fun _ => none) := by
  have hc := Chg.of_grown hg
  obtain ⟨_, _, _, _, _, _, _, _, _, ho, _⟩ := H.iter
  have hcn : c ≠ it := fun e => by
    have := H.blk
    rw [e, ho] at this
    cases this
  rcases H.st with ⟨_, hm⟩ | ⟨h1, _⟩
  · have hmn : mb' ≠ it := fun e => by
      obtain ⟨es, cl, h1⟩ := hm.isMap
      rw [e, ho] at h1
      cases h1
    refine ⟨pw_below_grown H.bel _ H.bel.size hg (fun k hk => by cases hk; exact H.hit), (hc.block c (blk_lt H.blk) (fun e => hcn (Option.some.inj e))).trans H.blk, hm.chg hc (fun e => hmn (Option.some.inj e))⟩
  · exact absurd h1 hn
set_option maxRecDepth 100000 in
set_option maxHeartbeats 4000000 in
theorem copy_one {w : World} {m mb t r : Nat} {v : Value} (H : One w m mb t r v) : Calls Try.prog 14 #[.pointer (some ⟨m, 0, none⟩)] w fun e w' => ∃ c mb' t' r', e = .returned (.pointer (some ⟨c, 0, none⟩)) ∧ One w' c mb' t' r' v ∧ (w.heap.size ≤ c ∧ w.heap.size ≤ mb' ∧ w.heap.size ≤ t' ∧ w.heap.size ≤ r') ∧ Below w.heap.size w w' := by
  have hnew := new_calls w
  replace H := Aside0.mk H
  go_enter Try.func14, Try.ntmps14
  go_wp2_with fail
  refine hnew.mono ?_
  clear hnew
  rintro e w1 ⟨c, rfl, hc, ⟨mb', tb, rv, Hn, hD⟩, b1⟩
  have H1 := H.out.below b1
  have k0 := blk_cell H1.blk 0
  have kc := blk_cell Hn.blk 0
  simp at k0 kc
  have hown := H1.amap
  have HN : Aside0 (w1.heap[c]? = some (.cells #[.map (some mb')] 62 (0, 0)) ∧ MapOf (Value.int .i64) ptr2 okI w1 mb' (fun _ => none) ∧ w.heap.size ≤ c ∧ w.heap.size ≤ mb') := ⟨Hn.blk, Hn.amap.congr (g' := fun _ => none) (fun a => by
    cases h : tb a with
    | none => rfl
    | some x => exact absurd (hD a x h) (by simp)), hc, Hn.bF.1⟩
  replace b1 := Aside0.mk b1
  clear Hn H1 hc hD
  go_wp2_with (at_range; refine wpList_range_map rfl _ 60 rfl Try.underlying60 rfl hown ?_; intro ob n0 hw0 hit0)
  have hS0 : CpSt w (w1.alloc ob) c mb mb' w1.heap.size (t, r) v [] n0 := ⟨hit0, b1.out.alloc b1.out.size ob, by have := b1.out.size; omega, (Below.heap_alloc w1 ob c (blk_lt HN.out.1)).trans HN.out.1, HN.out.2.2.1, HN.out.2.2.2, .inl ⟨rfl, HN.out.2.1.alloc ob⟩⟩
  generalize w1.heap.size = it at hS0 ⊢
  replace hS0 := Aside0.mk hS0
  clear hit0 hown hw0 k0 kc HN b1
  go_frame
  go_loopg [] n0 (fun gg wr => ∃ (done : List Int) (left : Nat), left ≤ gg ∧ Aside0 (CpSt w wr c mb mb' it (t, r) v done left))
  case atStart => exact ⟨[], n0, Nat.le_refl _, hS0⟩
  case round =>
    clear hS0
    obtain ⟨done, left, hle, HS⟩ := hrel
    have hit := HS.out.iter
    go_wp2_with (at_next; refine wpList_next_iter rfl _ rfl rfl hit keyInt.inj ?_ ?_)
    · intro hall
      have hin : (1 : Int) ∈ done := (hall 1).2 ⟨t, r, rfl⟩
      clear hall hit
      go_wp2
      go_ret
      rcases HS.out.st with ⟨e, _⟩ | ⟨_, t', r', h1, h2, h3⟩
      · rw [e] at hin; cases hin
      · exact ⟨c, mb', t', r', rfl, h3, ⟨HS.out.hc, HS.out.hmb, h1, h2⟩, HS.out.bel⟩
    · intro x x1 x2 w2 left2 hlt hg hox hnx hit2 hen hg2 hs2
      have hx : 1 = x ∧ t = x1 ∧ r = x2 := by
        unfold one1 at hg
        split at hg
        · rename_i e
          injection hg with hg
          injection hg with e1 e2
          exact ⟨e.symm, e1, e2⟩
        · cases hg
      obtain ⟨e1, e2, e3⟩ := hx
      subst e1 e2 e3
      have hS2 := HS.out.step hg2 hnx
      have H2 := H.out.below hS2.1
      have k0 := blk_cell H2.tab 0
      have k1 := blk_cell H2.tab 1
      have kc := blk_cell hS2.2.1 0
      simp at k0 k1 kc
      have hcl := Aside0.mk (fun (W : World) (hB : Below w2.heap.size w2 W) => mclone_calls (H2.rows.move (hB.block r H2.lt.2.2.2)))
      have hst := Aside0.mk (fun (W : World) (hB : Below w2.heap.size w2 W) (p : Nat × Nat) => (hS2.2.2.move (hB.block mb' hS2.2.2.lt)).store keyInt Try.underlying60 (show okI (1 : Int) from okI_small (by decide) (by decide)) p)
      simp only [ptr2] at hen
      have hlts := Aside0.mk (And.intro H2.lt (And.intro (blk_lt hS2.2.1) hS2.2.2.lt))
      have hne := hS2.2.2.no_cell kc
      have hne2 := hS2.2.2.no_cell k0
      dsimp only at hne hne2
      have hit2a := Aside0.mk (And.intro hit2 (And.intro hS2 H2))
      have hlt' := Aside0.mk hlt
      clear hit hit2 hg hox hnx hg2 hs2 H2 hS2 hlt
      go_upto_region 7 with (fail)
      go_region_held3 (fun W => W.cell? ⟨c, 0, none⟩ = some (.map (some mb')) ∧ W.cell? ⟨t, 0, none⟩ = some (.map (some r)) ∧ W.cell? ⟨t, 1, none⟩ = some (.int .i64 1)) (go_keep) ((go_at_call 29; refine (hcl.out _ (Below.refl _ _).drew).mono ?_; rintro e w5 ⟨r', rfl, hr', hM', hB⟩; have hB5 := ((Below.refl w2.heap.size w2).drew).trans hB; have f0 := (hB5.cell (p := ⟨t, 0, none⟩) hlts.out.1.2.2.1).trans k0; have f1 := (hB5.cell (p := ⟨t, 1, none⟩) hlts.out.1.2.2.1).trans k1; have fc := (hB5.cell (p := ⟨c, 0, none⟩) hlts.out.2.1).trans kc; obtain ⟨w6, hup, hm6, hc6, hs6⟩ := hst.out (w5.alloc (.cells #[.map (some r'), .int .i64 1] 59)) (hB5.alloc hB5.size _) (w5.heap.size, r'); simp only [ptr2] at hup; have hBA := hB5.alloc hB5.size (.cells #[.map (some r'), .int .i64 1] 59); have a0 := hc6.cell_some ((hBA.cell (p := ⟨t, 0, none⟩) hlts.out.1.2.2.1).trans k0) hne2; have a1 := hc6.cell_some ((hBA.cell (p := ⟨t, 1, none⟩) hlts.out.1.2.2.1).trans k1) hne2; have ac := hc6.cell_some ((hBA.cell (p := ⟨c, 0, none⟩) hlts.out.2.1).trans kc) hne; replace hBA := Aside0.mk hBA; replace hB5 := Aside0.mk hB5; replace hm6 := Aside0.mk hm6; replace hc6 := Aside0.mk hc6; replace hM' := Aside0.mk hM'; replace hr' := Aside0.mk hr'; clear hB hs6))
      all_goals
        have hS6 : Aside0 (CpSt w w6 c mb mb' it (t, r) v (done ++ [1]) left2) := ⟨by
          obtain ⟨⟨hi2, hS2, H2⟩⟩ := hit2a
          have hBA := hBA.out
          have hB5 := hB5.out
          have hc6 := hc6.out
          have hm6 := hm6.out
          have hM' := hM'.out
          have hr' := hr'.out
          have s1 := hS2.1.size
          have s2 := hB5.size
          have s0 := hlts.out
          have hsz : (w5.alloc (.cells #[.map (some r'), .int .i64 1] 59)).heap.size = w5.heap.size + 1 := by simp
          have hmi : mb' ≠ it := fun e => by
            obtain ⟨es, cl, h1⟩ := hS2.2.2.isMap
            obtain ⟨_, _, _, _, _, _, _, _, _, ho, _⟩ := hi2
            rw [e, ho] at h1
            cases h1
          have hne0 : r' ≠ mb' := by
            intro e
            have : (w2.drew).heap.size = w2.heap.size := rfl
            omega
          have hW : ∀ k, k < w2.heap.size → k ≠ mb' → w6.heap[k]? = w2.heap[k]? := fun k hk hn => (hc6.block k (by omega) hn).trans (hBA.block k hk)
          have ht5 := (hc6.block w5.heap.size (by omega) (by omega)).trans (heap_alloc_new w5 (.cells #[.map (some r'), .int .i64 1] 59))
          have hrm := hM'.lt
          refine ⟨hi2.move (hW mb H2.lt.2.1 (by have := HS.out.hmb; have := H.out.lt; omega)) (hW it hi2.lt.2 (Ne.symm hmi)), ?_, HS.out.hit, (hW c (blk_lt hS2.2.1) hne).trans hS2.2.1, HS.out.hc, HS.out.hmb, .inr ⟨by simp, w5.heap.size, r', by omega, by have : (w2.drew).heap.size = w2.heap.size := rfl; omega, ?_⟩⟩
          · exact (hS2.1.trans (hBA.mono s1)).trans (hc6.below (by omega) (fun k hk => by have := HS.out.hmb; omega))
          · refine ⟨(hW c (blk_lt hS2.2.1) hne).trans hS2.2.1, hm6.congr (fun a => by unfold one1 upd; split <;> rfl), ht5, (hM'.move ((hc6.block r' (by omega) hne0).trans (Below.heap_alloc w5 _ r' hrm))).congr (fun a => rfl)⟩⟩
        clear hup hm6 hc6 hM' hB5 hBA
        go_wp2
        go_roundg left2
        case measure => have := hlt'.out; omega
        case rel => exact ⟨done ++ [1], left2, Nat.le_refl _, hS6⟩
end Go.Proofs.Ytdammjolkcjogaa

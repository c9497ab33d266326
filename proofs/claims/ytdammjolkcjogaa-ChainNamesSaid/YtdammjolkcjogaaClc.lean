import Derived.Test.YtdammjolkcjogaaClb
/-! model: Row, Put, Del at an instance of one row. -/
namespace Go.Proofs.Ytdammjolkcjogaa
open Go.RowKit Go.Maps Go.MapKept Go.WideMaps
open Go.Proofs.YtdammjolkcjogaaW.PrintWords Go.Proofs.YtdammjolkcjogaaW.PrintLast Go.Proofs.YtdammjolkcjogaaW.PrintMore
open PModelNames
attribute [local go_sem] max2_mx max_two
set_option linter.unusedVariables false
set_option linter.unusedSimpArgs false

def oneI (xs : List AVal) : MI := ⟨fun n i => if n = 1 ∧ i = 1 then some xs else none, fun n => if n = 1 then 1 else 0⟩
section
variable {w : World} {c mb t r : Nat} {v : Value} {xs : List AVal}
theorem One.inst (H : One w c mb t r v) (hv : Kd.R kVal 53 w 0 (fun _ => True) v xs) : InstAt w c (oneI xs) (fun k => k < w.heap.size) mb (one1 (t, r)) (fun n => if n = 1 then one1 v else fun _ => none) where
  blk := H.blk
  amap := H.amap
  tabs := fun no t' r' h => by
    unfold one1 at h
    split at h
    · rename_i e
      subst e
      injection h with h
      injection h with e1 e2
      subst e1 e2
      exact ⟨H.tab, H.rows, H.lt.2.2.1, H.lt.2.2.2, fun e => by
        obtain ⟨es, cl, h1⟩ := H.rows.isMap
        have h3 := H.amap
        obtain ⟨es2, cl2, h2, _, _, h4⟩ := H.amap
        obtain ⟨es3, cl3, h5, _, h6, _⟩ := H.rows
        rw [e, h2] at h5
        injection h5 with h5
        injection h5 with h5 _
        subst h5
        obtain ⟨_, e0, he0, hk, hval⟩ := h4 1 (t, r) rfl
        obtain ⟨a, v0, hk2, hv2, hg⟩ := h6 e0 he0
        obtain ⟨A, cc, ev⟩ := Kd.R_slice hv
        unfold one1 at hg
        split at hg
        · injection hg with hg
          rw [hval, ← hg, ev] at hv2
          cases hv2
        · cases hg⟩
    · cases h
  off := fun no h => by
    unfold one1 at h
    split at h
    · cases h
    · rename_i e
      exact ⟨fun id => by rw [if_neg e], by simp [oneI, e]⟩
  vals := fun no id v' h => by
    by_cases e : no = 1
    · subst e
      rw [if_pos rfl] at h
      unfold one1 at h
      split at h
      · rename_i e2
        subst e2
        cases h
        exact ⟨xs, by simp [oneI], Kd.R_mono (Kd.R_bound hv) (fun k hk => hk.2.2.1)⟩
      · cases h
    · rw [if_neg e] at h; cases h
  none_ := fun no id h => by
    by_cases e : no = 1
    · subst e
      rw [if_pos rfl] at h
      unfold one1 at h
      split at h
      · cases h
      · rename_i e2; simp [oneI, e2]
    · simp [oneI, e]
  apart := fun no no' t1 r1 t2 r2 h1 h2 hne => by
    unfold one1 at h1 h2
    split at h1
    · split at h2
      · rename_i e1 e2; exact absurd (e1.trans e2.symm) hne
      · cases h2
    · cases h1
  mF := H.lt.1
  bF := H.lt.2.1
  bound := fun k hk => hk
theorem row_one (H : One w c mb t r v) (hv : Kd.R kVal 53 w 0 (fun _ => True) v xs) (hl : xs.length < 3518437208883) :
    Calls Try.prog 7 #[.pointer (some ⟨c, 0, none⟩), .int .i64 1, .int .i64 1] w fun e w' => ∃ u, e = .returned (.tuple #[u, .bool true]) ∧ Kd.R kVal 53 w' w.heap.size (fun _ => True) u xs ∧ Below w.heap.size w w' := by
  have h := row_calls (H.inst hv) 1 1 (show okI (1 : Int) from okI_small (by decide) (by decide)) (show okI (1 : Int) from okI_small (by decide) (by decide)) (fun l hl2 => by
    simp [oneI] at hl2
    subst hl2
    exact hl)
  refine h.mono ?_
  rintro e w' ⟨u, rfl, h1, h2⟩
  exact ⟨u, by simp [oneI], by simpa [oneI] using h1, h2⟩
set_option maxRecDepth 100000 in
set_option maxHeartbeats 2000000 in
theorem put_one (H : One w c mb t r v) (hv : Kd.R kVal 53 w 0 (fun _ => True) v xs) (A : Option Addr) (cc : Nat) (ys : List AVal) (hC : Kd.C kVal w A ys.length ys) (hc : ys.length ≤ cc) (hl : ys.length < 3518437208883) :
    Calls Try.prog 5 #[.pointer (some ⟨c, 0, none⟩), .int .i64 1, .int .i64 1, .slice A ys.length cc] w fun e w' => e = .returned (.tuple #[]) ∧ ∃ v', One w' c mb t r v' ∧ Kd.R kVal 53 w' 0 (fun _ => True) v' ys ∧ Chg w w' (fun k => k = t ∨ k = r) := by
  have ok1 : okI (1 : Int) := okI_small (by decide) (by decide)
  have htab := table_old (H.inst hv) (show one1 (t, r) 1 = some (t, r) from rfl) ok1
  have hrm := ((H.inst hv).tabs 1 t r rfl).2.2.2.2
  have c0 := blk_cell H.tab 0
  simp at c0
  have hcl := Aside0.mk (fun (W : World) (hB : Below w.heap.size w W) => cloneC A cc ys W (Kd.C_below hC hB) hc hl)
  have hst := Aside0.mk (fun (W : World) (hB : Below w.heap.size w W) (v : Value) => (H.rows.move (hB.block r H.lt.2.2.2)).store keyInt Try.underlying57 ok1 v)
  have htr := H.ne.2.2.1
  have htl := H.lt.2.2.1
  replace H := Aside0.mk H
  clear hv hC hc hl
  go_enter Try.func5, Try.ntmps5
  go_wp2_with fail
  refine htab.mono ?_
  clear htab
  rintro e w1 ⟨rfl, e1⟩
  subst e1
  go_upto_region 2 with (fail)
  go_region_held3 (fun W => W.cell? ⟨t, 0, none⟩ = some (.map (some r))) (go_keep) ((go_at_call 22; refine (hcl.out _ (Below.refl _ _).drew).mono ?_; rintro e w5 ⟨v', rfl, hv, hB⟩; have hB5 := ((Below.refl w1.heap.size w1).drew).trans hB; have f5 := (hB5.cell (p := ⟨t, 0, none⟩) htl).trans c0; obtain ⟨w6, hup, hm6, hc6, hs6⟩ := hst.out w5 hB5 v'; simp only [id] at hup; have f6 := hc6.cell_some (p := ⟨t, 0, none⟩) f5 htr; replace hB5 := Aside0.mk hB5; replace hm6 := Aside0.mk hm6; replace hc6 := Aside0.mk hc6; replace hv := Aside0.mk hv; clear hB))
  all_goals
    have hc : Chg w1 w6 (fun k => k = r) := (Chg.of_below hB5.out (fun _ => False)).trans hc6.out (fun _ _ h => h.elim) (fun _ _ h => h)
    have b1 := (hc.block t (blk_lt H.out.tab) htr).trans H.out.tab
    have c1 := blk_cell b1 1
    have g1 := blk_frozen b1 1
    simp at c1
    have hR6 : Aside0 (Kd.R kVal 53 w6 0 (fun _ => True) v' ys) := ⟨map_chg_R (Kd.R_lower hv.out (Nat.zero_le _)) (H.out.rows.move (hB5.out.block r H.out.lt.2.2.2)) hc6.out⟩
    have hb6 := Aside0.mk b1
    have hcc := Aside0.mk hc
    clear b1 hc hv
    go_wp2
    go_end0
    have hcs : Chg w6 (w6.setCell ⟨t, 1, none⟩ (.int .i64 (mx 1 1))) (fun k => k = t) := (Chg.refl w6 (fun k => k = t)).setCell (p := ⟨t, 1, none⟩) (.inl rfl) _
    have hb7 := blk_set hb6.out 1 (.int .i64 (mx 1 1))
    have hne := H.out.ne
    refine ⟨rfl, v', ⟨(hcs.block c (by have := hcc.out.size; have := H.out.lt.1; omega) hne.2.2.2.2).trans ((hcc.out.block c H.out.lt.1 hne.2.2.2.1).trans H.out.blk), ?_, ?_, ?_⟩, ?_, ?_⟩
    · exact (H.out.amap.chg hcc.out (Ne.symm hrm)).chg hcs (Ne.symm hne.2.1)
    · rw [hb7]; rfl
    · exact (hm6.out.chg hcs (fun e => htr e.symm)).congr (fun a => by unfold one1 upd; by_cases e : a = 1 <;> simp [e])
    · refine R_chg hR6.out hcs (fun k q cells h1 h2 hk e => ?_)
      subst e
      rw [hb6.out] at hk
      injection hk with hk
      injection hk with _ hk _
      subst hk
      revert h2
      decide
    · exact hcc.out.trans hcs (fun k _ h => .inr h) (fun k _ h => .inl h)
end
end Go.Proofs.Ytdammjolkcjogaa

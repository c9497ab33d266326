import Derived.Test.YteejeakbagbcoaaWd
/-! waits.Any. -/
namespace Go.Proofs.Yteejeakbagbcoaa
open Go.RowKit Go.Maps Go.MapKept Go.WideMaps
open Go.Proofs.YteejeakbagbcoaaW.PrintWords Go.Proofs.YteejeakbagbcoaaW.PrintLast Go.Proofs.YteejeakbagbcoaaW.PrintMore
set_option linter.unusedVariables false
set_option linter.unusedSimpArgs false

/-- Any's loop: of the keys that have come those on a circle. -/
structure AnySt (w1 W : World) (b r : Nat) (mg : Int → Option Value) (es : Edges) (v : Value) (done acc : List Int) (left : Nat) : Prop where
  iter : Iter (Value.int .i64) id okI W b r mg done left
  row : Kd.R kInt 3 W 0 (fun k => w1.heap.size ≤ k) v acc
  bel : Below w1.heap.size w1 W
  low : w1.heap.size ≤ r
  nodup : acc.Nodup
section
variable {w1 W W1 : World} {b r : Nat} {mg : Int → Option Value} {es : Edges} {v v1 : Value} {done done' acc : List Int} {left left' : Nat} {x : Int}
theorem AnySt.below (H : AnySt w1 W b r mg es v done acc left) (hB : Below W.heap.size W W1) : AnySt w1 W1 b r mg es v done acc left :=
  ⟨H.iter.move (hB.block b H.iter.lt.1) (hB.block r H.iter.lt.2), Kd.R_below H.row hB, H.bel.trans (hB.mono H.bel.size), H.low, H.nodup⟩
theorem AnySt.next (H : AnySt w1 W b r mg es v done acc left) (hit : Iter (Value.int .i64) id okI W1 b r mg done' left') (hg : W.grownBy W1 (some r)) : AnySt w1 W1 b r mg es v done' acc left' :=
  ⟨hit, R_chg H.row (Chg.of_grown hg) (fun k q cells _ _ hk e => by
    injection e with e
    subst e
    obtain ⟨o, ho', hw⟩ := H.iter.walk
    rw [hk] at ho'
    cases ho'
    cases hw), H.bel.grown hg H.bel.size (fun k e => by cases e; exact H.low), H.low, H.nodup⟩
theorem AnySt.pushed (H : AnySt w1 W b r mg es v done acc left) (hx : x ∉ acc) (ho : Kd.R kInt 3 W1 0 (fun k => w1.heap.size ≤ k) v1 (acc ++ [x])) (hg : W.grownBy W1 v.ownBlock) : AnySt w1 W1 b r mg es v1 done (acc ++ [x]) left := by
  have hcell : ∀ k, some k = v.ownBlock → ∃ cs, W.heap[k]? = some (.cells cs 3 (0, 0)) := fun k hk => (R_block H.row hk.symm).2
  have n1 : some b ≠ v.ownBlock := fun e => by
    obtain ⟨cs, hcs⟩ := hcell b e
    obtain ⟨es', cl, hb'⟩ := H.iter.mapOf.isMap
    rw [hb'] at hcs
    cases hcs
  have n2 : some r ≠ v.ownBlock := fun e => by
    obtain ⟨cs, hcs⟩ := hcell r e
    obtain ⟨o, ho', hw⟩ := H.iter.walk
    rw [ho'] at hcs
    cases hcs
    cases hw
  refine ⟨H.iter.move (hg.block b H.iter.lt.1 n1) (hg.block r H.iter.lt.2 n2), ho, H.bel.grown hg H.bel.size (fun k hk => (R_block H.row hk).1), H.low, ?_⟩
  rw [List.nodup_append]
  exact ⟨H.nodup, by simp, fun y hy z hz e => hx (by rw [List.mem_singleton.1 hz] at e; rwa [← e])⟩
end
theorem path_few2 {es : Edges} {ss : List Int} (hn : ss.Nodup) (h : ∀ x ∈ ss, Path es x x) : ss.length ≤ es.length := by
  have := nodup_subI ss (es.map (·.2)) hn (fun x hx => by
    obtain ⟨c, hc, _⟩ := (h x hx).last
    exact List.mem_map.2 ⟨(c, x), hc, rfl⟩)
  simpa using this

set_option maxRecDepth 100000 in
set_option maxHeartbeats 1000000 in
theorem any_calls (A0 : Option Addr) (c0 : Nat) (es : Edges) (w : World) (hE : Edg w A0 c0 es) :
    Calls Try.prog 13 #[.slice A0 es.length c0] w fun e w' => ∃ v l, e = .returned v ∧ IsAny es l ∧ Kd.R kInt 3 w' 0 (fun k => w.heap.size ≤ k) v l ∧ Below w.heap.size w w' := by
  have h1 := along_calls A0 c0 es w hE.read hE.ok (by have := hE.len; omega)
  have HE := Aside0.mk hE
  clear hE
  go_enter Try.func13, Try.ntmps13
  go_wp2_with fail
  refine h1.mono ?_
  clear h1
  rintro e w1 ⟨b, mg, rfl, hN, hlo, hB⟩
  have HN := Aside0.mk hN
  have HB := Aside0.mk hB
  clear hB hlo
  go_wp2_with (at_range; refine wpList_range_map rfl _ 38 rfl Try.underlying38 rfl hN.map ?_; intro ob n0 hw0 hit0)
  have hS0 : AnySt w1 (w1.alloc ob) b w1.heap.size mg es (.slice none 0 0) [] [] n0 := ⟨hit0, Kd.R_nil _ _ _ _ _, (Below.refl _ _).alloc (Nat.le_refl _) _, Nat.le_refl _, List.nodup_nil⟩
  generalize w1.heap.size = r at hS0 ⊢
  replace hS0 := Aside0.mk hS0
  clear hit0 hN hw0
  go_frame
  go_loopg [4] n0 (fun gg v4 wr => ∃ (done acc : List Int) (left : Nat), left ≤ gg ∧ Aside0 (AnySt w1 wr b r mg es v4 done acc left) ∧ Aside0 (∀ x, x ∈ acc ↔ x ∈ done ∧ Path es x x))
  case atStart => exact ⟨[], [], n0, Nat.le_refl _, hS0, ⟨by simp⟩⟩
  case round =>
    clear hS0
    obtain ⟨done, acc, left, hle, HS, HMem⟩ := hrel
    obtain ⟨va, vc, e4⟩ := Kd.R_slice HS.out.row
    subst e4
    have hit := HS.out.iter
    go_wp2_with (at_next; refine wpList_next_iter rfl _ rfl rfl hit keyInt.inj ?_ ?_)
    · intro hall
      have hfew : acc.length ≤ es.length := path_few2 HS.out.nodup (fun x hx => ((HMem.out x).1 hx).2)
      have hsort := sortInt_calls (.slice va acc.length vc) acc 0 _ wr HS.out.row (by have := HE.out.len; omega)
      have HX := Aside0.mk (show IsAny es (srt acc) from ⟨srt_rise HS.out.nodup, fun x => by
        rw [(srt_perm acc).mem_iff, HMem.out]
        constructor
        · exact fun h => h.2
        · intro h
          refine ⟨(hall x).2 ?_, h⟩
          obtain ⟨c, hc⟩ := h.head
          cases hm : mg x with
          | none =>
            have := HN.out.rown x hm
            rw [← mem_outs, this] at hc
            cases hc
          | some v => exact ⟨v, rfl⟩⟩)
      clear hall hit
      go_wp2_with fail
      refine hsort.mono ?_
      clear hsort
      rintro e w9 ⟨rfl, hR9, hg9⟩
      have hB9 := HS.out.bel.grown hg9 HS.out.bel.size (fun k hk => (R_block HS.out.row hk).1)
      have HB9 := Aside0.mk (HB.out.trans (hB9.mono HB.out.size))
      have HR9 := Aside0.mk (Kd.R_mono hR9 (fun k hk => Nat.le_trans HB.out.size hk))
      clear hR9 hg9 hB9
      go_wp2
      go_ret
      exact ⟨_, _, rfl, HX.out, HR9.out, HB9.out⟩
    · intro x v w2 left2 hlt hg hox hnx hit2 hen hg2 hs2
      have hS2 := HS.out.next hit2 hg2
      have hxa : x ∉ acc := fun h => hnx ((HMem.out x).1 h).1
      have h3 := met_calls es b mg _ x w2 (HN.out.below hS2.bel) HE.out.ok hox HE.out.len
      replace hS2 := Aside0.mk hS2
      replace hxa := Aside0.mk hxa
      replace hox := Aside0.mk hox
      try simp only [id] at hen
      clear hit hit2 hg2 hs2 hnx hg
      go_wp2_with fail
      refine h3.mono ?_
      clear h3 hen
      rintro e w3 ⟨bo, g, rfl, hm, hp, hpos, hlo2, hB2⟩
      have HS3 := Aside0.mk (hS2.out.below hB2)
      have hlk := gmapI_look hm hox.out
      cases hgx : g x with
      | none =>
        rw [hgx] at hlk
        simp only [Option.getD_none] at hlk
        have HM3 := Aside0.mk (show ∀ y, y ∈ acc ↔ y ∈ done ++ [x] ∧ Path es y y from fun y => by
          rw [HMem.out, List.mem_append, List.mem_singleton]
          constructor
          · exact fun h => ⟨.inl h.1, h.2⟩
          · rintro ⟨h1 | rfl, h2⟩
            · exact ⟨h1, h2⟩
            · obtain ⟨v', hv'⟩ := (hp y).2 h2
              rw [hgx] at hv'
              cases hv')
        clear hm hp hpos hB2 hgx
        go_wp2
        go_roundg left2
        case measure => omega
        case rel => exact ⟨done ++ [x], acc, left2, Nat.le_refl _, HS3, HM3⟩
      | some c =>
        rw [hgx] at hlk
        simp only [Option.getD_some] at hlk
        have hpx := (hp x).1 ⟨c, hgx⟩
        have hc1 := hpos x c hgx
        have hc2 : decide (0 < c) = true := decide_eq_true (by omega)
        have hc3 : 0 < c := by omega
        have HM3 := Aside0.mk (show ∀ y, y ∈ acc ++ [x] ↔ y ∈ done ++ [x] ∧ Path es y y from fun y => by
          rw [List.mem_append, List.mem_append, List.mem_singleton, HMem.out]
          constructor
          · rintro (⟨h1, h2⟩ | rfl)
            · exact ⟨.inl h1, h2⟩
            · exact ⟨.inr rfl, hpx⟩
          · rintro ⟨h1 | h1, h2⟩
            · exact .inl ⟨h1, h2⟩
            · exact .inr h1)
        have hfew : acc.length ≤ es.length := path_few2 HS3.out.nodup (fun x hx => ((HMem.out x).1 hx).2)
        have hlen8 : (acc.length + 1) * 8 ≤ 140737488355328 := by have := HE.out.len; omega
        have hsz := HS3.out.bel.size
        clear hm hp hpos hB2 hgx hpx hfew
        go_wp2_with (at_builtin; go_loud (refine Kd.R_append kInt (w0 := w3) 0 rfl (.tmp 20) (.tmp 22) 26 3 (.int .i64 0) 8 rfl Try.underlying26 Try.infoInt rfl (by decide) (by omega) (.slice va acc.length vc) acc x [.int .i64 x] (fun k => w1.heap.size ≤ k) (fun _ => False) rfl rfl rfl (fun _ h => h.elim) (fun k hk => Nat.le_trans hsz hk) HS3.out.row (Below.refl 0 w3) (Nat.zero_le _) hlen8 ?_); intro v1 w5 ho hb hg hat)
        have HS5 := Aside0.mk (HS3.out.pushed hxa.out ho hg)
        clear ho hb hg hat
        go_wp2
        go_roundg left2
        case measure => omega
        case rel => exact ⟨done ++ [x], acc ++ [x], left2, Nat.le_refl _, HS5, HM3⟩
end Go.Proofs.Yteejeakbagbcoaa

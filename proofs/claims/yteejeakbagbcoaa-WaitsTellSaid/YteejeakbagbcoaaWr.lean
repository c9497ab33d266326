import Derived.Test.YteejeakbagbcoaaWw
/-! WaitsRows, walked. -/
namespace Go.Proofs.Yteejeakbagbcoaa
open Go.RowKit Go.Maps Go.MapKept Go.WideMaps
open Go.Proofs.YteejeakbagbcoaaW.PrintWords Go.Proofs.YteejeakbagbcoaaW.PrintLast Go.Proofs.YteejeakbagbcoaaW.PrintMore
set_option linter.unusedVariables false
set_option linter.unusedSimpArgs false

/-- What is told of waits hangs on which waits there are alone. -/
theorem reach_same {es es' : Edges} {a : Int} {l l' : List Int} (h : IsReach es a l) (h' : IsReach es' a l') (hs : ∀ e, e ∈ es ↔ e ∈ es') : l = l' :=
  rise_ext h.1 h'.1 (fun x => by rw [h.2, h'.2, path_same hs])
theorem circle_same {es es' : Edges} {a : Int} {l l' : List Int} (h : IsCircle es a l) (h' : IsCircle es' a l') (hs : ∀ e, e ∈ es ↔ e ∈ es') : l = l' :=
  rise_ext h.1 h'.1 (fun x => by rw [h.2, h'.2, path_same hs, path_same hs])
theorem any_same {es es' : Edges} {l l' : List Int} (h : IsAny es l) (h' : IsAny es' l') (hs : ∀ e, e ∈ es ↔ e ∈ es') : l = l' :=
  rise_ext h.1 h'.1 (fun x => by rw [h.2, h'.2, path_same hs])
theorem short_circle {es : Edges} {a : Int} {l : List Int} (h : IsCircle es a l) : l.length ≤ es.length :=
  path_few (a := a) l (h.1.imp (fun h => by omega)) (fun x hx => ((h.2 x).1 hx).1)
theorem short_reach {es : Edges} {a : Int} {l : List Int} (h : IsReach es a l) : l.length ≤ es.length :=
  path_few (a := a) l (h.1.imp (fun h => by omega)) (fun x hx => (h.2 x).1 hx)
theorem short_any {es : Edges} {l : List Int} (h : IsAny es l) : l.length ≤ es.length :=
  path_few2 (h.1.imp (fun h => by omega)) (fun x hx => (h.2 x).1 hx)

set_option maxRecDepth 100000 in
set_option maxHeartbeats 4000000 in
theorem rows_law (A0 : Option Addr) (c0 : Nat) (es : Edges) (a : Int) (w : World) (hr : Kd.C kEdge w A0 es.length es) (hc : es.length ≤ c0) (hok : ∀ e ∈ es, okI e.1 ∧ okI e.2) (ha : okI a) (hl : es.length < 4611686018427387904) :
    Calls Try.prog 9 #[.slice A0 es.length c0, .int .i64 a] w fun e w' => e = .returned (.bool true) ∧ Below w.heap.size w w' := by
  have HR := Aside0.mk hr
  have HC := Aside0.mk hc
  have HOK := Aside0.mk hok
  have HA := Aside0.mk ha
  clear hr hc hok ha
  go_enter Try.func9, Try.ntmps9
  go_wp2_with fail
  refine (works_calls w).mono ?_
  rintro e w1 ⟨rfl, hB⟩
  have HB1 := Aside0.mk hB
  clear hB
  by_cases hbig : 200 < es.length
  · have d1 : decide ((200 : Int) < (es.length : Int)) = true := decide_eq_true (by omega)
    have d2 : (200 : Int) < (es.length : Int) := by omega
    go_wp2_with fail
    refine (works_calls w1).mono ?_
    rintro e w2 ⟨rfl, hB⟩
    have HB2 := Aside0.mk (HB1.out.trans (hB.mono HB1.out.size))
    clear hB
    go_wp2
    go_ret
    exact ⟨rfl, HB2.out⟩
  · have d1 : decide ((200 : Int) < (es.length : Int)) = false := decide_eq_false (by omega)
    have d2 : ¬ (200 : Int) < (es.length : Int) := by omega
    have HE : ∀ W, Below w.heap.size w W → Edg W A0 c0 es := fun W hB => ⟨Kd.C_below HR.out hB, HC.out, HOK.out, by omega⟩
    replace HE := Aside0.mk HE
    go_wp2
    go_loopw [5, 6] (fun v5 v6 wr => ∃ (k : Nat) (q : Int), k ≤ es.length ∧ v6 = .int .i64 q ∧ Aside0 (q = (k : Int) - 1) ∧ -1 ≤ q ∧ q ≤ 200 ∧ Aside0 (Kd.R kEdge 22 wr w.heap.size (fun _ => True) v5 (es.drop k).reverse) ∧ Aside0 (Below w.heap.size w wr)) (fun _ v6 _ => (intOf v6 + 1).toNat)
    case atStart => exact ⟨es.length, (es.length : Int) - 1, Nat.le_refl _, by go_num, ⟨rfl⟩, by omega, by omega, ⟨by rw [List.drop_length]; exact Kd.R_nil _ _ _ _ _⟩, HB1⟩
    case round =>
      obtain ⟨k, q, hk, rfl, HQ, hq1, hq2, HO, HB⟩ := hrel
      obtain ⟨va, vc, e5⟩ := Kd.R_slice HO.out
      subst e5
      by_cases hq0 : 0 ≤ q
      · have b1 : decide (0 ≤ q) = true := decide_eq_true hq0
        have hqk := HQ.out
        have hkl : q.toNat < es.length := by omega
        have p1 : q < (es.length : Int) := by omega
        obtain ⟨ad, e1, y0, y1⟩ := edge_cells (Kd.C_below HR.out HB.out) hkl
        subst e1
        have htk : (es.drop (k - 1)).reverse = (es.drop k).reverse ++ [(es[q.toNat].1, es[q.toNat].2)] := by
          have e1 : q.toNat = k - 1 := by omega
          have e2 : es.drop (k - 1) = es[q.toNat] :: es.drop k := by
            rw [List.drop_eq_getElem_cons (by omega : k - 1 < es.length)]
            have : k - 1 + 1 = k := by omega
            rw [this]
            simp only [e1]
          rw [e2, List.reverse_cons]
        have hln : (es.drop k).reverse.length ≤ 200 := by rw [List.length_reverse, List.length_drop]; omega
        have hkq : q - 1 = ((k - 1 : Nat) : Int) - 1 := by omega
        generalize es[q.toNat].1 = x at y0 htk
        generalize es[q.toNat].2 = y at y1 htk
        have HTK := Aside0.mk htk
        replace hkq := Aside0.mk hkq
        have hsz := HB.out.size
        clear htk hqk
        go_wp2_with (at_builtin; go_loud (refine Kd.R_append kEdge (w0 := w) w.heap.size rfl (.tmp 22) (.tmp 27) 23 22 (.agg #[.int .i64 0, .int .i64 0]) 16 rfl Try.underlying23 Try.infoEdge rfl (by decide) (by omega) (.slice va (es.drop k).reverse.length vc) (es.drop k).reverse (x, y) [.int .i64 x, .int .i64 y] (fun _ => True) (fun _ => False) rfl rfl (kEdge_mkM _ _ _ _) (fun _ h => h.elim) (fun _ _ => trivial) HO.out HB.out hsz (by omega) ?_); intro v1 w5 ho hb hg hat)
        have HO5 := Aside0.mk (HTK.out ▸ ho)
        have HB5 := Aside0.mk hb
        clear ho hb hg hat
        go_wp2
        go_roundw
        case measure => simp [intOf]; omega
        case rel => exact ⟨k - 1, q - 1, by omega, by go_num, hkq, by omega, by omega, HO5, HB5⟩
      · have b1 : decide (0 ≤ q) = false := decide_eq_false hq0
        have hk0 : k = 0 := by have := HQ.out; omega
        subst hk0
        have hO := HO.out
        rw [List.drop_zero] at hO
        have hsz := HB.out.size
        have hll : (es.reverse.length + es.length) * 16 ≤ 140737488355328 := by rw [List.length_reverse]; omega
        have HO2 := Aside0.mk hO
        have hCw := Aside0.mk (Kd.C_below HR.out HB.out)
        clear HQ hq1 hO
        go_wp2_with (at_builtin; go_loud (refine Kd.R_append_rows kEdge (w0 := w) w.heap.size rfl (.tmp 29) (.tmp 30) 23 22 (.agg #[.int .i64 0, .int .i64 0]) 16 rfl Try.underlying23 Try.infoEdge rfl (by decide) (by omega) (.slice va es.reverse.length vc) es.reverse es A0 es.length c0 (fun _ => True) (fun _ => False) rfl rfl HO2.out hCw.out (fun x cs hx => by obtain rfl := kEdge_openK hx; exact kEdge_mkM _ _ _ _) (fun _ h => h.elim) (fun _ _ => trivial) HB.out hsz hll ?_); intro v1 w5 ho hb hg hat; obtain ⟨vba, vbc, e6, hbc, hbr⟩ := Kd.R_reads ho; subst e6; replace ho := Aside0.mk ho; replace hb := Aside0.mk hb; replace hbr := Aside0.mk hbr; replace hbc := Aside0.mk hbc)
        have hbl : (es.reverse ++ es).length = es.length + es.length := by simp
        have hmem : ∀ e, e ∈ es.reverse ++ es ↔ e ∈ es := fun e => by simp
        have HE2 : ∀ W, Below w5.heap.size w5 W → Edg W vba vbc (es.reverse ++ es) := fun W hB => ⟨Kd.C_below hbr.out hB, hbc.out, fun e he => HOK.out e ((hmem e).1 he), by rw [hbl]; omega⟩
        replace HE2 := Aside0.mk HE2
        have HM := Aside0.mk hmem
        have HBL := Aside0.mk hbl
        have HB5 := Aside0.mk (Below.refl w5.heap.size w5)
        clear hmem hbl ho hbr hbc HO2 hCw hg hat
        have n := circle_calls vba vbc (es.reverse ++ es) a w5 (HE2.out w5 HB5.out) HA.out
        rw [HBL.out] at n
        go_wp2_with fail
        refine n.mono ?_
        clear n
        rintro e w6a ⟨v1, l1, rfl, hC1, hR1, hB1⟩
        have hB6a := HB5.out.trans (hB1.mono HB5.out.size)
        obtain ⟨a1, c1, rfl, _, hr1⟩ := Kd.R_reads hR1
        have n := circle_calls A0 c0 es a w6a (HE.out w6a (hb.out.trans (hB6a.mono hb.out.size))) HA.out
        have hs1 := short_circle hC1
        rw [HBL.out] at hs1
        replace hC1 := Aside0.mk hC1
        replace hr1 := Aside0.mk hr1
        have HBa := Aside0.mk hB6a
        clear hR1 hB1 hB6a
        go_wp2_with fail
        refine n.mono ?_
        clear n
        rintro e w6b ⟨v2, l2, rfl, hC2, hR2, hB2⟩
        obtain rfl := circle_same hC1.out hC2 HM.out
        obtain ⟨a2, c2, rfl, _, hr2⟩ := Kd.R_reads hR2
        have n := is_same a1 a2 c1 c2 l1 w6b (Kd.C_below hr1.out hB2) hr2 (by omega)
        have HBb := Aside0.mk (HBa.out.trans (hB2.mono HBa.out.size))
        clear hC1 hC2 hR2 hB2 hr1 hr2 HBa hs1
        go_wp2_with fail
        refine n.mono ?_
        clear n
        rintro e w6 ⟨rfl, hB3⟩
        have HB6 := Aside0.mk (HBb.out.trans (hB3.mono HBb.out.size))
        clear hB3 HBb
        have n := reach_calls vba vbc (es.reverse ++ es) a w6 (HE2.out w6 HB6.out) HA.out
        rw [HBL.out] at n
        go_wp2_with fail
        refine n.mono ?_
        clear n
        rintro e w7a ⟨v1, l1, rfl, hC1, hR1, hB1⟩
        have hB7a := HB6.out.trans (hB1.mono HB6.out.size)
        obtain ⟨a1, c1, rfl, _, hr1⟩ := Kd.R_reads hR1
        have n := reach_calls A0 c0 es a w7a (HE.out w7a (hb.out.trans (hB7a.mono hb.out.size))) HA.out
        have hs1 := short_reach hC1
        rw [HBL.out] at hs1
        replace hC1 := Aside0.mk hC1
        replace hr1 := Aside0.mk hr1
        have HBa := Aside0.mk hB7a
        clear hR1 hB1 hB7a
        go_wp2_with fail
        refine n.mono ?_
        clear n
        rintro e w7b ⟨v2, l2, rfl, hC2, hR2, hB2⟩
        obtain rfl := reach_same hC1.out hC2 HM.out
        obtain ⟨a2, c2, rfl, _, hr2⟩ := Kd.R_reads hR2
        have n := is_same a1 a2 c1 c2 l1 w7b (Kd.C_below hr1.out hB2) hr2 (by omega)
        have HBb := Aside0.mk (HBa.out.trans (hB2.mono HBa.out.size))
        clear hC1 hC2 hR2 hB2 hr1 hr2 HBa hs1
        go_wp2_with fail
        refine n.mono ?_
        clear n
        rintro e w7 ⟨rfl, hB3⟩
        have HB7 := Aside0.mk (HBb.out.trans (hB3.mono HBb.out.size))
        clear hB3 HBb
        have n := any_calls vba vbc (es.reverse ++ es) w7 (HE2.out w7 HB7.out)
        rw [HBL.out] at n
        go_wp2_with fail
        refine n.mono ?_
        clear n
        rintro e w8a ⟨v1, l1, rfl, hC1, hR1, hB1⟩
        have hB8a := HB7.out.trans (hB1.mono HB7.out.size)
        obtain ⟨a1, c1, rfl, _, hr1⟩ := Kd.R_reads hR1
        have n := any_calls A0 c0 es w8a (HE.out w8a (hb.out.trans (hB8a.mono hb.out.size)))
        have hs1 := short_any hC1
        rw [HBL.out] at hs1
        replace hC1 := Aside0.mk hC1
        replace hr1 := Aside0.mk hr1
        have HBa := Aside0.mk hB8a
        clear hR1 hB1 hB8a
        go_wp2_with fail
        refine n.mono ?_
        clear n
        rintro e w8b ⟨v2, l2, rfl, hC2, hR2, hB2⟩
        obtain rfl := any_same hC1.out hC2 HM.out
        obtain ⟨a2, c2, rfl, _, hr2⟩ := Kd.R_reads hR2
        have n := is_same a1 a2 c1 c2 l1 w8b (Kd.C_below hr1.out hB2) hr2 (by omega)
        have HBb := Aside0.mk (HBa.out.trans (hB2.mono HBa.out.size))
        clear hC1 hC2 hR2 hB2 hr1 hr2 HBa hs1
        go_wp2_with fail
        refine n.mono ?_
        clear n
        rintro e w8 ⟨rfl, hB3⟩
        have HB8 := Aside0.mk (HBb.out.trans (hB3.mono HBb.out.size))
        clear hB3 HBb
        go_wp2
        go_ret
        exact ⟨rfl, hb.out.trans (HB8.out.mono hb.out.size)⟩
end Go.Proofs.Yteejeakbagbcoaa

import Derived.Test.YteejeakbagbcoaaWr
/-! WaitsLess, walked. -/
namespace Go.Proofs.Yteejeakbagbcoaa
open Go.RowKit Go.Maps Go.MapKept Go.WideMaps
open Go.Proofs.YteejeakbagbcoaaW.PrintWords Go.Proofs.YteejeakbagbcoaaW.PrintLast Go.Proofs.YteejeakbagbcoaaW.PrintMore
set_option linter.unusedVariables false
set_option linter.unusedSimpArgs false

theorem R_empty {α : Type} (d : Kd α) (e : Nat) (W : World) (base : Nat) (hb : base ≤ W.heap.size) (ok : Nat → Prop) (ho : ok W.heap.size) : d.R e (W.alloc (.cells #[] e)) base ok (.slice (some ⟨W.heap.size, 0, none⟩) 0 0) [] :=
  ⟨fun k hk => by
    have : W.heap.size = k := by simpa [Value.ownBlock] using hk
    rw [← this]; exact ho, [], by simpa using World.ownsRow_lit (base := base) (e := e) (size := d.sz) W #[] 0 hb (by simp [maxLen]) (by simp), Reps.none _ _⟩

/-- Without the waits of one. -/
def lessOf (a : Int) (es : Edges) : Edges := es.filter fun e => !(e.1 == a)
theorem less_hit (a : Int) (es : Edges) {x y : Int} (h : x ≠ a) : lessOf a (es ++ [(x, y)]) = lessOf a es ++ [(x, y)] := by
  have : (x == a) = false := beq_eq_false_iff_ne.2 h
  simp [lessOf, List.filter_append, this]
theorem less_miss (a : Int) (es : Edges) {y : Int} : lessOf a (es ++ [(a, y)]) = lessOf a es := by simp [lessOf, List.filter_append]
theorem less_sub {a : Int} {es : Edges} : ∀ e ∈ lessOf a es, e ∈ es := fun e he => (List.mem_filter.1 he).1
theorem less_len (a : Int) (es : Edges) : (lessOf a es).length ≤ es.length := List.length_filter_le _ _
theorem less_none {a x : Int} {es : Edges} (h : Path (lessOf a es) a x) : False := by
  obtain ⟨c, hc⟩ := h.head
  have := (List.mem_filter.1 hc).2
  simp at this
theorem circle_less {a : Int} {es : Edges} {l : List Int} (h : IsCircle (lessOf a es) a l) : l = [] := by
  cases l with
  | nil => rfl
  | cons x l => exact (less_none ((h.2 x).1 (List.mem_cons_self)).1).elim
theorem any_less {a : Int} {es : Edges} {l : List Int} (h : IsAny (lessOf a es) l) : a ∉ l := fun ha => less_none ((h.2 a).1 ha)
theorem any_mono {es es' : Edges} {l l' : List Int} (h : IsAny es l) (h' : IsAny es' l') (hs : ∀ e ∈ es, e ∈ es') : ∀ x ∈ l, x ∈ l' := fun x hx => (h'.2 x).2 (((h.2 x).1 hx).mono hs)
theorem circle_mono {es es' : Edges} {a : Int} {l l' : List Int} (h : IsCircle es a l) (h' : IsCircle es' a l') (hs : ∀ e ∈ es, e ∈ es') : ∀ x ∈ l, x ∈ l' := fun x hx =>
  (h'.2 x).2 ⟨((h.2 x).1 hx).1.mono hs, ((h.2 x).1 hx).2.mono hs⟩

set_option maxRecDepth 100000 in
set_option maxHeartbeats 4000000 in
theorem less_law (A0 A1 : Option Addr) (c0 c1 : Nat) (es more : Edges) (a : Int) (w : World) (hr : Kd.C kEdge w A0 es.length es) (hc : es.length ≤ c0) (hok : ∀ e ∈ es, okI e.1 ∧ okI e.2) (hr1 : Kd.C kEdge w A1 more.length more) (hc1 : more.length ≤ c1) (hok1 : ∀ e ∈ more, okI e.1 ∧ okI e.2) (ha : okI a)
    (hl : es.length < 4611686018427387904) (hl1 : more.length < 4611686018427387904) :
    Calls Try.prog 7 #[.slice A0 es.length c0, .slice A1 more.length c1, .int .i64 a] w fun e w' => e = .returned (.bool true) ∧ Below w.heap.size w w' := by
  have HR := Aside0.mk hr
  have HC := Aside0.mk hc
  have HOK := Aside0.mk hok
  have HR1 := Aside0.mk hr1
  have HOK1 := Aside0.mk hok1
  have HA := Aside0.mk ha
  clear hr hc hok ha hr1 hc1 hok1
  go_enter Try.func7, Try.ntmps7
  go_wp2_with fail
  refine (works_calls w).mono ?_
  rintro e w1 ⟨rfl, hB⟩
  have HB1 := Aside0.mk hB
  clear hB
  by_cases hbig : 60 < es.length ∨ 60 < more.length
  · have hd : (decide ((60 : Int) < (es.length : Int)) = true ∧ (60 : Int) < (es.length : Int)) ∨ (decide ((60 : Int) < (es.length : Int)) = false ∧ ¬ (60 : Int) < (es.length : Int) ∧ decide ((60 : Int) < (more.length : Int)) = true ∧ (60 : Int) < (more.length : Int)) := by
      by_cases h1 : 60 < es.length
      · exact .inl ⟨decide_eq_true (by omega), by omega⟩
      · exact .inr ⟨decide_eq_false (by omega), by omega, decide_eq_true (by omega), by omega⟩
    clear hbig
    rcases hd with ⟨d1, d2⟩ | ⟨d1, d2, d3, d4⟩
    all_goals
      go_wp2_with fail
      refine (works_calls w1).mono ?_
      rintro e w2 ⟨rfl, hB⟩
      have HB2 := Aside0.mk (HB1.out.trans (hB.mono HB1.out.size))
      clear hB
      go_wp2
      go_ret
      exact ⟨rfl, HB2.out⟩
  · have d1 : decide ((60 : Int) < (es.length : Int)) = false := decide_eq_false (by omega)
    have d2 : ¬ (60 : Int) < (es.length : Int) := by omega
    have d3 : decide ((60 : Int) < (more.length : Int)) = false := decide_eq_false (by omega)
    have d4 : ¬ (60 : Int) < (more.length : Int) := by omega
    have hn1 : es.length ≤ 60 := by omega
    have hn2 : more.length ≤ 60 := by omega
    have HE : ∀ W, Below w.heap.size w W → Edg W A0 c0 es := fun W hB => ⟨Kd.C_below HR.out hB, HC.out, HOK.out, by omega⟩
    replace HE := Aside0.mk HE
    clear hbig
    go_wp2
    go_loopw [7, 8] (fun v7 v8 wr => ∃ (k : Nat), k ≤ es.length ∧ v8 = .int .i64 k ∧ Aside0 (Kd.R kEdge 22 wr w.heap.size (fun _ => True) v7 (lessOf a (es.take k))) ∧ Aside0 (Below w.heap.size w wr)) (fun _ v8 _ => es.length - (intOf v8).toNat)
    case atStart => exact ⟨0, Nat.zero_le _, rfl, ⟨Kd.R_nil _ _ _ _ _⟩, HB1⟩
    case round =>
      obtain ⟨k, hk, rfl, HO, HB⟩ := hrel
      obtain ⟨va, vc, e5⟩ := Kd.R_slice HO.out
      subst e5
      by_cases hlt : k < es.length
      · have b1 : decide ((k : Int) < (es.length : Int)) = true := decide_eq_true (by omega)
        have p0 : (0 : Int) ≤ (k : Int) := by omega
        have p1 : (k : Int) < (es.length : Int) := by omega
        have p2 : (k : Int) ≤ 60 := by omega
        obtain ⟨ad, e1, x0, x1⟩ := edge_cells (Kd.C_below HR.out HB.out) hlt
        subst e1
        have htk : es.take (k + 1) = es.take k ++ [(es[k].1, es[k].2)] := by rw [List.take_add_one, List.getElem?_eq_getElem hlt]; rfl
        have hln : (lessOf a (es.take k)).length ≤ 60 := by have := less_len a (es.take k); rw [List.length_take] at this; omega
        generalize es[k].1 = x at x0 htk
        generalize es[k].2 = y at x1 htk
        have hsz := HB.out.size
        by_cases hxa : x = a
        · subst hxa
          have HO2 := Aside0.mk (show Kd.R kEdge 22 wr w.heap.size (fun _ => True) (.slice va (lessOf x (es.take k)).length vc) (lessOf x (es.take (k + 1))) from by rw [htk, less_miss]; exact HO.out)
          clear htk
          go_wp2
          go_roundw
          case measure => simp [intOf]; omega
          case rel => exact ⟨k + 1, by omega, by go_num, HO2, HB⟩
        · have HTK := Aside0.mk (show lessOf a (es.take (k + 1)) = lessOf a (es.take k) ++ [(x, y)] from by rw [htk, less_hit a _ hxa])
          clear htk
          go_wp2_with (at_builtin; go_loud (refine Kd.R_append kEdge (w0 := w) w.heap.size rfl (.tmp 42) (.tmp 47) 23 22 (.agg #[.int .i64 0, .int .i64 0]) 16 rfl Try.underlying23 Try.infoEdge rfl (by decide) (by omega) (.slice va (lessOf a (es.take k)).length vc) (lessOf a (es.take k)) (x, y) [.int .i64 x, .int .i64 y] (fun _ => True) (fun _ => False) rfl rfl (kEdge_mkM _ _ _ _) (fun _ h => h.elim) (fun _ _ => trivial) HO.out HB.out hsz (by omega) ?_); intro v1 w5 ho hb hg hat)
          have HO5 := Aside0.mk (HTK.out ▸ ho)
          have HB5 := Aside0.mk hb
          clear ho hb hg hat
          go_wp2
          go_roundw
          case measure => simp [intOf]; omega
          case rel => exact ⟨k + 1, by omega, by go_num, HO5, HB5⟩
      · have b1 : decide ((k : Int) < (es.length : Int)) = false := decide_eq_false (by omega)
        obtain rfl : k = es.length := by omega
        have hO := HO.out
        rw [List.take_length] at hO
        rw [List.take_length]
        obtain ⟨va', vc', e6, hvc, hvr⟩ := Kd.R_reads hO
        obtain ⟨rfl, rfl⟩ : va = va' ∧ vc = vc' := by
          injection e6 with h1 _ h3
          exact ⟨h1, h3⟩
        have HVR := Aside0.mk hvr
        have HVC := Aside0.mk hvc
        have hll := less_len a es
        have HEL : ∀ W, Below wr.heap.size wr W → Edg W va vc (lessOf a es) := fun W hB => ⟨Kd.C_below HVR.out hB, HVC.out, fun e he => HOK.out e (less_sub e he), by omega⟩
        replace HEL := Aside0.mk HEL
        clear hO hvr hvc e6 HO
        have n := any_calls A0 c0 es wr (HE.out wr HB.out)
        go_wp2_with fail
        refine n.mono ?_
        clear n
        rintro e w2 ⟨v2, was, rfl, hWas, hR2, hB2⟩
        obtain ⟨a2, c2, rfl, _, hr2⟩ := Kd.R_reads hR2
        have hwl := short_any hWas
        have n := any_calls va vc (lessOf a es) w2 (HEL.out w2 hB2)
        have HB2 := Aside0.mk hB2
        have HWas := Aside0.mk hWas
        have hr2 := Aside0.mk hr2
        clear hWas hR2 hB2
        go_wp2_with fail
        refine n.mono ?_
        clear n
        rintro e w3 ⟨v3, now, rfl, hNow, hR3, hB3⟩
        obtain ⟨a3, c3, rfl, _, hr3⟩ := Kd.R_reads hR3
        have hnl := short_any hNow
        have HB3 := Aside0.mk (HB2.out.trans (hB3.mono HB2.out.size))
        have HNow := Aside0.mk hNow
        have hr3 := Aside0.mk hr3
        have hr2 := Aside0.mk (Kd.C_below hr2.out hB3)
        clear hNow hR3 hB3
        have hR0 := R_empty kEdge 22 w3 w3.heap.size (Nat.le_refl _) (fun _ => True) trivial
        have hB4 : Below w3.heap.size w3 (w3.alloc (.cells #[] 22)) := (Below.refl _ _).alloc (Nat.le_refl _) _
        have hCa := Kd.C_below HR.out ((HB.out.trans (HB3.out.mono HB.out.size)).trans (hB4.mono (Nat.le_trans HB.out.size HB3.out.size)))
        have hBw3 := HB.out.trans (HB3.out.mono HB.out.size)
        have hkM : ∀ (W : World) (base : Nat) (ok : Nat → Prop) (x : Int × Int) (cs : List Value), kEdge.K W x cs → kEdge.M W base ok x cs := fun W base ok x cs hx => by
          obtain rfl := kEdge_openK hx
          exact kEdge_mkM _ _ _ _
        have hBw4 := hBw3.trans (hB4.mono hBw3.size)
        have HBW4 := Aside0.mk hBw4
        have HB3' := Aside0.mk hB4
        have hsw3 := Aside0.mk (And.intro (show w.heap.size ≤ w3.heap.size from hBw3.size) HB3.out.size)
        clear hBw3 hBw4
        go_upto_region 11 with (fail)
        go_wp2_with (first
          | (at_builtin; go_loud (refine Kd.R_append_rows kEdge (w0 := w3.alloc (.cells #[] 22)) w3.heap.size rfl (.tmp 53) (.tmp 54) 23 22 (.agg #[.int .i64 0, .int .i64 0]) 16 rfl Try.underlying23 Try.infoEdge rfl (by decide) (by omega) (.slice (some ⟨w3.heap.size, 0, none⟩) 0 0) [] es A0 es.length c0 (fun _ => True) (fun _ => False) rfl rfl hR0 hCa (fun x cs hx => hkM _ _ _ x cs hx) (fun _ h => h.elim) (fun _ _ => trivial) (Below.refl _ _) (by simp) (by simp only [List.length_nil]; omega) ?_); intro v5 w5 ho hb hg hat; go_loud (simp only [List.nil_append] at ho); obtain ⟨b5, c5, e5⟩ := Kd.R_slice ho; subst e5; go_loud (have HBW5 := Aside0.mk (HBW4.out.trans (hb.mono hsw3.out.1))); have HB5 := Aside0.mk (HB3'.out.trans hb); go_loud (have hCm := Kd.C_below HR1.out HBW5.out); go_loud (have hs5 : w3.heap.size ≤ w5.heap.size := by have := hb.size; simp at this; omega); have HO5 := Aside0.mk ho; go_loud (clear hb hg hat hR0 hCa ho))
          | (at_builtin; go_loud (refine Kd.R_append_rows kEdge (w0 := w5) w3.heap.size rfl (.tmp 55) (.tmp 56) 23 22 (.agg #[.int .i64 0, .int .i64 0]) 16 rfl Try.underlying23 Try.infoEdge rfl (by decide) (by omega) (.slice b5 es.length c5) es more A1 more.length c1 (fun _ => True) (fun _ => False) rfl rfl HO5.out hCm (fun x cs hx => hkM _ _ _ x cs hx) (fun _ h => h.elim) (fun _ _ => trivial) (Below.refl _ _) hs5 (by omega) ?_); intro v6 w6 ho hb hg hat; have HBW6 := Aside0.mk (HBW5.out.trans (hb.mono hsw3.out.1)); have HB6 := Aside0.mk (HB5.out.trans hb); obtain ⟨b6, c6, e6, hbc6, hbr6⟩ := Kd.R_reads ho; subst e6; replace hbr6 := Aside0.mk hbr6; replace hbc6 := Aside0.mk hbc6))
        have hbl : (es ++ more).length = es.length + more.length := List.length_append
        have HE2 : Edg w6 b6 c6 (es ++ more) := ⟨hbr6.out, hbc6.out, fun e he => by
          rcases List.mem_append.1 he with he | he
          · exact HOK.out e he
          · exact HOK1.out e he, by rw [hbl]; omega⟩
        have n := circle_calls b6 c6 (es ++ more) a w6 HE2 HA.out
        rw [hbl] at n
        have hr2 := Aside0.mk (Kd.C_below hr2.out HB6.out)
        have hr3 := Aside0.mk (Kd.C_below hr3.out HB6.out)
        have HVR2 := Aside0.mk (Kd.C_below HVR.out (HB3.out.trans (HB6.out.mono hsw3.out.2)))
        have HBL := Aside0.mk hbl
        clear hbl HE2 ho hb hg hat hkM hB4 HB5 HB3' HO5 hCm
        go_wp2_with fail
        refine n.mono ?_
        clear n
        rintro e w7 ⟨v7, all, rfl, hAll, hR7, hB7⟩
        obtain ⟨a7, c7, rfl, _, hr7⟩ := Kd.R_reads hR7
        have hal := short_circle hAll
        rw [HBL.out] at hal
        have n := circle_calls A0 c0 es a w7 (HE.out w7 (HBW6.out.trans (hB7.mono HBW6.out.size))) HA.out
        have hr7 := Aside0.mk hr7
        have HAll := Aside0.mk hAll
        have HB7 := Aside0.mk hB7
        clear hAll hR7 hB7
        go_wp2_with fail
        refine n.mono ?_
        clear n
        rintro e w8 ⟨v8, l, rfl, hL, hR8, hB8⟩
        obtain ⟨a8, c8, rfl, _, hr8⟩ := Kd.R_reads hR8
        have hll8 := short_circle hL
        have C8 := Aside0.mk hr8
        have C7 := Aside0.mk (Kd.C_below hr7.out hB8)
        have C3 := Aside0.mk (Kd.C_below (Kd.C_below hr3.out HB7.out) hB8)
        have C2 := Aside0.mk (Kd.C_below (Kd.C_below hr2.out HB7.out) hB8)
        have CV := Aside0.mk (Kd.C_below (Kd.C_below HVR2.out HB7.out) hB8)
        have HBW8 := Aside0.mk ((HBW6.out.trans (HB7.out.mono HBW6.out.size)).trans (hB8.mono (Nat.le_trans HBW6.out.size HB7.out.size)))
        have HSub1 := Aside0.mk (circle_mono hL HAll.out (fun e he => List.mem_append_left _ he))
        have HSub2 := Aside0.mk (any_mono HNow.out HWas.out less_sub)
        have hnot := Aside0.mk (any_less HNow.out)
        have HLess := Aside0.mk (show Edg w8 va vc (lessOf a es) from ⟨CV.out, HVC.out, fun e he => HOK.out e (less_sub e he), by omega⟩)
        clear hL hR8 hB8 hr8 hr7 hr3 hr2 HVR2 HAll HWas HNow HB7 HB6 HBW6 CV HVR HEL
        have hl1 : l.length ≤ 60 := by omega
        have hl2 : all.length ≤ 200 := by omega
        have hl3 : now.length ≤ 60 := by omega
        have hl4 : was.length ≤ 60 := by omega
        go_wp2
        obtain ⟨wo, hwo⟩ : ∃ wo : World, wo = wr := ⟨_, rfl⟩
        clear hwo
        go_loopw [14] (fun v14 wr => ∃ (i : Nat), i ≤ l.length ∧ v14 = .int .i64 i ∧ w8 = wr) (fun v14 _ => l.length - (intOf v14).toNat)
        case atStart => exact ⟨0, Nat.zero_le _, rfl, rfl⟩
        case round =>
          obtain ⟨i, hi, rfl, hw⟩ := hrel
          subst hw
          by_cases hil : i < l.length
          · have g1 : decide ((i : Int) < (l.length : Int)) = true := decide_eq_true (by omega)
            have g2 : (0 : Int) ≤ (i : Int) := by omega
            have g3 : (i : Int) < (l.length : Int) := by omega
            have g4 : (i : Int) ≤ 60 := by omega
            obtain ⟨ad, e1, y0⟩ := int_C C8.out hil
            subst e1
            have n := has_calls a7 c7 all l[i] w8 C7.out (by omega)
            rw [show decide (l[i] ∈ all) = true from decide_eq_true (HSub1.out _ (List.getElem_mem hil))] at n
            generalize l[i] = x at *
            go_wp2_with fail
            refine n.mono ?_
            clear n
            rintro e w9 ⟨rfl, hw9⟩
            go_wp2
            go_roundw
            case measure => simp [intOf]; omega
            case rel => exact ⟨i + 1, by omega, by go_num, by first | exact hw9.symm | trivial⟩
          · have g1 : decide ((i : Int) < (l.length : Int)) = false := decide_eq_false (by omega)
            go_wp2
            obtain ⟨wo, hwo⟩ : ∃ wo : World, wo = wr := ⟨_, rfl⟩
            clear hwo
            go_loopw [15] (fun v15 wr => ∃ (i : Nat), i ≤ now.length ∧ v15 = .int .i64 i ∧ w8 = wr) (fun v15 _ => now.length - (intOf v15).toNat)
            case atStart => exact ⟨0, Nat.zero_le _, rfl, rfl⟩
            case round =>
              obtain ⟨i, hi, rfl, hw⟩ := hrel
              subst hw
              by_cases hil : i < now.length
              · have g1 : decide ((i : Int) < (now.length : Int)) = true := decide_eq_true (by omega)
                have g2 : (0 : Int) ≤ (i : Int) := by omega
                have g3 : (i : Int) < (now.length : Int) := by omega
                have g4 : (i : Int) ≤ 60 := by omega
                obtain ⟨ad, e1, y0⟩ := int_C C3.out hil
                subst e1
                have n := has_calls a2 c2 was now[i] w8 C2.out (by omega)
                rw [show decide (now[i] ∈ was) = true from decide_eq_true (HSub2.out _ (List.getElem_mem hil))] at n
                generalize now[i] = x at *
                go_wp2_with fail
                refine n.mono ?_
                clear n
                rintro e w9 ⟨rfl, hw9⟩
                go_wp2
                go_roundw
                case measure => simp [intOf]; omega
                case rel => exact ⟨i + 1, by omega, by go_num, by first | exact hw9.symm | trivial⟩
              · have g1 : decide ((i : Int) < (now.length : Int)) = false := decide_eq_false (by omega)
                have n := circle_calls va vc (lessOf a es) a w8 HLess.out HA.out
                go_wp2_with fail
                refine n.mono ?_
                clear n
                rintro e w9 ⟨v9, l9, rfl, hC9, hR9, hB9⟩
                obtain rfl := circle_less hC9
                obtain ⟨a9, c9, rfl, _, _⟩ := Kd.R_reads hR9
                have n := has_calls a3 c3 now a w9 (Kd.C_below C3.out hB9) (by omega)
                rw [show decide (a ∈ now) = false from decide_eq_false hnot.out] at n
                have HB9 := Aside0.mk (HBW8.out.trans (hB9.mono HBW8.out.size))
                clear hC9 hR9 hB9
                go_wp2_with fail
                refine n.mono ?_
                clear n
                rintro e w10 ⟨rfl, rfl⟩
                go_wp2
                go_ret
                exact ⟨rfl, HB9.out⟩
end Go.Proofs.Yteejeakbagbcoaa

import Derived.Test.YteejeakbagbcoaaWyc
import Derived.Deep.QuietTactic
import Derived.BigQuiet
/-! WaitsTell, walked. -/
namespace Go.Proofs.Yteejeakbagbcoaa
open Go.RowKit Go.Maps Go.MapKept Go.WideMaps
open Go.Proofs.Yteejeakbagbcoaa.PWaitsTell
open Go.Proofs.YteejeakbagbcoaaW.PrintWords Go.Proofs.YteejeakbagbcoaaW.PrintLast Go.Proofs.YteejeakbagbcoaaW.PrintMore
set_option linter.unusedVariables false
set_option linter.unusedSimpArgs false

theorem R_empty2 {α : Type} (d : Kd α) (e : Nat) (W : World) (base : Nat) (hb : base ≤ W.heap.size) (ok : Nat → Prop) (ho : ok W.heap.size) : d.R e (W.alloc (.cells #[] e)) base ok (.slice (some ⟨W.heap.size, 0, none⟩) 0 0) [] :=
  ⟨fun k hk => by
    have : W.heap.size = k := by simpa [Value.ownBlock] using hk
    rw [← this]; exact ho, [], by simpa using World.ownsRow_lit (base := base) (e := e) (size := d.sz) W #[] 0 hb (by simp [maxLen]) (by simp), Reps.none _ _⟩
theorem circle_told {es : Edges} {a : Int} {l l' : List Int} (h : IsCircle es a l) (h' : IsCircle es a l') : l = l' := circle_same h h' (fun _ => Iff.rfl)
theorem reach_told {es : Edges} {a : Int} {l l' : List Int} (h : IsReach es a l) (h' : IsReach es a l') : l = l' := reach_same h h' (fun _ => Iff.rfl)
theorem any_told {es : Edges} {l l' : List Int} (h : IsAny es l) (h' : IsAny es l') : l = l' := any_same h h' (fun _ => Iff.rfl)
theorem ints_same (A0 A1 : Option Addr) (c0 c1 : Nat) (l : List Int) (w : World) (h0 : Kd.C kInt w A0 l.length l) (h1 : Kd.C kInt w A1 l.length l) (hb : l.length < 100000) :
    Calls Try.prog 16 #[.slice A0 l.length c0, .slice A1 l.length c1] w fun e w' => e = .returned (.bool true) ∧ Below w.heap.size w w' :=
  (ints_calls A0 A1 c0 c1 l l w h0 h1 hb).mono fun e w' ⟨he, hB⟩ => ⟨by rw [he, decide_eq_true rfl], hB⟩

/-- The victim, by the program and by the document. -/
theorem victim_zero (A : Option Addr) (c : Nat) (w : World) : Calls Try.prog 15 #[.slice A 0 c] w fun e w' => e = .returned (.int .i64 0) ∧ w' = w := by
  have hg : Calls Try.prog 30 #[.slice A 0 c] w fun e w' => e = .returned (.int .i64 0) ∧ w' = w := by
    go_enter Try.func30, Try.ntmps30
    go_wp2
    go_ret
    exact ⟨rfl, rfl⟩
  go_enter Try.func15, Try.ntmps15
  go_wp2_with fail
  refine hg.mono ?_
  rintro e w1 ⟨rfl, rfl⟩
  go_wp2
  go_ret
  exact ⟨rfl, rfl⟩
theorem victims (A : Option Addr) (c : Nat) (l : List Int) (w : World) (h0 : Kd.C kInt w A l.length l) (hc : l.length ≤ c) (hb : l.length < 100000) : ∃ n : Int,
    (Calls Try.prog 15 #[.slice A l.length c] w fun e w' => e = .returned (.int .i64 n) ∧ w' = w) ∧
    (Calls Try.prog 20 #[.slice A l.length c] w fun e w' => e = .returned (.int .i64 n) ∧ Below w.heap.size w w') := by
  cases l with
  | nil => exact ⟨0, victim_zero A c w, covenantref15_Victim.calls 1 A c [] 0 w h0 hc rfl⟩
  | cons x l =>
    obtain ⟨k, hk⟩ := victim_some x l hb
    obtain ⟨ad, e1, y0⟩ := int_C h0 (show 0 < (x :: l).length by simp)
    subst e1
    have hs := World.cell?_spot y0
    obtain ⟨b, off, spot⟩ := ad
    have hspot : spot = none := by simpa [Addr.add] using hs
    subst hspot
    have hm : Lib.maxOf (x :: l) = l.foldl mx x := by
      rw [foldl_mx]
      unfold Lib.maxOf
      simp
    refine ⟨l.foldl mx x, ?_, covenantref15_Victim.calls k _ c (x :: l) _ w h0 hc hk⟩
    rw [← hm]
    exact victim_calls b off c (x :: l) w (by simp) (by omega) (fun j hj => by
      obtain ⟨ad, e2, y⟩ := int_C h0 hj
      cases e2
      rw [List.getD_eq_getElem?_getD, List.getElem?_eq_getElem hj, Option.getD_some, ← y]
      unfold Addr.add
      split
      · rename_i h; subst h; rfl
      · rfl)

/-- Two waits compared. -/
theorem edge_eq (p q : Int) (w : World) : (Op.equalIn 10000 22 (.agg #[.int .i64 p, .int .i64 q]) (.agg #[.int .i64 p, .int .i64 q])).run Try.prog w = .ok true w := by
  have u3 := Try.underlying3
  have a3 := Try.isAgg3
  have z3 := Try.sizeOf3
  rw [show (10000 : Nat) = 9999 + 1 from rfl, Op.equalIn]
  simp only [Sem.run_bind, run_underlying Try.underlying22, Result.andThen_ok]
  simp only [Std.Legacy.Range.forIn_eq_forIn_range', Std.Legacy.Range.size, Nat.sub_zero, Nat.add_sub_cancel, Nat.div_one, List.range'_succ, List.range'_zero, List.forIn_cons, List.forIn_nil]
  go_simp

set_option maxRecDepth 100000 in
set_option maxHeartbeats 2000000 in
theorem tell_law (A0 A2 : Option Addr) (c0 c2 : Nat) (es : Edges) (l : List Int) (a : Int) (w : World) (hr : Kd.C kEdge w A0 es.length es) (hc : es.length ≤ c0) (hok : ∀ e ∈ es, okI e.1 ∧ okI e.2) (ha : okI a)
    (hr2 : Kd.C kInt w A2 l.length l) (hc2 : l.length ≤ c2) (hl : es.length < 4611686018427387904) (hl2 : l.length < 4611686018427387904) :
    Calls Try.prog 4 #[.slice A0 es.length c0, .int .i64 a, .slice A2 l.length c2] w fun e w' => e = .returned (.bool true) ∧ Below w.heap.size w w' := by
  have HR := Aside0.mk hr
  have HC := Aside0.mk hc
  have HOK := Aside0.mk hok
  have HA := Aside0.mk ha
  have HR2 := Aside0.mk hr2
  have HC2 := Aside0.mk hc2
  clear hr hc hok ha hr2 hc2
  by_cases hbig : 60 < es.length ∨ 1000 < l.length
  · have hd : (decide ((60 : Int) < (es.length : Int)) = true ∧ (60 : Int) < (es.length : Int)) ∨ (decide ((60 : Int) < (es.length : Int)) = false ∧ ¬ (60 : Int) < (es.length : Int) ∧ decide ((1000 : Int) < (l.length : Int)) = true ∧ (1000 : Int) < (l.length : Int)) := by
      by_cases h1 : 60 < es.length
      · exact .inl ⟨decide_eq_true (by omega), by omega⟩
      · exact .inr ⟨decide_eq_false (by omega), by omega, decide_eq_true (by omega), by omega⟩
    clear hbig
    rcases hd with ⟨d1, d2⟩ | ⟨d1, d2, d3, d4⟩
    all_goals
      go_enter Try.func4, Try.ntmps4
      go_wp2
      go_ret
      exact ⟨rfl, Below.refl _ _⟩
  · have d1 : decide ((60 : Int) < (es.length : Int)) = false := decide_eq_false (by omega)
    have d2 : ¬ (60 : Int) < (es.length : Int) := by omega
    have d3 : decide ((1000 : Int) < (l.length : Int)) = false := decide_eq_false (by omega)
    have d4 : ¬ (1000 : Int) < (l.length : Int) := by omega
    have hn1 : es.length ≤ 60 := by omega
    have hn2 : l.length ≤ 1000 := by omega
    have HE : ∀ W, Below w.heap.size w W → Edg W A0 c0 es := fun W hB => ⟨Kd.C_below HR.out hB, HC.out, HOK.out, by omega⟩
    replace HE := Aside0.mk HE
    clear hbig
    have hR0 := R_empty2 kEdge 22 w w.heap.size (Nat.le_refl _) (fun _ => True) trivial
    have hB4 : Below w.heap.size w (w.alloc (.cells #[] 22)) := (Below.refl _ _).alloc (Nat.le_refl _) _
    have hCa := Kd.C_below HR.out hB4
    have hkM : ∀ (W : World) (base : Nat) (ok : Nat → Prop) (x : Int × Int) (cs : List Value), kEdge.K W x cs → kEdge.M W base ok x cs := fun W base ok x cs hx => by
      obtain rfl := kEdge_openK hx
      exact kEdge_mkM _ _ _ _
    have HB4 := Aside0.mk hB4
    clear hB4
    go_enter Try.func4, Try.ntmps4
    go_upto_region 3 with (fail)
    go_wp2_with (at_builtin; go_loud (refine Kd.R_append_rows kEdge (w0 := w.alloc (.cells #[] 22)) w.heap.size rfl (.tmp 18) (.tmp 19) 23 22 (.agg #[.int .i64 0, .int .i64 0]) 16 rfl Try.underlying23 Try.infoEdge rfl (by decide) (by omega) (.slice (some ⟨w.heap.size, 0, none⟩) 0 0) [] es A0 es.length c0 (fun _ => True) (fun _ => False) rfl rfl hR0 hCa (fun x cs hx => hkM _ _ _ x cs hx) (fun _ h => h.elim) (fun _ _ => trivial) (Below.refl _ _) (by simp) (by simp only [List.length_nil]; omega) ?_); intro v5 w5 ho hb hg hat; go_loud (simp only [List.nil_append] at ho); obtain ⟨b5, c5, e5, hvc5, hvr5⟩ := Kd.R_reads ho; subst e5; replace hvc5 := Aside0.mk hvc5; replace hvr5 := Aside0.mk hvr5; go_loud (have HBW5 := Aside0.mk (HB4.out.trans hb)); go_loud (clear hb hg hat hR0 hCa ho hkM HB4))
    have HE5 : ∀ W, Below w5.heap.size w5 W → Edg W b5 c5 es := fun W hB => ⟨Kd.C_below hvr5.out hB, hvc5.out, HOK.out, by omega⟩
    replace HE5 := Aside0.mk HE5
    have HS5 := Aside0.mk HBW5.out.size
    have HB1 := Aside0.mk (Below.refl w5.heap.size w5)
    have n := circle_calls b5 c5 es a w5 (HE5.out w5 HB1.out) HA.out
    go_wp2_with fail
    refine n.mono ?_
    clear n
    rintro e w1a ⟨v1a, l1, rfl, hT1, hR1, hB1⟩
    obtain ⟨aa1, ca1, rfl, _, hr1⟩ := Kd.R_reads hR1
    have hlen1 := short_circle hT1
    have HT1 := Aside0.mk hT1
    have C1 := Aside0.mk hr1
    have HBa := Aside0.mk (HB1.out.trans (hB1.mono HB1.out.size))
    clear hT1 hR1 hr1 hB1
    have n := circle2_calls A0 c0 es a w1a (HE.out w1a (HBW5.out.trans (HBa.out.mono HBW5.out.size))) HA.out
    go_wp2_with fail
    refine n.mono ?_
    clear n
    rintro e w1b ⟨v1b, l1b, rfl, hT2, hR2, hB2⟩
    obtain rfl := circle_told HT1.out hT2
    obtain ⟨aa1b, ca1b, rfl, _, hr2⟩ := Kd.R_reads hR2
    have n := ints_same aa1 aa1b ca1 ca1b l1 w1b (Kd.C_below C1.out hB2) hr2 (by omega)
    have HBb := Aside0.mk (HBa.out.trans (hB2.mono HBa.out.size))
    clear hT2 hR2 hr2 hB2 C1 HT1 HBa
    go_wp2_with fail
    refine n.mono ?_
    clear n
    rintro e w1c ⟨rfl, hB3⟩
    have HB2 := Aside0.mk (HBb.out.trans (hB3.mono HBb.out.size))
    clear hB3 HBb
    have n := reach_calls b5 c5 es a w1c (HE5.out w1c HB2.out) HA.out
    go_wp2_with fail
    refine n.mono ?_
    clear n
    rintro e w2a ⟨v2a, l2, rfl, hT1, hR1, hB1⟩
    obtain ⟨aa2, ca2, rfl, _, hr1⟩ := Kd.R_reads hR1
    have hlen2 := short_reach hT1
    have HT1 := Aside0.mk hT1
    have C1 := Aside0.mk hr1
    have HBa := Aside0.mk (HB2.out.trans (hB1.mono HB2.out.size))
    clear hT1 hR1 hr1 hB1
    have n := reach2_calls A0 c0 es a w2a (HE.out w2a (HBW5.out.trans (HBa.out.mono HBW5.out.size))) HA.out
    go_wp2_with fail
    refine n.mono ?_
    clear n
    rintro e w2b ⟨v2b, l2b, rfl, hT2, hR2, hB2⟩
    obtain rfl := reach_told HT1.out hT2
    obtain ⟨aa2b, ca2b, rfl, _, hr2⟩ := Kd.R_reads hR2
    have n := ints_same aa2 aa2b ca2 ca2b l2 w2b (Kd.C_below C1.out hB2) hr2 (by omega)
    have HBb := Aside0.mk (HBa.out.trans (hB2.mono HBa.out.size))
    clear hT2 hR2 hr2 hB2 C1 HT1 HBa
    go_wp2_with fail
    refine n.mono ?_
    clear n
    rintro e w2c ⟨rfl, hB3⟩
    have HB3 := Aside0.mk (HBb.out.trans (hB3.mono HBb.out.size))
    clear hB3 HBb
    have n := any_calls b5 c5 es w2c (HE5.out w2c HB3.out)
    go_wp2_with fail
    refine n.mono ?_
    clear n
    rintro e w3a ⟨v3a, l3, rfl, hT1, hR1, hB1⟩
    obtain ⟨aa3, ca3, rfl, _, hr1⟩ := Kd.R_reads hR1
    have hlen3 := short_any hT1
    have HT1 := Aside0.mk hT1
    have C1 := Aside0.mk hr1
    have HBa := Aside0.mk (HB3.out.trans (hB1.mono HB3.out.size))
    clear hT1 hR1 hr1 hB1
    have n := any2_calls A0 c0 es w3a (HE.out w3a (HBW5.out.trans (HBa.out.mono HBW5.out.size)))
    go_wp2_with fail
    refine n.mono ?_
    clear n
    rintro e w3b ⟨v3b, l3b, rfl, hT2, hR2, hB2⟩
    obtain rfl := any_told HT1.out hT2
    obtain ⟨aa3b, ca3b, rfl, _, hr2⟩ := Kd.R_reads hR2
    have n := ints_same aa3 aa3b ca3 ca3b l3 w3b (Kd.C_below C1.out hB2) hr2 (by omega)
    have HBb := Aside0.mk (HBa.out.trans (hB2.mono HBa.out.size))
    clear hT2 hR2 hr2 hB2 C1 HT1 HBa
    go_wp2_with fail
    refine n.mono ?_
    clear n
    rintro e w3c ⟨rfl, hB3⟩
    have HB4 := Aside0.mk (HBb.out.trans (hB3.mono HBb.out.size))
    clear hB3 HBb
    obtain ⟨n, hv1, hv2⟩ := victims A2 c2 l w3c (Kd.C_below HR2.out (HBW5.out.trans (HB4.out.mono HBW5.out.size))) HC2.out (by omega)
    have HV2 := Aside0.mk hv2
    clear hv2
    go_wp2_with fail
    refine hv1.mono ?_
    clear hv1
    rintro e w4 ⟨rfl, hw4⟩
    rw [hw4]
    clear hw4
    have n2 := HV2.out
    clear HV2
    go_wp2_with fail
    refine n2.mono ?_
    clear n2
    rintro e w4 ⟨rfl, hB5⟩
    have HB5 := Aside0.mk (HB4.out.trans (hB5.mono HB4.out.size))
    clear hB5
    go_wp2
    go_loopw [9] (fun v9 wr => ∃ (k : Nat), k ≤ es.length ∧ v9 = .int .i64 k ∧ Aside0 (Below w5.heap.size w5 wr)) (fun v9 _ => es.length - (intOf v9).toNat)
    case atStart => exact ⟨0, Nat.zero_le _, rfl, HB5⟩
    case round =>
      clear HB1 HB2 HB3 HB4 HB5
      obtain ⟨k, hk, rfl, HB⟩ := hrel
      by_cases hkl : k < es.length
      · have g5 : decide ((k : Int) < (es.length : Int)) = true := decide_eq_true (by omega)
        have g6 : (0 : Int) ≤ (k : Int) := by omega
        have g7 : (k : Int) < (es.length : Int) := by omega
        have g8 : (k : Int) ≤ 60 := by omega
        obtain ⟨ad, e1, x0, x1⟩ := edge_cells (HE.out wr (HBW5.out.trans (HB.out.mono HBW5.out.size))).read hkl
        obtain ⟨bd, e2, y0, y1⟩ := edge_cells (HE5.out wr HB.out).read hkl
        subst e1
        subst e2
        generalize es[k].1 = p at *
        generalize es[k].2 = q at *
        have heq := edge_eq p q
        go_upto_region 10 with (fail)
        go_quiet (fail)
        go_wp2
        go_roundw
        case measure => simp [intOf]; omega
        case rel => exact ⟨k + 1, by omega, by go_num, ⟨HB.out.trans (((Drawn0.mk ⟨_, rfl⟩ : Drawn0 wr _).below).mono HB.out.size)⟩⟩
      · have g5 : decide ((k : Int) < (es.length : Int)) = false := decide_eq_false (by omega)
        go_wp2
        go_ret
        exact ⟨rfl, HBW5.out.trans (HB.out.mono HBW5.out.size)⟩
end Go.Proofs.Yteejeakbagbcoaa

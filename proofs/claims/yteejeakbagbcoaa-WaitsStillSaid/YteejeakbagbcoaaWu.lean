import Derived.Test.YteejeakbagbcoaaWt
import Derived.Deep.QuietTactic
import Derived.BigQuiet
import Derived.Deep.Cut
/-! WaitsStill, walked. -/
namespace Go.Proofs.Yteejeakbagbcoaa
open Go.RowKit Go.Maps Go.MapKept Go.WideMaps
open Go.Proofs.YteejeakbagbcoaaW.PrintWords Go.Proofs.YteejeakbagbcoaaW.PrintLast Go.Proofs.YteejeakbagbcoaaW.PrintMore
set_option linter.unusedVariables false
set_option linter.unusedSimpArgs false

/-- Who waits for someone in l; who is waited for by someone in l; who is come to. -/
def outOf (l : List Int) (x : Int) (e : Int × Int) : Bool := e.1 == x && decide (e.2 ∈ l)
def inOf (l : List Int) (x : Int) (e : Int × Int) : Bool := e.2 == x && decide (e.1 ∈ l)
def inR (r : List Int) (a x : Int) (e : Int × Int) : Bool := e.2 == x && (e.1 == a || (!(e.1 == x) && decide (e.1 ∈ r)))
theorem any_next {p : Int × Int → Bool} {es : Edges} {k : Nat} (h : k < es.length) : (es.take (k + 1)).any p = ((es.take k).any p || p es[k]) := by
  rw [List.take_add_one, List.getElem?_eq_getElem h]
  simp only [Option.toList_some, List.any_append, List.any_cons, List.any_nil, Bool.or_false]
theorem out_any {es : Edges} {a x : Int} {l : List Int} (h : IsCircle es a l) (hx : x ∈ l) : es.any (outOf l x) = true := by
  obtain ⟨p1, p2⟩ := (h.2 x).1 hx
  rcases p2.first with he | ⟨c, he, hc⟩
  · exact List.any_eq_true.2 ⟨_, he, by simp [outOf, circle_self h hx]⟩
  · exact List.any_eq_true.2 ⟨_, he, by simp [outOf, (h.2 c).2 ⟨p1.more he, hc⟩]⟩
theorem in_any {es : Edges} {a x : Int} {l : List Int} (h : IsCircle es a l) (hx : x ∈ l) : es.any (inOf l x) = true := by
  obtain ⟨p1, p2⟩ := (h.2 x).1 hx
  obtain ⟨c, he, hc⟩ := p1.last
  rcases hc with rfl | hc
  · exact List.any_eq_true.2 ⟨_, he, by simp [inOf, circle_self h hx]⟩
  · exact List.any_eq_true.2 ⟨_, he, by simp [inOf, (h.2 c).2 ⟨hc, Path.cons he p2⟩]⟩
theorem inR_any {es : Edges} {a x : Int} {r : List Int} (h : IsReach es a r) (hx : x ∈ r) : es.any (inR r a x) = true := by
  have : ∃ c, (c, x) ∈ es ∧ (c = a ∨ (c ≠ x ∧ Path es a c)) :=
    Path.rec' (S := fun x => ∃ c, (c, x) ∈ es ∧ (c = a ∨ (c ≠ x ∧ Path es a c))) (fun k hk => ⟨a, hk, .inl rfl⟩) (fun n k hp hn hk => by
      by_cases e : n = k
      · subst e; exact hn
      · exact ⟨n, hk, .inr ⟨e, hp⟩⟩) ((h.2 x).1 hx)
  obtain ⟨c, he, hc⟩ := this
  rcases hc with rfl | ⟨h1, h2⟩
  · exact List.any_eq_true.2 ⟨_, he, by simp [inR]⟩
  · exact List.any_eq_true.2 ⟨_, he, by simp [inR, h1, (h.2 c).2 h2]⟩
theorem reach_next {es : Edges} {a : Int} {r : List Int} (h : IsReach es a r) {e : Int × Int} (he : e ∈ es) (h1 : e.1 = a ∨ e.1 ∈ r) : e.2 ∈ r := by
  rcases h1 with h1 | h1
  · exact (h.2 _).2 (Path.one (h1 ▸ he))
  · exact (h.2 _).2 (((h.2 _).1 h1).more he)

set_option maxRecDepth 100000 in
set_option maxHeartbeats 2000000 in
theorem still_law (A0 : Option Addr) (c0 : Nat) (es : Edges) (a : Int) (w : World) (hr : Kd.C kEdge w A0 es.length es) (hc : es.length ≤ c0) (hok : ∀ e ∈ es, okI e.1 ∧ okI e.2) (ha : okI a) (hl : es.length < 4611686018427387904) :
    Calls Try.prog 6 #[.slice A0 es.length c0, .int .i64 a] w fun e w' => e = .returned (.bool true) ∧ Below w.heap.size w w' := by
  have HR := Aside0.mk hr
  have HC := Aside0.mk hc
  have HOK := Aside0.mk hok
  have HA := Aside0.mk ha
  clear hr hc hok ha
  go_enter Try.func6, Try.ntmps6
  go_wp2_with fail
  refine (works_calls w).mono ?_
  rintro e w1 ⟨rfl, hB⟩
  have HB1 := Aside0.mk hB
  clear hB
  by_cases hbig : 200 < es.length
  · have d1 : decide ((200 : Int) < (es.length : Int)) = true := decide_eq_true (by omega)
    have d2 : (200 : Int) < (es.length : Int) := by omega
    go_wp2_with fail
    refine (works_calls w1).mono ?_
    rintro e w2 ⟨rfl, hB⟩
    have HB2 := Aside0.mk (HB1.out.trans (hB.mono HB1.out.size))
    clear hB
    go_wp2
    go_ret
    exact ⟨rfl, HB2.out⟩
  · have d1 : decide ((200 : Int) < (es.length : Int)) = false := decide_eq_false (by omega)
    have d2 : ¬ (200 : Int) < (es.length : Int) := by omega
    have HE : ∀ W, Below w.heap.size w W → Edg W A0 c0 es := fun W hB => ⟨Kd.C_below HR.out hB, HC.out, HOK.out, by omega⟩
    replace HE := Aside0.mk HE
    have hes : es.length ≤ 200 := by omega
    have n := circle_calls A0 c0 es a w1 (HE.out w1 HB1.out) HA.out
    clear hbig
    go_wp2_with fail
    refine n.mono ?_
    clear n
    rintro e w2 ⟨v2, l, rfl, hL, hR2, hB2⟩
    obtain ⟨a2, c2, rfl, _, hr2⟩ := Kd.R_reads hR2
    have HB2 := Aside0.mk (HB1.out.trans (hB2.mono HB1.out.size))
    have hll := short_circle hL
    have HL := Aside0.mk hL
    have C2 := Aside0.mk hr2
    have hll1 : l.length ≤ 200 := by omega
    clear hL hR2 hB2 hr2
    go_wp2
    go_loopw [6, 7, 8, 9] (fun v6 v7 v8 v9 wr => ∃ (i : Nat), i ≤ l.length ∧ v6 = .int .i64 i ∧ Aside0 (Below w2.heap.size w2 wr)) (fun v6 _ _ _ _ => l.length - (intOf v6).toNat)
    case atStart => exact ⟨0, Nat.zero_le _, rfl, ⟨Below.refl _ _⟩⟩
    case round =>
      obtain ⟨i, hi, rfl, HB⟩ := hrel
      by_cases hil : i < l.length
      · have g1 : decide ((i : Int) < (l.length : Int)) = true := decide_eq_true (by omega)
        have g2 : (0 : Int) ≤ (i : Int) := by omega
        have g3 : (i : Int) < (l.length : Int) := by omega
        have g4 : (i : Int) ≤ 200 := by omega
        have HXM := Aside0.mk (show l[i] ∈ l from List.getElem_mem hil)
        obtain ⟨x, hx⟩ : ∃ x, l[i] = x := ⟨_, rfl⟩
        rw [hx] at HXM
        obtain ⟨al, e1, y0⟩ := int_C C2.out hil
        rw [hx] at y0
        subst e1
        clear hx
        have Y0 := Aside0.mk y0
        clear y0
        go_wp2
        go_loopw [7, 8, 9] (fun v7 v8 v9 wr => ∃ (k : Nat) (b c : Bool), k ≤ es.length ∧ v7 = .bool b ∧ v8 = .bool c ∧ v9 = .int .i64 k ∧ Aside0 (b = (es.take k).any (outOf l x)) ∧ Aside0 (c = (es.take k).any (inOf l x)) ∧ Aside0 (Below w2.heap.size w2 wr)) (fun _ _ v9 _ => es.length - (intOf v9).toNat)
        case atStart => exact ⟨0, false, false, Nat.zero_le _, rfl, rfl, rfl, ⟨by simp⟩, ⟨by simp⟩, HB⟩
        case round =>
          clear HB
          obtain ⟨k, b, c, hk, rfl, rfl, rfl, HO, HI, HB⟩ := hrel
          by_cases hkl : k < es.length
          · have g5 : decide ((k : Int) < (es.length : Int)) = true := decide_eq_true (by omega)
            have g6 : (0 : Int) ≤ (k : Int) := by omega
            have g7 : (k : Int) < (es.length : Int) := by omega
            have g8 : (k : Int) ≤ 200 := by omega
            obtain ⟨ad, e1, x0, x1⟩ := edge_cells (HE.out wr (HB2.out.trans (HB.out.mono HB2.out.size))).read hkl
            have HO2 := Aside0.mk (show (b || (es[k].1 == x && decide (es[k].2 ∈ l))) = (es.take (k + 1)).any (outOf l x) from by rw [any_next hkl, HO.out]; rfl)
            have HI2 := Aside0.mk (show (c || (es[k].2 == x && decide (es[k].1 ∈ l))) = (es.take (k + 1)).any (inOf l x) from by rw [any_next hkl, HI.out]; rfl)
            clear HO HI
            subst e1
            generalize es[k].1 = p at *
            generalize es[k].2 = q at *
            have y0 := (HB.out.cell (p := al.add i) (World.block_lt_of_cell? w2 _ Y0.out)).trans Y0.out
            have nq := Aside0.mk (fun (W : World) (hb : Below wr.heap.size wr W) => has_calls _ c2 l q W (Kd.C_below C2.out (HB.out.trans (hb.mono HB.out.size))) (by omega))
            have np := Aside0.mk (fun (W : World) (hb : Below wr.heap.size wr W) => has_calls _ c2 l p W (Kd.C_below C2.out (HB.out.trans (hb.mono HB.out.size))) (by omega))
            generalize decide (q ∈ l) = dq at *
            generalize decide (p ∈ l) = dp at *
            go_upto_region 11 with (fail)
            go_cut [7] from 38 to 60 (fun v7 wc => v7 = .bool (b || (p == x && dq)) ∧ Drawn0 wr wc)
            case first =>
              cases b with
              | true =>
                go_quiet (fail)
                go_wp2
                go_meet
                case rel => exact ⟨by first | rfl | (simp [*]; done), by first | exact ⟨⟨0, rfl⟩⟩ | exact ⟨⟨1, rfl⟩⟩ | exact ⟨⟨_, rfl⟩⟩⟩
              | false =>
                by_cases hpx : p = x
                · have d5 : (p == x) = true := beq_iff_eq.2 hpx
                  clear hpx
                  go_quiet ((go_at_call 21; exact Calls.quiet_of_same (nq.out _ (Drawn0.mk ⟨_, rfl⟩ : Drawn0 wr _).below)))
                  go_wp2
                  go_meet
                  case rel => exact ⟨by first | rfl | (simp [*]; done), by first | exact ⟨⟨0, rfl⟩⟩ | exact ⟨⟨1, rfl⟩⟩ | exact ⟨⟨_, rfl⟩⟩⟩
                · have d5 : (p == x) = false := beq_eq_false_iff_ne.2 hpx
                  clear hpx
                  go_quiet (fail)
                  go_wp2
                  go_meet
                  case rel => exact ⟨by first | rfl | (simp [*]; done), by first | exact ⟨⟨0, rfl⟩⟩ | exact ⟨⟨1, rfl⟩⟩ | exact ⟨⟨_, rfl⟩⟩⟩
            case rest =>
              obtain ⟨rfl, hdr⟩ := hcut
              generalize (b || (p == x && dq)) = b' at *
              have z0 := (hdr.below.cell (p := al.add i) (World.block_lt_of_cell? wr _ y0)).trans y0
              have z1 := (hdr.below.cell (p := ad.add (k * 2)) (World.block_lt_of_cell? wr _ x0)).trans x0
              have z2 := (hdr.below.cell (p := ⟨(ad.add (k * 2)).block, (ad.add (k * 2)).off + 1, none⟩) (World.block_lt_of_cell? wr _ x1)).trans x1
              have HB5 := Aside0.mk (HB.out.trans (hdr.below.mono HB.out.size))
              have np := Aside0.mk (fun (W : World) (hb : Below wc.heap.size wc W) => np.out W (hdr.below.trans (hb.mono hdr.below.size)))
              clear y0 x0 x1 HB hdr nq
              go_upto_region 12 with (fail)
              cases c with
              | true =>
                go_quiet (fail)
                go_wp2
                go_roundw
                case measure => simp [intOf]; omega
                case rel => exact ⟨k + 1, _, _, by omega, rfl, rfl, by go_num, HO2, ⟨by rw [← HI2.out]; first | rfl | (simp [*]; done)⟩, ⟨HB5.out.trans (((Drawn0.mk ⟨_, rfl⟩ : Drawn0 wc _).below).mono HB5.out.size)⟩⟩
              | false =>
                by_cases hpx : q = x
                · have d5 : (q == x) = true := beq_iff_eq.2 hpx
                  clear hpx
                  go_quiet ((go_at_call 21; exact Calls.quiet_of_same (np.out _ (Drawn0.mk ⟨_, rfl⟩ : Drawn0 wc _).below)))
                  go_wp2
                  go_roundw
                  case measure => simp [intOf]; omega
                  case rel => exact ⟨k + 1, _, _, by omega, rfl, rfl, by go_num, HO2, ⟨by rw [← HI2.out]; first | rfl | (simp [*]; done)⟩, ⟨HB5.out.trans (((Drawn0.mk ⟨_, rfl⟩ : Drawn0 wc _).below).mono HB5.out.size)⟩⟩
                · have d5 : (q == x) = false := beq_eq_false_iff_ne.2 hpx
                  clear hpx
                  go_quiet (fail)
                  go_wp2
                  go_roundw
                  case measure => simp [intOf]; omega
                  case rel => exact ⟨k + 1, _, _, by omega, rfl, rfl, by go_num, HO2, ⟨by rw [← HI2.out]; first | rfl | (simp [*]; done)⟩, ⟨HB5.out.trans (((Drawn0.mk ⟨_, rfl⟩ : Drawn0 wc _).below).mono HB5.out.size)⟩⟩
          · have g5 : decide ((k : Int) < (es.length : Int)) = false := decide_eq_false (by omega)
            obtain rfl : k = es.length := by omega
            have hb := HO.out
            have hc' := HI.out
            rw [List.take_length, out_any HL.out HXM.out] at hb
            rw [List.take_length, in_any HL.out HXM.out] at hc'
            subst hb
            subst hc'
            go_wp2
            go_roundw
            case measure => simp [intOf]; omega
            case rel => exact ⟨i + 1, by omega, by go_num, HB⟩
      · have g1 : decide ((i : Int) < (l.length : Int)) = false := decide_eq_false (by omega)
        have n := reach_calls A0 c0 es a wr (HE.out wr (HB2.out.trans (HB.out.mono HB2.out.size))) HA.out
        go_wp2_with fail
        refine n.mono ?_
        clear n
        rintro e w3 ⟨v3, r, rfl, hRe, hR3, hB3⟩
        obtain ⟨a3, c3, rfl, _, hr3⟩ := Kd.R_reads hR3
        have hrl := short_reach hRe
        have HRe := Aside0.mk hRe
        have C3 := Aside0.mk hr3
        have HB3 := Aside0.mk ((HB2.out.trans (HB.out.mono HB2.out.size)).trans (hB3.mono (Nat.le_trans HB2.out.size HB.out.size)))
        have hrl1 : r.length ≤ 200 := by omega
        clear hRe hR3 hB3 hr3 HB hi hil g1
        go_wp2
        go_loopw [11] (fun v11 wr => ∃ (k : Nat), k ≤ es.length ∧ v11 = .int .i64 k ∧ w3 = wr) (fun v11 _ => es.length - (intOf v11).toNat)
        case atStart => exact ⟨0, Nat.zero_le _, rfl, rfl⟩
        case round =>
          obtain ⟨k, hk, rfl, hw⟩ := hrel
          subst hw
          by_cases hkl : k < es.length
          · have g5 : decide ((k : Int) < (es.length : Int)) = true := decide_eq_true (by omega)
            have g6 : (0 : Int) ≤ (k : Int) := by omega
            have g7 : (k : Int) < (es.length : Int) := by omega
            have g8 : (k : Int) ≤ 200 := by omega
            obtain ⟨ad, e1, x0, x1⟩ := edge_cells (HE.out w3 HB3.out).read hkl
            have HN := Aside0.mk (reach_next HRe.out (List.getElem_mem hkl))
            subst e1
            generalize es[k].1 = p at *
            generalize es[k].2 = q at *
            have nq := has_calls a3 c3 r q w3 C3.out (by omega)
            have np := has_calls a3 c3 r p w3 C3.out (by omega)
            by_cases hpa : p = a
            · have d5 : (p == a) = true := beq_iff_eq.2 hpa
              rw [decide_eq_true (HN.out (.inl hpa))] at nq
              clear hpa np
              go_wp2_with fail
              refine nq.mono ?_
              clear nq
              rintro e w4 ⟨rfl, hw4⟩
              rw [hw4]
              clear hw4
              go_wp2
              go_roundw
              case measure => simp [intOf]; omega
              case rel => exact ⟨k + 1, by omega, by go_num, by trivial⟩
            · have d5 : (p == a) = false := beq_eq_false_iff_ne.2 hpa
              clear hpa
              by_cases hpr : p ∈ r
              · rw [decide_eq_true hpr] at np
                rw [decide_eq_true (HN.out (.inr hpr))] at nq
                clear hpr
                go_wp2_with fail
                refine np.mono ?_
                clear np
                rintro e w4 ⟨rfl, hw4⟩
                rw [hw4]
                clear hw4
                go_wp2_with fail
                refine nq.mono ?_
                clear nq
                rintro e w4 ⟨rfl, hw4⟩
                rw [hw4]
                clear hw4
                go_wp2
                go_roundw
                case measure => simp [intOf]; omega
                case rel => exact ⟨k + 1, by omega, by go_num, by trivial⟩
              · rw [decide_eq_false hpr] at np
                clear hpr nq
                go_wp2_with fail
                refine np.mono ?_
                clear np
                rintro e w4 ⟨rfl, hw4⟩
                rw [hw4]
                clear hw4
                go_wp2
                go_roundw
                case measure => simp [intOf]; omega
                case rel => exact ⟨k + 1, by omega, by go_num, by trivial⟩
          · have g5 : decide ((k : Int) < (es.length : Int)) = false := decide_eq_false (by omega)
            go_wp2
            go_loopw [12, 13, 14] (fun v12 v13 v14 wr => ∃ (i : Nat), i ≤ r.length ∧ v12 = .int .i64 i ∧ Aside0 (Below w3.heap.size w3 wr)) (fun v12 _ _ _ => r.length - (intOf v12).toNat)
            case atStart => exact ⟨0, Nat.zero_le _, rfl, ⟨Below.refl _ _⟩⟩
            case round =>
              clear hk hkl g5
              obtain ⟨i, hi, rfl, HB⟩ := hrel
              by_cases hil : i < r.length
              · have g1 : decide ((i : Int) < (r.length : Int)) = true := decide_eq_true (by omega)
                have g2 : (0 : Int) ≤ (i : Int) := by omega
                have g3 : (i : Int) < (r.length : Int) := by omega
                have g4 : (i : Int) ≤ 200 := by omega
                have HXM := Aside0.mk (show r[i] ∈ r from List.getElem_mem hil)
                obtain ⟨x, hx⟩ : ∃ x, r[i] = x := ⟨_, rfl⟩
                rw [hx] at HXM
                obtain ⟨al, e1, y0⟩ := int_C C3.out hil
                rw [hx] at y0
                subst e1
                clear hx
                have Y0 := Aside0.mk y0
                clear y0
                go_wp2
                go_loopw [13, 14] (fun v13 v14 wr => ∃ (k : Nat) (b : Bool), k ≤ es.length ∧ v13 = .bool b ∧ v14 = .int .i64 k ∧ Aside0 (b = (es.take k).any (inR r a x)) ∧ Aside0 (Below w3.heap.size w3 wr)) (fun _ v14 _ => es.length - (intOf v14).toNat)
                case atStart => exact ⟨0, false, Nat.zero_le _, rfl, rfl, ⟨by simp⟩, HB⟩
                case round =>
                  clear HB
                  obtain ⟨k, b, hk, rfl, rfl, HO, HB⟩ := hrel
                  by_cases hkl : k < es.length
                  · have g5 : decide ((k : Int) < (es.length : Int)) = true := decide_eq_true (by omega)
                    have g6 : (0 : Int) ≤ (k : Int) := by omega
                    have g7 : (k : Int) < (es.length : Int) := by omega
                    have g8 : (k : Int) ≤ 200 := by omega
                    obtain ⟨ad, e1, x0, x1⟩ := edge_cells (HE.out wr (HB3.out.trans (HB.out.mono HB3.out.size))).read hkl
                    have HO2 := Aside0.mk (show (b || (es[k].2 == x && (es[k].1 == a || (!(es[k].1 == x) && decide (es[k].1 ∈ r))))) = (es.take (k + 1)).any (inR r a x) from by rw [any_next hkl, HO.out]; rfl)
                    clear HO
                    subst e1
                    generalize es[k].1 = p at *
                    generalize es[k].2 = q at *
                    have y0 := (HB.out.cell (p := al.add i) (World.block_lt_of_cell? w3 _ Y0.out)).trans Y0.out
                    have np := Aside0.mk (fun (W : World) (hb : Below wr.heap.size wr W) => has_calls _ c3 r p W (Kd.C_below C3.out (HB.out.trans (hb.mono HB.out.size))) (by omega))
                    generalize decide (p ∈ r) = dp at *
                    go_upto_region 28 with (fail)
                    cases b with
                    | true =>
                      go_quiet (fail)
                      go_wp2
                      go_roundw
                      case measure => simp [intOf]; omega
                      case rel => exact ⟨k + 1, _, by omega, rfl, by go_num, ⟨by rw [← HO2.out]; first | rfl | (simp [*]; done)⟩, ⟨HB.out.trans (((Drawn0.mk ⟨_, rfl⟩ : Drawn0 wr _).below).mono HB.out.size)⟩⟩
                    | false =>
                      by_cases hqx : q = x
                      · have d5 : (q == x) = true := beq_iff_eq.2 hqx
                        clear hqx
                        by_cases hpa : p = a
                        · have d6 : (p == a) = true := beq_iff_eq.2 hpa
                          clear hpa
                          go_quiet (fail)
                          go_wp2
                          go_roundw
                          case measure => simp [intOf]; omega
                          case rel => exact ⟨k + 1, _, by omega, rfl, by go_num, ⟨by rw [← HO2.out]; first | rfl | (simp [*]; done)⟩, ⟨HB.out.trans (((Drawn0.mk ⟨_, rfl⟩ : Drawn0 wr _).below).mono HB.out.size)⟩⟩
                        · have d6 : (p == a) = false := beq_eq_false_iff_ne.2 hpa
                          clear hpa
                          by_cases hpx : p = x
                          · have d7 : (p == x) = true := beq_iff_eq.2 hpx
                            have d8 : (p != x) = false := by simp [bne, d7]
                            have d9 : (!decide (p = x)) = false := by rw [decide_eq_true hpx]; rfl
                            clear hpx
                            go_quiet (fail)
                            go_wp2
                            go_roundw
                            case measure => simp [intOf]; omega
                            case rel => exact ⟨k + 1, _, by omega, rfl, by go_num, ⟨by rw [← HO2.out]; first | rfl | (simp [*]; done)⟩, ⟨HB.out.trans (((Drawn0.mk ⟨_, rfl⟩ : Drawn0 wr _).below).mono HB.out.size)⟩⟩
                          · have d7 : (p == x) = false := beq_eq_false_iff_ne.2 hpx
                            have d8 : (p != x) = true := by simp [bne, d7]
                            have d9 : (!decide (p = x)) = true := by rw [decide_eq_false hpx]; rfl
                            clear hpx
                            go_quiet ((go_at_call 21; exact Calls.quiet_of_same (np.out _ (Drawn0.mk ⟨_, rfl⟩ : Drawn0 wr _).below)))
                            go_wp2
                            go_roundw
                            case measure => simp [intOf]; omega
                            case rel => exact ⟨k + 1, _, by omega, rfl, by go_num, ⟨by rw [← HO2.out]; first | rfl | (simp [*]; done)⟩, ⟨HB.out.trans (((Drawn0.mk ⟨_, rfl⟩ : Drawn0 wr _).below).mono HB.out.size)⟩⟩
                      · have d5 : (q == x) = false := beq_eq_false_iff_ne.2 hqx
                        clear hqx
                        go_quiet (fail)
                        go_wp2
                        go_roundw
                        case measure => simp [intOf]; omega
                        case rel => exact ⟨k + 1, _, by omega, rfl, by go_num, ⟨by rw [← HO2.out]; first | rfl | (simp [*]; done)⟩, ⟨HB.out.trans (((Drawn0.mk ⟨_, rfl⟩ : Drawn0 wr _).below).mono HB.out.size)⟩⟩
                  · have g5 : decide ((k : Int) < (es.length : Int)) = false := decide_eq_false (by omega)
                    obtain rfl : k = es.length := by omega
                    have hb := HO.out
                    rw [List.take_length, inR_any HRe.out HXM.out] at hb
                    subst hb
                    go_wp2
                    go_roundw
                    case measure => simp [intOf]; omega
                    case rel => exact ⟨i + 1, by omega, by go_num, HB⟩
              · have g1 : decide ((i : Int) < (r.length : Int)) = false := decide_eq_false (by omega)
                go_wp2
                go_ret
                exact ⟨rfl, HB3.out.trans (HB.out.mono HB3.out.size)⟩
end Go.Proofs.Yteejeakbagbcoaa

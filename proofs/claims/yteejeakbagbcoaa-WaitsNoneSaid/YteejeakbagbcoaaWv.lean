import Derived.Test.YteejeakbagbcoaaWt
import Derived.Deep.QuietTactic
import Derived.BigQuiet
/-! WaitsNone, walked. -/
namespace Go.Proofs.Yteejeakbagbcoaa
open Go.RowKit Go.Maps Go.MapKept Go.WideMaps
open Go.Proofs.YteejeakbagbcoaaW.PrintWords Go.Proofs.YteejeakbagbcoaaW.PrintLast Go.Proofs.YteejeakbagbcoaaW.PrintMore
set_option linter.unusedVariables false
set_option linter.unusedSimpArgs false

/-- The waits for greater numbers. -/
def upOf (es : Edges) : Edges := es.filter fun e => decide (e.1 < e.2)
theorem up_hit (es : Edges) {x y : Int} (h : x < y) : upOf (es ++ [(x, y)]) = upOf es ++ [(x, y)] := by simp [upOf, List.filter_append, h]
theorem up_miss (es : Edges) {x y : Int} (h : ¬ x < y) : upOf (es ++ [(x, y)]) = upOf es := by simp [upOf, List.filter_append]; omega
theorem up_sub {es : Edges} : ∀ e ∈ upOf es, e ∈ es := fun e he => (List.mem_filter.1 he).1
theorem up_lt {es : Edges} : ∀ e ∈ upOf es, e.1 < e.2 := fun e he => of_decide_eq_true (List.mem_filter.1 he).2
theorem up_len (es : Edges) : (upOf es).length ≤ es.length := List.length_filter_le _ _
theorem path_up {l : Edges} (hl : ∀ e ∈ l, e.1 < e.2) {x y : Int} (h : Path l x y) : x < y :=
  Path.rec' (S := fun y => x < y) (fun k hk => hl _ hk) (fun n k _ hn hk => by have := hl _ hk; simp only at this; omega) h
theorem any_up {l : Edges} (hl : ∀ e ∈ l, e.1 < e.2) {m : List Int} (h : IsAny l m) : m = [] := by
  cases m with
  | nil => rfl
  | cons x m => exact absurd (path_up hl ((h.2 x).1 List.mem_cons_self)) (by omega)
theorem circle_up {l : Edges} (hl : ∀ e ∈ l, e.1 < e.2) {a : Int} {m : List Int} (h : IsCircle l a m) : m = [] := by
  cases m with
  | nil => rfl
  | cons x m =>
    obtain ⟨p1, p2⟩ := (h.2 x).1 List.mem_cons_self
    have := path_up hl p1
    have := path_up hl p2
    omega
theorem reach_some {l : Edges} {r : List Int} {p q : Int} (h : IsReach l p r) (he : (p, q) ∈ l) : r ≠ [] := fun e => by
  have := (h.2 q).2 (Path.one he)
  rw [e] at this
  cases this
theorem rem_in (a : Int) (n : Nat) (hn : 0 < n) (hs : n ≤ 200) : ∃ j : Nat, wrap64 ((IntKind.u64.wrap a).tmod (n : Int)) = (j : Int) ∧ j < n := by
  have h0 : 0 ≤ IntKind.u64.wrap a := by rw [IntKind.wrap_u64]; omega
  have h1 : 0 ≤ (IntKind.u64.wrap a).tmod (n : Int) := Int.tmod_nonneg _ h0
  have h2 : (IntKind.u64.wrap a).tmod (n : Int) < n := Int.tmod_lt_of_pos _ (by omega)
  exact ⟨((IntKind.u64.wrap a).tmod (n : Int)).toNat, by unfold wrap64; omega, by omega⟩
theorem circle_closed {l : Edges} {p z : Int} {c : List Int} (hz : Path l p z) (h : IsCircle (l ++ [(z, p)]) p c) : p ∈ c ∧ z ∈ c := by
  have h1 : Path (l ++ [(z, p)]) p z := hz.mono (fun e he => List.mem_append_left _ he)
  have h2 : Path (l ++ [(z, p)]) z p := Path.one (List.mem_append_right _ List.mem_cons_self)
  exact ⟨(h.2 p).2 ⟨h1.trans h2, h1.trans h2⟩, (h.2 z).2 ⟨h1, h2⟩⟩

set_option maxRecDepth 100000 in
set_option maxHeartbeats 2000000 in
theorem none_law (A0 : Option Addr) (c0 : Nat) (es : Edges) (a : Int) (w : World) (hr : Kd.C kEdge w A0 es.length es) (hc : es.length ≤ c0) (hok : ∀ e ∈ es, okI e.1 ∧ okI e.2) (ha : okI a) (hl : es.length < 4611686018427387904) :
    Calls Try.prog 8 #[.slice A0 es.length c0, .int .i64 a] w fun e w' => e = .returned (.bool true) ∧ Below w.heap.size w w' := by
  have HR := Aside0.mk hr
  have HC := Aside0.mk hc
  have HOK := Aside0.mk hok
  have HA := Aside0.mk ha
  clear hr hc hok ha
  go_enter Try.func8, Try.ntmps8
  go_wp2_with fail
  refine (works_calls w).mono ?_
  rintro e w1 ⟨rfl, hB⟩
  have HB1 := Aside0.mk hB
  clear hB
  by_cases hbig : 200 < es.length
  · have d1 : decide ((200 : Int) < (es.length : Int)) = true := decide_eq_true (by omega)
    have d2 : (200 : Int) < (es.length : Int) := by omega
    go_wp2_with fail
    refine (works_calls w1).mono ?_
    rintro e w2 ⟨rfl, hB⟩
    have HB2 := Aside0.mk (HB1.out.trans (hB.mono HB1.out.size))
    clear hB
    go_wp2
    go_ret
    exact ⟨rfl, HB2.out⟩
  · have d1 : decide ((200 : Int) < (es.length : Int)) = false := decide_eq_false (by omega)
    have d2 : ¬ (200 : Int) < (es.length : Int) := by omega
    have HE : ∀ W, Below w.heap.size w W → Edg W A0 c0 es := fun W hB => ⟨Kd.C_below HR.out hB, HC.out, HOK.out, by omega⟩
    replace HE := Aside0.mk HE
    have hes : es.length ≤ 200 := by omega
    clear hbig
    go_wp2
    go_loopw [5, 6] (fun v5 v6 wr => ∃ (k : Nat), k ≤ es.length ∧ v6 = .int .i64 k ∧ Aside0 (Kd.R kEdge 22 wr w.heap.size (fun _ => True) v5 (upOf (es.take k))) ∧ Aside0 (Below w.heap.size w wr)) (fun _ v6 _ => es.length - (intOf v6).toNat)
    case atStart => exact ⟨0, Nat.zero_le _, rfl, ⟨Kd.R_nil _ _ _ _ _⟩, HB1⟩
    case round =>
      obtain ⟨k, hk, rfl, HO, HB⟩ := hrel
      obtain ⟨va, vc, e5⟩ := Kd.R_slice HO.out
      subst e5
      by_cases hlt : k < es.length
      · have b1 : decide ((k : Int) < (es.length : Int)) = true := decide_eq_true (by omega)
        have p0 : (0 : Int) ≤ (k : Int) := by omega
        have p1 : (k : Int) < (es.length : Int) := by omega
        have p2 : (k : Int) ≤ 200 := by omega
        obtain ⟨ad, e1, x0, x1⟩ := edge_cells (Kd.C_below HR.out HB.out) hlt
        subst e1
        have htk : es.take (k + 1) = es.take k ++ [(es[k].1, es[k].2)] := by rw [List.take_add_one, List.getElem?_eq_getElem hlt]; rfl
        have hln : (upOf (es.take k)).length ≤ 200 := by have := up_len (es.take k); rw [List.length_take] at this; omega
        generalize es[k].1 = x at x0 htk
        generalize es[k].2 = y at x1 htk
        have hsz := HB.out.size
        go_upto_region 7 with (fail)
        by_cases hxa : x < y
        · have HTK := Aside0.mk (show upOf (es.take (k + 1)) = upOf (es.take k) ++ [(x, y)] from by rw [htk, up_hit _ hxa])
          have d5 : decide (x < y) = true := decide_eq_true hxa
          clear htk
          go_quiet (fail)
          have hD : Below wr.heap.size wr (wr.drewN nq) := (Drawn0.mk ⟨_, rfl⟩ : Drawn0 wr _).below
          have z0 := (hD.cell (p := ad.add (k * 2)) (World.block_lt_of_cell? wr _ x0)).trans x0
          have z1 := (hD.cell (p := ⟨(ad.add (k * 2)).block, (ad.add (k * 2)).off + 1, none⟩) (World.block_lt_of_cell? wr _ x1)).trans x1
          have HO4 := Aside0.mk (Kd.R_below HO.out hD)
          have HB4 := Aside0.mk (HB.out.trans (hD.mono HB.out.size))
          generalize wr.drewN nq = w4 at *
          have hsz := HB4.out.size
          clear x0 x1 HO HB hD
          go_wp2_with (at_builtin; go_loud (refine Kd.R_append kEdge (w0 := w) w.heap.size rfl (.tmp 36) (.tmp 41) 23 22 (.agg #[.int .i64 0, .int .i64 0]) 16 rfl Try.underlying23 Try.infoEdge rfl (by decide) (by omega) (.slice va (upOf (es.take k)).length vc) (upOf (es.take k)) (x, y) [.int .i64 x, .int .i64 y] (fun _ => True) (fun _ => False) rfl rfl (kEdge_mkM _ _ _ _) (fun _ h => h.elim) (fun _ _ => trivial) HO4.out HB4.out hsz (by omega) ?_); intro v1 w5 ho hb hg hat)
          have HO5 := Aside0.mk (HTK.out ▸ ho)
          have HB5 := Aside0.mk hb
          clear ho hb hg hat
          go_wp2
          go_roundw
          case measure => simp [intOf]; omega
          case rel => exact ⟨k + 1, by omega, by go_num, HO5, HB5⟩
        · have HO2 := Aside0.mk (show Kd.R kEdge 22 wr w.heap.size (fun _ => True) (.slice va (upOf (es.take k)).length vc) (upOf (es.take (k + 1))) from by rw [htk, up_miss _ hxa]; exact HO.out)
          have d5 : decide (x < y) = false := decide_eq_false hxa
          clear htk
          go_quiet (fail)
          have hD : Below wr.heap.size wr (wr.drewN nq) := (Drawn0.mk ⟨_, rfl⟩ : Drawn0 wr _).below
          have HO4 := Aside0.mk (Kd.R_below HO2.out hD)
          have HB4 := Aside0.mk (HB.out.trans (hD.mono HB.out.size))
          generalize wr.drewN nq = w4 at *
          clear hD
          go_wp2
          go_roundw
          case measure => simp [intOf]; omega
          case rel => exact ⟨k + 1, by omega, by go_num, HO4, HB4⟩
      · have b1 : decide ((k : Int) < (es.length : Int)) = false := decide_eq_false (by omega)
        obtain rfl : k = es.length := by omega
        rw [List.take_length] at HO
        rw [List.take_length]
        obtain ⟨l, hle⟩ : ∃ l, upOf es = l := ⟨_, rfl⟩
        have hul := up_len es
        have HUP := Aside0.mk (up_lt (es := es))
        have HOKL := Aside0.mk (fun e he => HOK.out e (up_sub e he) : ∀ e ∈ upOf es, okI e.1 ∧ okI e.2)
        rw [hle] at HO HUP HOKL hul
        rw [hle]
        clear hle
        obtain ⟨va', vc', e6, hvc, hvr⟩ := Kd.R_reads HO.out
        obtain ⟨rfl, rfl⟩ : va = va' ∧ vc = vc' := by
          injection e6 with h1 _ h3
          exact ⟨h1, h3⟩
        have hll : l.length ≤ 200 := by omega
        have HEL : ∀ W, Below wr.heap.size wr W → Edg W va vc l := fun W hB => ⟨Kd.C_below hvr hB, hvc, HOKL.out, by omega⟩
        replace HEL := Aside0.mk HEL
        have hsz := Aside0.mk HB.out.size
        clear hvc hvr e6
        have n := any_calls va vc l wr (HEL.out wr (Below.refl _ _))
        go_wp2_with fail
        refine n.mono ?_
        clear n
        rintro e w2 ⟨v2, m, rfl, hM, hR2, hB2⟩
        obtain rfl := any_up HUP.out hM
        obtain ⟨a2, c2, rfl, _, hr2⟩ := Kd.R_reads hR2
        have HB2 := Aside0.mk hB2
        clear hM hR2 hr2 hB2
        by_cases hl0 : l.length = 0
        · obtain rfl := List.length_eq_zero_iff.1 hl0
          clear hl0
          go_wp2
          go_ret
          exact ⟨rfl, HB.out.trans (HB2.out.mono HB.out.size)⟩
        · have k1 : (l.length == 0) = false := beq_eq_false_iff_ne.2 hl0
          have k2 : ((l.length : Int) == 0) = false := beq_eq_false_iff_ne.2 (by omega)
          obtain ⟨j, hj, hjl⟩ := rem_in a l.length (by omega) hll
          have g1 : (0 : Int) ≤ (j : Int) := by omega
          have g2 : (j : Int) < (l.length : Int) := by omega
          obtain ⟨ad, e1, x0, x1⟩ := edge_cells (HEL.out w2 HB2.out).read hjl
          have HOJ := Aside0.mk (HOKL.out l[j] (List.getElem_mem hjl))
          have HMJ := Aside0.mk (show (l[j].1, l[j].2) ∈ l from List.getElem_mem hjl)
          have HLTJ := Aside0.mk (HUP.out l[j] (List.getElem_mem hjl))
          generalize l[j].1 = p at *
          generalize l[j].2 = q at *
          subst e1
          have n := reach_calls (some ad) vc l p w2 (HEL.out w2 HB2.out) HOJ.out.1
          go_wp2_with fail
          refine n.mono ?_
          clear n
          rintro e w3 ⟨v3, r, rfl, hRe, hR3, hB3⟩
          obtain ⟨a3, c3, rfl, _, hr3⟩ := Kd.R_reads hR3
          have hrl := short_reach hRe
          have hr0 : 0 < r.length := List.length_pos_iff.2 (reach_some hRe HMJ.out)
          have HRe := Aside0.mk hRe
          have HB3 := Aside0.mk (HB2.out.trans (hB3.mono HB2.out.size))
          obtain ⟨ar, e1, y0⟩ := int_C hr3 hr0
          subst e1
          obtain ⟨ar', e2, y1⟩ := int_C hr3 (show r.length - 1 < r.length by omega)
          obtain rfl : ar = ar' := Option.some.inj e2
          have y0 : w3.cell? ar = some (.int .i64 r[0]) := y0
          have HP0 := Aside0.mk ((hRe.2 r[0]).1 (List.getElem_mem hr0))
          have HPZ := Aside0.mk ((hRe.2 r[r.length - 1]).1 (List.getElem_mem (show r.length - 1 < r.length by omega)))
          clear e2
          obtain ⟨t, ht⟩ : ∃ t, r.length - 1 = t := ⟨_, rfl⟩
          have h3 : decide (r[0] ≤ p) = false := decide_eq_false (by have := path_up HUP.out HP0.out; omega)
          have h3' : ¬ r[0] ≤ p := by have := path_up HUP.out HP0.out; omega
          simp only [ht] at y1 HPZ
          generalize r[0] = x at *
          generalize r[t] = z at *
          have h4 : (r.length == 0) = false := beq_eq_false_iff_ne.2 (by omega)
          have h5 : ((r.length : Int) == 0) = false := beq_eq_false_iff_ne.2 (by omega)
          have h6 : (r.length : Int) - 1 = (t : Int) := by omega
          have h7 : (0 : Int) ≤ (t : Int) := by omega
          have h8 : (t : Int) < (r.length : Int) := by omega
          have h9 : IntKind.i64.wrap (t : Int) = (t : Int) := by rw [IntKind.wrap_i64]; omega
          have h10 : (0 : Int) < (r.length : Int) := by omega
          have hrl1 : r.length ≤ 200 := by omega
          have Y1 := Aside0.mk y1
          have n := circle_calls (some ad) vc l p w3 (HEL.out w3 HB3.out) HOJ.out.1
          clear hRe hR3 hB3 hr3 ht y1 x0 x1
          go_wp2_with fail
          refine n.mono ?_
          clear n
          rintro e w4 ⟨v4, m, rfl, hM, hR4, hB4⟩
          obtain rfl := circle_up HUP.out hM
          obtain ⟨a4, c4, rfl, _, hr4⟩ := Kd.R_reads hR4
          have HB4 := Aside0.mk (HB3.out.trans (hB4.mono HB3.out.size))
          have y1 := (hB4.cell (p := ar.add t) (World.block_lt_of_cell? w3 _ Y1.out)).trans Y1.out
          have HO4 := Aside0.mk (Kd.R_below HO.out HB4.out)
          have HBW4 := Aside0.mk (HB.out.trans (HB4.out.mono HB.out.size))
          have hsz4 := HBW4.out.size
          clear hM hR4 hr4 hB4 y0 h3 h3' h4 h5
          go_wp2_with (at_builtin; go_loud (refine Kd.R_append kEdge (w0 := w) w.heap.size rfl (.tmp 87) (.tmp 91) 23 22 (.agg #[.int .i64 0, .int .i64 0]) 16 rfl Try.underlying23 Try.infoEdge rfl (by decide) (by omega) (.slice (some ad) l.length vc) l (z, p) [.int .i64 z, .int .i64 p] (fun _ => True) (fun _ => False) rfl rfl (kEdge_mkM _ _ _ _) (fun _ h => h.elim) (fun _ _ => trivial) HO4.out HBW4.out hsz4 (by omega) ?_); intro v5 w5 ho hb hg hat; obtain ⟨a5, c5, e5, hvc5, hvr5⟩ := Kd.R_reads ho; subst e5; replace hvc5 := Aside0.mk hvc5; replace hvr5 := Aside0.mk hvr5; replace hb := Aside0.mk hb; clear ho hg hat)
          have hbl : (l ++ [(z, p)]).length = l.length + 1 := by simp
          have hzok := path_ok HOKL.out HPZ.out
          have HE5 : Edg w5 a5 c5 (l ++ [(z, p)]) := ⟨hvr5.out, hvc5.out, fun e he => by
            rcases List.mem_append.1 he with he | he
            · exact HOKL.out e he
            · obtain rfl := List.mem_singleton.1 he
              exact ⟨hzok, HOJ.out.1⟩, by rw [hbl]; omega⟩
          have n := circle_calls a5 c5 (l ++ [(z, p)]) p w5 HE5 HOJ.out.1
          rw [hbl] at n
          have HBL := Aside0.mk hbl
          clear HE5 hbl hzok
          go_wp2_with fail
          refine n.mono ?_
          clear n
          rintro e w6 ⟨v6, c, rfl, hC, hR6, hB6⟩
          obtain ⟨a6, c6, rfl, _, hr6⟩ := Kd.R_reads hR6
          have hcl := short_circle hC
          rw [HBL.out] at hcl
          obtain ⟨m1, m2⟩ := circle_closed HPZ.out hC
          have n1 := has_calls a6 c6 c p w6 hr6 (by omega)
          rw [decide_eq_true m1] at n1
          have n2 := has_calls a6 c6 c z w6 hr6 (by omega)
          rw [decide_eq_true m2] at n2
          have HB6 := Aside0.mk (hb.out.trans (hB6.mono hb.out.size))
          clear hC hR6 hB6 hr6 m1 m2
          go_wp2_with fail
          refine n1.mono ?_
          clear n1
          rintro e w7 ⟨rfl, hw7⟩
          rw [hw7]
          clear hw7
          go_wp2_with fail
          refine n2.mono ?_
          clear n2
          rintro e w8 ⟨rfl, hw8⟩
          rw [hw8]
          clear hw8
          go_wp2
          go_ret
          exact ⟨rfl, HB6.out⟩
end Go.Proofs.Yteejeakbagbcoaa

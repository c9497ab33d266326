import Derived.Test.YteejeakbagbcoaaWyr
import Derived.Deep.RegionHeld3
/-! The document's Circle and Any, walked. -/
namespace Go.Proofs.Yteejeakbagbcoaa
open Go.RowKit Go.Maps Go.MapKept Go.WideMaps
open Go.Proofs.Yteejeakbagbcoaa.PWaitsTell
open Go.Proofs.YteejeakbagbcoaaW.PrintWords Go.Proofs.YteejeakbagbcoaaW.PrintLast Go.Proofs.YteejeakbagbcoaaW.PrintMore
set_option linter.unusedVariables false
set_option linter.unusedSimpArgs false

def backOf (es : Edges) (a : Int) (l : List Int) : List Int := l.filter fun x => decide (a ∈ reachL es x)
def selfOf (es : Edges) (l : Edges) : List Int := (l.map (·.1)).filter fun x => decide (x ∈ reachL es x)
theorem back_hit {es : Edges} {a x : Int} {l : List Int} (h : Path es x a) : backOf es a (l ++ [x]) = backOf es a l ++ [x] := by
  have := (mem_reachL es x a).2 h
  simp [backOf, List.filter_append, this]
theorem back_miss {es : Edges} {a x : Int} {l : List Int} (h : ¬ Path es x a) : backOf es a (l ++ [x]) = backOf es a l := by
  have : a ∉ reachL es x := fun e => h ((mem_reachL es x a).1 e)
  simp [backOf, List.filter_append, this]
theorem back_few (es : Edges) (a : Int) (l : List Int) : (backOf es a l).length ≤ l.length := List.length_filter_le _ _
theorem self_hit {es : Edges} {x y : Int} {l : Edges} (h : Path es x x) : selfOf es (l ++ [(x, y)]) = selfOf es l ++ [x] := by
  have := (mem_reachL es x x).2 h
  simp [selfOf, List.filter_append, this]
theorem self_miss {es : Edges} {x y : Int} {l : Edges} (h : ¬ Path es x x) : selfOf es (l ++ [(x, y)]) = selfOf es l := by
  have : x ∉ reachL es x := fun e => h ((mem_reachL es x x).1 e)
  simp [selfOf, List.filter_append, this]
theorem self_few (es : Edges) (l : Edges) : (selfOf es l).length ≤ l.length := by
  have := List.length_filter_le (fun x => decide (x ∈ reachL es x)) (l.map (·.1))
  rw [List.length_map] at this
  exact this
theorem back_is {es : Edges} {a : Int} {l : List Int} (h : IsReach es a l) : IsCircle es a (backOf es a l) :=
  ⟨h.1.sublist List.filter_sublist, fun x => by
    unfold backOf
    rw [List.mem_filter, h.2]
    simp only [decide_eq_true_eq, mem_reachL]⟩
theorem self_is {es : Edges} {r : List Int} (h : RiseOf (fun x => x ∈ selfOf es es) r) : IsAny es r :=
  ⟨h.1, fun x => by
    refine (h.2 x).trans ?_
    show x ∈ selfOf es es ↔ _
    unfold selfOf
    rw [List.mem_filter]
    simp only [decide_eq_true_eq, mem_reachL]
    constructor
    · exact fun h => h.2
    · intro hp
      obtain ⟨c, hc⟩ := hp.head
      exact ⟨List.mem_map.2 ⟨_, hc, rfl⟩, hp⟩⟩

set_option maxRecDepth 100000 in
set_option maxHeartbeats 2000000 in
theorem circle2_calls (A0 : Option Addr) (c0 : Nat) (es : Edges) (a : Int) (w : World) (hE : Edg w A0 c0 es) (ha : okI a) :
    Calls Try.prog 17 #[.slice A0 es.length c0, .int .i64 a] w fun e w' => ∃ v l, e = .returned v ∧ IsCircle es a l ∧ Kd.R kInt 3 w' w.heap.size (fun _ => True) v l ∧ Below w.heap.size w w' := by
  have HE := Aside0.mk hE
  have HA := Aside0.mk ha
  have hes := hE.len
  have n := reach2_calls A0 c0 es a w hE ha
  clear hE ha
  go_enter Try.func17, Try.ntmps17
  go_wp2_with fail
  refine n.mono ?_
  clear n
  rintro e w1 ⟨v1, l, rfl, hRe, hR1, hB1⟩
  obtain ⟨a1, c1, rfl, _, hr1⟩ := Kd.R_reads hR1
  have hll := short_reach hRe
  have HRe := Aside0.mk hRe
  have C1 := Aside0.mk hr1
  have HB1 := Aside0.mk hB1
  clear hRe hR1 hr1 hB1
  go_wp2
  go_loopw [5, 7] (fun v5 v7 wr => ∃ (i : Nat), i ≤ l.length ∧ v7 = .int .i64 i ∧ Aside0 (Kd.R kInt 3 wr w1.heap.size (fun _ => True) v5 (backOf es a (l.take i))) ∧ Aside0 (Below w1.heap.size w1 wr)) (fun _ v7 _ => l.length - (intOf v7).toNat)
  case atStart => exact ⟨0, Nat.zero_le _, rfl, ⟨Kd.R_nil _ _ _ _ _⟩, ⟨Below.refl _ _⟩⟩
  case round =>
    obtain ⟨i, hi, rfl, HO, HB⟩ := hrel
    obtain ⟨va, vc, e5⟩ := Kd.R_slice HO.out
    subst e5
    by_cases hil : i < l.length
    · have g1 : decide ((i : Int) < (l.length : Int)) = true := decide_eq_true (by omega)
      have g2 : (0 : Int) ≤ (i : Int) := by omega
      have g3 : (i : Int) < (l.length : Int) := by omega
      have g4 : (i : Int) ≤ 1000 := by omega
      obtain ⟨ad, e1, y0⟩ := int_C (Kd.C_below C1.out HB.out) hil
      have HW := Aside0.mk (HB1.out.trans (HB.out.mono HB1.out.size))
      have hxok : okI l[i] := by
        obtain ⟨c, hc, _⟩ := ((HRe.out.2 l[i]).1 (List.getElem_mem hil)).last
        exact (HE.out.ok _ hc).2
      have hnx : l.take (i + 1) = l.take i ++ [l[i]] := by rw [List.take_add_one, List.getElem?_eq_getElem hil]; rfl
      have hfew := back_few es a (l.take i)
      rw [List.length_take] at hfew
      have Y0 := Aside0.mk y0
      generalize l[i] = x at *
      subst e1
      have n := reach2_calls A0 c0 es x wr (HE.out.below HW.out) hxok
      have HNX := Aside0.mk hnx
      clear hnx hxok
      go_wp2_with fail
      refine n.mono ?_
      clear n
      rintro e w2 ⟨v2, r, rfl, hRx, hR2, hB2⟩
      obtain ⟨a2, c2, rfl, _, hr2⟩ := Kd.R_reads hR2
      have hrl := short_reach hRx
      have n := has2_calls a2 c2 r a w2 hr2 (by omega)
      have HO2 := Aside0.mk (Kd.R_below HO.out hB2)
      have HB2 := Aside0.mk (HB.out.trans (hB2.mono HB.out.size))
      have y1 := (hB2.cell (p := ad.add i) (World.block_lt_of_cell? wr _ Y0.out)).trans Y0.out
      have hsz := HB2.out.size
      have hll8 : ((backOf es a (l.take i)).length + 1) * 8 ≤ 140737488355328 := by omega
      have HRx := Aside0.mk hRx
      clear hR2 hB2 hr2 y0 HO HB hRx
      by_cases har : a ∈ r
      · have HM := Aside0.mk (show backOf es a (l.take (i + 1)) = backOf es a (l.take i) ++ [x] from by rw [HNX.out, back_hit ((HRx.out.2 a).1 har)])
        rw [decide_eq_true har] at n
        clear har
        go_wp2_with fail
        refine n.mono ?_
        clear n
        rintro e w3 ⟨rfl, hw3⟩
        rw [hw3]
        clear hw3
        go_wp2_with (at_builtin; go_loud (refine Kd.R_append kInt (w0 := w1) w1.heap.size rfl (.tmp 25) (.tmp 30) 26 3 (.int .i64 0) 8 rfl Try.underlying26 Try.infoInt rfl (by decide) (by omega) (.slice va (backOf es a (l.take i)).length vc) (backOf es a (l.take i)) x [.int .i64 x] (fun _ => True) (fun _ => False) rfl rfl rfl (fun _ h => h.elim) (fun _ _ => trivial) HO2.out HB2.out hsz hll8 ?_); intro v1 w5 ho hb hg hat)
        have HO5 := Aside0.mk (HM.out ▸ ho)
        have HB5 := Aside0.mk hb
        clear ho hb hg hat
        go_wp2
        go_roundw
        case measure => simp [intOf]; omega
        case rel => exact ⟨i + 1, by omega, by go_num, HO5, HB5⟩
      · have HM := Aside0.mk (show Kd.R kInt 3 w2 w1.heap.size (fun _ => True) (.slice va (backOf es a (l.take i)).length vc) (backOf es a (l.take (i + 1))) from by rw [HNX.out, back_miss (fun h => har ((HRx.out.2 a).2 h))]; exact HO2.out)
        rw [decide_eq_false har] at n
        clear har
        go_wp2_with fail
        refine n.mono ?_
        clear n
        rintro e w3 ⟨rfl, hw3⟩
        rw [hw3]
        clear hw3
        go_wp2
        go_roundw
        case measure => simp [intOf]; omega
        case rel => exact ⟨i + 1, by omega, by go_num, HM, HB2⟩
    · have g1 : decide ((i : Int) < (l.length : Int)) = false := decide_eq_false (by omega)
      rw [List.take_of_length_le (by omega)] at HO
      rw [List.take_of_length_le (by omega)]
      go_wp2
      go_ret
      exact ⟨_, _, rfl, back_is HRe.out, Kd.R_lower HO.out HB1.out.size, HB1.out.trans (HB.out.mono HB1.out.size)⟩

set_option maxRecDepth 100000 in
set_option maxHeartbeats 2000000 in
theorem any2_calls (A0 : Option Addr) (c0 : Nat) (es : Edges) (w : World) (hE : Edg w A0 c0 es) :
    Calls Try.prog 19 #[.slice A0 es.length c0] w fun e w' => ∃ v l, e = .returned v ∧ IsAny es l ∧ Kd.R kInt 3 w' w.heap.size (fun _ => True) v l ∧ Below w.heap.size w w' := by
  have HE := Aside0.mk hE
  have hes := hE.len
  clear hE
  go_enter Try.func19, Try.ntmps19
  go_wp2
  go_loopw [3, 4] (fun v3 v4 wr => ∃ (k : Nat), k ≤ es.length ∧ v4 = .int .i64 k ∧ Aside0 (Kd.R kInt 3 wr w.heap.size (fun _ => True) v3 (selfOf es (es.take k))) ∧ Aside0 (Below w.heap.size w wr)) (fun _ v4 _ => es.length - (intOf v4).toNat)
  case atStart => exact ⟨0, Nat.zero_le _, rfl, ⟨Kd.R_nil _ _ _ _ _⟩, ⟨Below.refl _ _⟩⟩
  case round =>
    obtain ⟨k, hk, rfl, HO, HB⟩ := hrel
    obtain ⟨va, vc, e5⟩ := Kd.R_slice HO.out
    subst e5
    by_cases hkl : k < es.length
    · have g1 : decide ((k : Int) < (es.length : Int)) = true := decide_eq_true (by omega)
      have g2 : (0 : Int) ≤ (k : Int) := by omega
      have g3 : (k : Int) < (es.length : Int) := by omega
      have g4 : (k : Int) ≤ 1000 := by omega
      obtain ⟨ad, e1, x0, x1⟩ := edge_cells (Kd.C_below HE.out.read HB.out) hkl
      have hxok := HE.out.ok es[k] (List.getElem_mem hkl)
      have hnx : es.take (k + 1) = es.take k ++ [(es[k].1, es[k].2)] := by rw [List.take_add_one, List.getElem?_eq_getElem hkl]; rfl
      have hfew := self_few es (es.take k)
      rw [List.length_take] at hfew
      generalize es[k].1 = x at *
      generalize es[k].2 = y at *
      subst e1
      have n := Aside0.mk (fun (W : World) (hb : Below wr.heap.size wr W) => reach2_calls _ c0 es x W (HE.out.below (HB.out.trans (hb.mono HB.out.size))) hxok.1)
      have HNX := Aside0.mk hnx
      have hll8 : ((selfOf es (es.take k)).length + 1) * 8 ≤ 140737488355328 := by omega
      clear hnx hxok
      go_upto_region 5 with (fail)
      go_region_held3 (fun w' => w'.cell? (ad.add (k * 2)) = some (.int .i64 x)) (go_keep) ((first | (go_at_call 18; refine (n.out _ (Below.refl _ _).drew).mono ?_; rintro e w2 ⟨v2, r, rfl, hRx, hR2, hB2⟩; replace hB2 : Below wr.heap.size wr w2 := ⟨hB2.os, hB2.tape, hB2.output, hB2.size, hB2.block⟩; obtain ⟨a2, c2, rfl, _, hr2⟩ := Kd.R_reads hR2; have hrl := short_reach hRx; have r0 := (hB2.cell (p := ad.add (k * 2)) (World.block_lt_of_cell? _ _ x0)).trans x0; have r1 := (hB2.cell (p := ⟨(ad.add (k * 2)).block, (ad.add (k * 2)).off + 1, none⟩) (World.block_lt_of_cell? _ _ x1)).trans x1; have nH := Aside0.mk (has2_calls a2 c2 r x w2 hr2 (by omega)); have HRx := Aside0.mk hRx; have HB2 := Aside0.mk hB2; clear hRx hR2 hB2 hr2) | (go_at_call 31; refine nH.out.mono ?_; rintro e w3 ⟨rfl, hw3⟩; rw [hw3])))
      have HO2 := Aside0.mk (Kd.R_below HO.out HB2.out)
      have HBW := Aside0.mk (HB.out.trans (HB2.out.mono HB.out.size))
      have hsz := HBW.out.size
      clear HO HB x0 x1
      by_cases har : x ∈ r
      · have HM := Aside0.mk (show selfOf es (es.take (k + 1)) = selfOf es (es.take k) ++ [x] from by rw [HNX.out, self_hit ((HRx.out.2 x).1 har)])
        rw [decide_eq_true har]
        clear har
        go_wp2_with (at_builtin; go_loud (refine Kd.R_append kInt (w0 := w) w.heap.size rfl (.tmp 24) (.tmp 30) 26 3 (.int .i64 0) 8 rfl Try.underlying26 Try.infoInt rfl (by decide) (by omega) (.slice va (selfOf es (es.take k)).length vc) (selfOf es (es.take k)) x [.int .i64 x] (fun _ => True) (fun _ => False) rfl rfl rfl (fun _ h => h.elim) (fun _ _ => trivial) HO2.out HBW.out hsz hll8 ?_); intro v1 w5 ho hb hg hat)
        have HO5 := Aside0.mk (HM.out ▸ ho)
        have HB5 := Aside0.mk hb
        clear ho hb hg hat
        go_wp2
        go_roundw
        case measure => simp [intOf]; omega
        case rel => exact ⟨k + 1, by omega, by go_num, HO5, HB5⟩
      · have HM := Aside0.mk (show Kd.R kInt 3 w2 w.heap.size (fun _ => True) (.slice va (selfOf es (es.take k)).length vc) (selfOf es (es.take (k + 1))) from by rw [HNX.out, self_miss (fun h => har ((HRx.out.2 x).2 h))]; exact HO2.out)
        rw [decide_eq_false har]
        clear har
        go_wp2
        go_roundw
        case measure => simp [intOf]; omega
        case rel => exact ⟨k + 1, by omega, by go_num, HM, HBW⟩
    · have g1 : decide ((k : Int) < (es.length : Int)) = false := decide_eq_false (by omega)
      rw [List.take_of_length_le (by omega)] at HO
      rw [List.take_of_length_le (by omega)]
      obtain ⟨va', vc', e6, hvc, hvr⟩ := Kd.R_reads HO.out
      obtain ⟨rfl, rfl⟩ : va = va' ∧ vc = vc' := by
        injection e6 with h1 _ h3
        exact ⟨h1, h3⟩
      have hfew := self_few es es
      have n1 := rise2_calls va vc _ wr hvr hvc (by omega)
      clear hvc hvr e6
      go_wp2_with fail
      refine n1.mono ?_
      clear n1
      rintro e w2 ⟨v2, r, rfl, hr, hR, hB2⟩
      have HR := Aside0.mk hr
      have HRR := Aside0.mk (Kd.R_lower hR HB.out.size)
      have HB2 := Aside0.mk (HB.out.trans (hB2.mono HB.out.size))
      clear hr hR hB2
      go_wp2
      go_ret
      exact ⟨_, r, rfl, self_is HR.out, HRR.out, HB2.out⟩
end Go.Proofs.Yteejeakbagbcoaa

import Derived.Test.YteejeakbagbcoaaWyp
import Derived.Test.YteejeakbagbcoaaWr
import Derived.Deep.RegionHeld3
/-! The document's Reach, Circle, Any, walked. -/
namespace Go.Proofs.Yteejeakbagbcoaa
open Go.RowKit Go.Maps Go.MapKept Go.WideMaps
open Go.Proofs.Yteejeakbagbcoaa.PWaitsTell
open Go.Proofs.YteejeakbagbcoaaW.PrintWords Go.Proofs.YteejeakbagbcoaaW.PrintLast Go.Proofs.YteejeakbagbcoaaW.PrintMore
set_option linter.unusedVariables false
set_option linter.unusedSimpArgs false

set_option maxRecDepth 100000 in
set_option maxHeartbeats 1000000 in
theorem has2_calls (A0 : Option Addr) (c0 : Nat) (l : List Int) (n : Int) (w : World) (h0 : Kd.C kInt w A0 l.length l) (hb : l.length < 100000) :
    Calls Try.prog 31 #[.slice A0 l.length c0, .int .i64 n] w fun e w' => e = .returned (.bool (decide (n ∈ l))) ∧ w' = w := by
  have H0 := Aside0.mk h0
  clear h0
  go_enter Try.func31, Try.ntmps31
  go_wp2
  go_loopw [5] (fun v5 wr => ∃ (k : Nat), k ≤ l.length ∧ v5 = .int .i64 k ∧ w = wr ∧ Aside0 (n ∉ l.take k)) (fun v5 _ => l.length - (intOf v5).toNat)
  case atStart => exact ⟨0, Nat.zero_le _, rfl, rfl, ⟨by simp⟩⟩
  case round =>
    obtain ⟨k, hk, rfl, hw, HS⟩ := hrel
    subst hw
    by_cases hlt : k < l.length
    · have b1 : decide ((k : Int) < (l.length : Int)) = true := decide_eq_true (by omega)
      have p0 : (0 : Int) ≤ (k : Int) := by omega
      have p1 : (k : Int) < (l.length : Int) := by omega
      obtain ⟨ad0, e0, y0⟩ := int_C H0.out hlt
      subst e0
      have htk : l.take (k + 1) = l.take k ++ [l[k]] := by rw [List.take_add_one, List.getElem?_eq_getElem hlt]; rfl
      have hmem : l[k] ∈ l := List.getElem_mem hlt
      generalize l[k] = a at *
      have HT := Aside0.mk htk
      clear htk
      by_cases hac : a = n
      · have d1 : (a == n) = true := beq_iff_eq.2 hac
        have HX := Aside0.mk (show decide (n ∈ l) = true from decide_eq_true (hac ▸ hmem))
        clear hac hmem
        go_wp2
        go_ret
        exact ⟨by rw [HX.out]; rfl, rfl⟩
      · have d1 : (a == n) = false := beq_eq_false_iff_ne.2 hac
        have HS2 := Aside0.mk (show n ∉ l.take (k + 1) from by
          rw [HT.out]
          intro h
          rcases List.mem_append.1 h with h | h
          · exact HS.out h
          · exact hac (List.mem_singleton.1 h).symm)
        clear hac hmem
        go_wp2
        go_roundw
        case measure => simp [intOf]; omega
        case rel => exact ⟨k + 1, by omega, by go_num, by trivial, HS2⟩
    · have b1 : decide ((k : Int) < (l.length : Int)) = false := decide_eq_false (by omega)
      have HX := Aside0.mk (show decide (n ∈ l) = false from decide_eq_false (by
        have := HS.out
        rwa [List.take_of_length_le (by omega)] at this))
      go_wp2
      go_ret
      exact ⟨by rw [HX.out]; rfl, rfl⟩

theorem rise2_calls (A0 : Option Addr) (c0 : Nat) (l : List Int) (w : World) (h0 : Kd.C kInt w A0 l.length l) (hc : l.length ≤ c0) (hb : l.length < 100000) :
    Calls Try.prog 32 #[.slice A0 l.length c0] w fun e w' => ∃ v r, e = .returned v ∧ RiseOf (fun x => x ∈ l) r ∧ Kd.R kInt 3 w' w.heap.size (fun _ => True) v r ∧ Below w.heap.size w w' := by
  obtain ⟨k, r, h, hr⟩ := rise_some l hb
  exact (covenantref15_rise.calls k A0 c0 l r w h0 hc h).mono fun e w' ⟨v, he, hR, hB⟩ => ⟨v, r, he, hr, hR, hB⟩

/-- What is told behind n rounds and k waits. -/
def outL (es : Edges) (a : Int) (n k : Nat) : List Int := (es.take k).foldl (rStep a) (rRounds es a n)
theorem outL_zero (es : Edges) (a : Int) (n : Nat) : outL es a n 0 = rRounds es a n := rfl
theorem outL_all (es : Edges) (a : Int) (n : Nat) : outL es a n es.length = rRounds es a (n + 1) := by rw [outL, List.take_length]; rfl
theorem outL_next (es : Edges) (a : Int) (n : Nat) {k : Nat} (h : k < es.length) : outL es a n (k + 1) = rStep a (outL es a n k) es[k] := by
  rw [outL, List.take_add_one, List.getElem?_eq_getElem h]
  simp only [Option.toList_some, List.foldl_append, List.foldl_cons, List.foldl_nil]
  rfl
theorem outL_few (es : Edges) (a : Int) (n k : Nat) : (outL es a n k).length ≤ es.length := by
  have h : (outL es a n k).Nodup ∧ ∀ x ∈ outL es a n k, Path es a x :=
    foldl_inv (S := fun out => out.Nodup ∧ ∀ x ∈ out, Path es a x) a (es.take k) _ ⟨rRounds_nodup es a n, rRounds_path es a n⟩ (fun out e he h => by
      unfold rStep
      split
      · rename_i hc
        refine ⟨?_, fun x hx => ?_⟩
        · rw [List.nodup_append]
          exact ⟨h.1, by simp, fun x hx y hy e' => hc.2 (by rw [List.mem_singleton.1 hy] at e'; rwa [← e'])⟩
        · rcases List.mem_append.1 hx with hx | hx
          · exact h.2 x hx
          · rw [List.mem_singleton.1 hx]
            rcases hc.1 with h1 | h1
            · exact Path.one (by rw [← h1]; exact List.mem_of_mem_take he)
            · exact (h.2 _ h1).more (List.mem_of_mem_take he)
      · exact h)
  exact path_few _ h.1 h.2
theorem rStep_hit {a : Int} {out : List Int} {e : Int × Int} (h1 : e.1 = a ∨ e.1 ∈ out) (h2 : e.2 ∉ out) : rStep a out e = out ++ [e.2] := if_pos ⟨h1, h2⟩
theorem rStep_miss {a : Int} {out : List Int} {e : Int × Int} (h : ¬ ((e.1 = a ∨ e.1 ∈ out) ∧ e.2 ∉ out)) : rStep a out e = out := if_neg h

set_option maxRecDepth 100000 in
set_option maxHeartbeats 2000000 in
theorem reach2_calls (A0 : Option Addr) (c0 : Nat) (es : Edges) (a : Int) (w : World) (hE : Edg w A0 c0 es) (ha : okI a) :
    Calls Try.prog 18 #[.slice A0 es.length c0, .int .i64 a] w fun e w' => ∃ v l, e = .returned v ∧ IsReach es a l ∧ Kd.R kInt 3 w' w.heap.size (fun _ => True) v l ∧ Below w.heap.size w w' := by
  have HE := Aside0.mk hE
  have hes := hE.len
  clear hE ha
  go_enter Try.func18, Try.ntmps18
  go_wp2
  go_loopw [5, 6, 7] (fun v5 v6 v7 wr => ∃ (n : Nat), n ≤ es.length + 1 ∧ v6 = .int .i64 n ∧ Aside0 (Kd.R kInt 3 wr w.heap.size (fun _ => True) v5 (rRounds es a n)) ∧ Aside0 (Below w.heap.size w wr)) (fun _ v6 _ _ => es.length + 1 - (intOf v6).toNat)
  case atStart => exact ⟨0, Nat.zero_le _, rfl, ⟨Kd.R_nil _ _ _ _ _⟩, ⟨Below.refl _ _⟩⟩
  case round =>
    obtain ⟨n, hn, rfl, HO, HB⟩ := hrel
    by_cases hlt : n ≤ es.length
    · have b1 : decide ((n : Int) ≤ (es.length : Int)) = true := decide_eq_true (by omega)
      have p0 : (0 : Int) ≤ (n : Int) := by omega
      have p1 : (n : Int) ≤ 1000 := by omega
      go_wp2
      go_loopw [5, 7] (fun v5 v7 wr => ∃ (k : Nat), k ≤ es.length ∧ v7 = .int .i64 k ∧ Aside0 (Kd.R kInt 3 wr w.heap.size (fun _ => True) v5 (outL es a n k)) ∧ Aside0 (Below w.heap.size w wr)) (fun _ v7 _ => es.length - (intOf v7).toNat)
      case atStart => exact ⟨0, Nat.zero_le _, rfl, HO, HB⟩
      case round =>
        clear HO HB
        obtain ⟨k, hk, rfl, HO, HB⟩ := hrel
        obtain ⟨va, vc, e5⟩ := Kd.R_slice HO.out
        subst e5
        by_cases hkl : k < es.length
        · have g1 : decide ((k : Int) < (es.length : Int)) = true := decide_eq_true (by omega)
          have g2 : (0 : Int) ≤ (k : Int) := by omega
          have g3 : (k : Int) < (es.length : Int) := by omega
          have g4 : (k : Int) ≤ 1000 := by omega
          obtain ⟨ad, e1, x0, x1⟩ := edge_cells (Kd.C_below HE.out.read HB.out) hkl
          subst e1
          have hnx := outL_next es a n hkl
          have hfew := outL_few es a n k
          generalize outL es a n k = out at *
          obtain ⟨va', vc', e6, hvc, hvr⟩ := Kd.R_reads HO.out
          obtain ⟨rfl, rfl⟩ : va = va' ∧ vc = vc' := by
            injection e6 with h1 _ h3
            exact ⟨h1, h3⟩
          clear e6
          generalize hp : es[k].1 = p at x0
          generalize hq : es[k].2 = q at x1
          have np := has2_calls va vc out p wr hvr (by omega)
          have nq := has2_calls va vc out q wr hvr (by omega)
          have hsz := HB.out.size
          have hll : (out.length + 1) * 8 ≤ 140737488355328 := by omega
          clear hvr hvc
          by_cases hpa : p = a
          · have d5 : (p == a) = true := beq_iff_eq.2 hpa
            by_cases hqo : q ∈ out
            · have HM2 := Aside0.mk (show Kd.R kInt 3 wr w.heap.size (fun _ => True) (.slice va out.length vc) (outL es a n (k + 1)) from by rw [hnx, rStep_miss (fun h => h.2 (by rw [hq]; exact hqo))]; exact HO.out)
              rw [decide_eq_true hqo] at nq
              clear hqo hnx hp hq np hpa
              go_wp2_with fail
              refine nq.mono ?_
              clear nq
              rintro e wx ⟨rfl, hwx⟩
              rw [hwx]
              clear hwx
              go_wp2
              go_roundw
              case measure => simp [intOf]; omega
              case rel => exact ⟨k + 1, by omega, by go_num, HM2, HB⟩
            · have HM2 := Aside0.mk (show outL es a n (k + 1) = out ++ [q] from by rw [hnx, rStep_hit (by rw [hp]; exact Or.inl hpa) (by rw [hq]; exact hqo), hq])
              rw [decide_eq_false hqo] at nq
              clear hqo hnx hp hq np hpa
              go_wp2_with fail
              refine nq.mono ?_
              clear nq
              rintro e wx ⟨rfl, hwx⟩
              rw [hwx]
              clear hwx
              go_wp2_with (at_builtin; go_loud (refine Kd.R_append kInt (w0 := w) w.heap.size rfl (.tmp 46) (.tmp 52) 26 3 (.int .i64 0) 8 rfl Try.underlying26 Try.infoInt rfl (by decide) (by omega) (.slice va out.length vc) out q [.int .i64 q] (fun _ => True) (fun _ => False) rfl rfl rfl (fun _ h => h.elim) (fun _ _ => trivial) HO.out HB.out hsz hll ?_); intro v1 w5 ho hb hg hat)
              have HO5 := Aside0.mk (HM2.out ▸ ho)
              have HB5 := Aside0.mk hb
              clear ho hb hg hat
              go_wp2
              go_roundw
              case measure => simp [intOf]; omega
              case rel => exact ⟨k + 1, by omega, by go_num, HO5, HB5⟩
          · have d5 : (p == a) = false := beq_eq_false_iff_ne.2 hpa
            by_cases hpo : p ∈ out
            · rw [decide_eq_true hpo] at np
              by_cases hqo : q ∈ out
              · have HM2 := Aside0.mk (show Kd.R kInt 3 wr w.heap.size (fun _ => True) (.slice va out.length vc) (outL es a n (k + 1)) from by rw [hnx, rStep_miss (fun h => h.2 (by rw [hq]; exact hqo))]; exact HO.out)
                rw [decide_eq_true hqo] at nq
                clear hqo hnx hp hq hpo hpa
                go_wp2_with fail
                refine np.mono ?_
                clear np
                rintro e wx ⟨rfl, hwx⟩
                rw [hwx]
                clear hwx
                go_wp2_with fail
                refine nq.mono ?_
                clear nq
                rintro e wx ⟨rfl, hwx⟩
                rw [hwx]
                clear hwx
                go_wp2
                go_roundw
                case measure => simp [intOf]; omega
                case rel => exact ⟨k + 1, by omega, by go_num, HM2, HB⟩
              · have HM2 := Aside0.mk (show outL es a n (k + 1) = out ++ [q] from by rw [hnx, rStep_hit (by rw [hp]; exact Or.inr hpo) (by rw [hq]; exact hqo), hq])
                rw [decide_eq_false hqo] at nq
                clear hqo hnx hp hq hpo hpa
                go_wp2_with fail
                refine np.mono ?_
                clear np
                rintro e wx ⟨rfl, hwx⟩
                rw [hwx]
                clear hwx
                go_wp2_with fail
                refine nq.mono ?_
                clear nq
                rintro e wx ⟨rfl, hwx⟩
                rw [hwx]
                clear hwx
                go_wp2_with (at_builtin; go_loud (refine Kd.R_append kInt (w0 := w) w.heap.size rfl (.tmp 46) (.tmp 52) 26 3 (.int .i64 0) 8 rfl Try.underlying26 Try.infoInt rfl (by decide) (by omega) (.slice va out.length vc) out q [.int .i64 q] (fun _ => True) (fun _ => False) rfl rfl rfl (fun _ h => h.elim) (fun _ _ => trivial) HO.out HB.out hsz hll ?_); intro v1 w5 ho hb hg hat)
                have HO5 := Aside0.mk (HM2.out ▸ ho)
                have HB5 := Aside0.mk hb
                clear ho hb hg hat
                go_wp2
                go_roundw
                case measure => simp [intOf]; omega
                case rel => exact ⟨k + 1, by omega, by go_num, HO5, HB5⟩
            · have HM2 := Aside0.mk (show Kd.R kInt 3 wr w.heap.size (fun _ => True) (.slice va out.length vc) (outL es a n (k + 1)) from by rw [hnx, rStep_miss (fun h => h.1.elim (fun e => hpa (by rw [← hp]; exact e)) (fun e => hpo (by rw [← hp]; exact e)))]; exact HO.out)
              rw [decide_eq_false hpo] at np
              clear hpo hnx hp hq hpa nq
              go_wp2_with fail
              refine np.mono ?_
              clear np
              rintro e wx ⟨rfl, hwx⟩
              rw [hwx]
              clear hwx
              go_wp2
              go_roundw
              case measure => simp [intOf]; omega
              case rel => exact ⟨k + 1, by omega, by go_num, HM2, HB⟩
        · have g1 : decide ((k : Int) < (es.length : Int)) = false := decide_eq_false (by omega)
          obtain rfl : k = es.length := by omega
          rw [outL_all] at HO
          rw [outL_all]
          go_wp2
          go_roundw
          case measure => simp [intOf]; omega
          case rel => exact ⟨n + 1, by omega, by go_num, HO, HB⟩
    · have b1 : decide ((n : Int) ≤ (es.length : Int)) = false := decide_eq_false (by omega)
      obtain rfl : n = es.length + 1 := by omega
      obtain ⟨va, vc, e5, hvc, hvr⟩ := Kd.R_reads HO.out
      subst e5
      have hfew := rRounds_len es a (es.length + 1)
      have n1 := rise2_calls va vc _ wr hvr hvc (by omega)
      clear hvc hvr
      go_wp2_with fail
      refine n1.mono ?_
      clear n1
      rintro e w2 ⟨v2, r, rfl, hr, hR, hB2⟩
      have HR := Aside0.mk hr
      have HRR := Aside0.mk (Kd.R_lower hR HB.out.size)
      have HB2 := Aside0.mk (HB.out.trans (hB2.mono HB.out.size))
      clear hr hR hB2
      go_wp2
      go_ret
      exact ⟨_, r, rfl, ⟨HR.out.1, fun x => (HR.out.2 x).trans (mem_reachL es a x)⟩, HRR.out, HB2.out⟩
end Go.Proofs.Yteejeakbagbcoaa

import Derived.Test.YteejeakbagbcoaaWk
/-! waits.Reach, waits.back, waits.Circle. -/
namespace Go.Proofs.Yteejeakbagbcoaa
open Go.RowKit Go.Maps Go.MapKept Go.WideMaps
open Go.Proofs.YteejeakbagbcoaaW.PrintWords Go.Proofs.YteejeakbagbcoaaW.PrintLast Go.Proofs.YteejeakbagbcoaaW.PrintMore
set_option linter.unusedVariables false
set_option linter.unusedSimpArgs false

/-- What a law hands to waits: so many waits, of numbers that are numbers. -/
structure Edg (w : World) (A : Option Addr) (c : Nat) (es : Edges) : Prop where
  read : Kd.C kEdge w A es.length es
  cap : es.length ≤ c
  ok : ∀ e ∈ es, okI e.1 ∧ okI e.2
  len : es.length ≤ 1000
theorem Edg.below {w w' : World} {A : Option Addr} {c : Nat} {es : Edges} (h : Edg w A c es) (hB : Below w.heap.size w w') : Edg w' A c es := ⟨Kd.C_below h.read hB, h.cap, h.ok, h.len⟩
theorem flip_len (es : Edges) : (flip es).length = es.length := by simp [flip]
theorem flip_ok {es : Edges} (h : ∀ e ∈ es, okI e.1 ∧ okI e.2) : ∀ e ∈ flip es, okI e.1 ∧ okI e.2 := fun e he => by
  obtain ⟨a, b⟩ := e
  have := h _ (mem_flip.1 he)
  exact ⟨this.2, this.1⟩
theorem path_few {es : Edges} {a : Int} (ss : List Int) (hn : ss.Nodup) (h : ∀ x ∈ ss, Path es a x) : ss.length ≤ es.length := by
  have := nodup_subI ss (es.map (·.2)) hn (fun x hx => by
    obtain ⟨c, hc, _⟩ := (h x hx).last
    exact List.mem_map.2 ⟨(c, x), hc, rfl⟩)
  simpa using this

theorem R_conv {w : World} {B B' e : Nat} {v : Value} {l : List Int} (h : Kd.R kInt e w B (fun _ => True) v l) (hB : B' ≤ B) : Kd.R kInt e w 0 (fun k => B' ≤ k) v l :=
  Kd.R_mono (Kd.R_lower (Kd.R_bound h) (Nat.zero_le _)) (fun k hk => Nat.le_trans hB hk.2.1)

theorem reach_calls (A0 : Option Addr) (c0 : Nat) (es : Edges) (a : Int) (w : World) (hE : Edg w A0 c0 es) (ha : okI a) :
    Calls Try.prog 14 #[.slice A0 es.length c0, .int .i64 a] w fun e w' => ∃ v l, e = .returned v ∧ IsReach es a l ∧ Kd.R kInt 3 w' 0 (fun k => w.heap.size ≤ k) v l ∧ Below w.heap.size w w' := by
  have h1 := along_calls A0 c0 es w hE.read hE.ok (by have := hE.len; omega)
  have HE := Aside0.mk hE
  have HA := Aside0.mk ha
  clear hE ha
  go_enter Try.func14, Try.ntmps14
  go_wp2_with fail
  refine h1.mono ?_
  clear h1
  rintro e w1 ⟨b, mg, rfl, hN, hlo, hB⟩
  have h2 := met_calls es b mg _ a w1 hN HE.out.ok HA.out HE.out.len
  have HB := Aside0.mk hB
  clear hN hB
  go_wp2_with fail
  refine h2.mono ?_
  clear h2
  rintro e w2 ⟨bo, g, rfl, hm, hp, _, hlo2, hB2⟩
  have HB2 := Aside0.mk (HB.out.trans (hB2.mono HB.out.size))
  have h3 := keysI_calls (some bo) w2
  have hc := (Boxed.new w2 36 (.map (some bo))).cell
  have hm3 := hm.alloc (.cells #[.map (some bo)] 36)
  have h4 := sortedKeys w2.heap.size bo es.length g (fun ss hn hs => path_few ss hn (fun x hx => (hp x).1 (hs x hx))) (by have := HE.out.len; omega) _ hc hm3
  have hB3 : Below w2.heap.size w2 (w2.alloc (.cells #[.map (some bo)] 36)) := (Below.refl _ _).alloc (Nat.le_refl _) _
  have HP := Aside0.mk hp
  replace hB3 := Aside0.mk hB3
  clear hc hm hm3 hp hB2
  go_wp2_with fail
  refine h3.mono ?_
  clear h3
  rintro e w3 ⟨rfl, rfl⟩
  go_wp2_with fail
  refine h4.mono ?_
  clear h4
  rintro e w4 ⟨v, l, rfl, hs, hx, hR, hB4⟩
  have HB4 := Aside0.mk (HB2.out.trans ((hB3.out.mono HB2.out.size).trans (hB4.mono (Nat.le_trans HB2.out.size hB3.out.size))))
  have HX := Aside0.mk (show IsReach es a l from ⟨hs, fun x => by rw [hx, HP.out]⟩)
  have HR := Aside0.mk (R_conv hR (Nat.le_trans HB2.out.size hB3.out.size))
  clear hs hx hR hB4
  go_wp2
  go_ret
  exact ⟨v, l, rfl, HX.out, HR.out, HB4.out⟩

theorem Try.infoEdge : (Try.prog.info? 22).map (fun i => (i.zero, i.size, i.bytes)) = some (some (.agg #[.int .i64 0, .int .i64 0]), 2, 16) := by kernel_rfl

set_option maxRecDepth 100000 in
set_option maxHeartbeats 1000000 in
theorem back_calls (A0 : Option Addr) (c0 : Nat) (es : Edges) (w : World) (hE : Edg w A0 c0 es) :
    Calls Try.prog 24 #[.slice A0 es.length c0] w fun e w' => ∃ v, e = .returned v ∧ Kd.R kEdge 22 w' w.heap.size (fun _ => True) v (flip es) ∧ Below w.heap.size w w' := by
  have HE := Aside0.mk hE
  clear hE
  go_enter Try.func24, Try.ntmps24
  go_wp2
  go_loopw [3, 8] (fun v3 v8 wr => ∃ (k : Nat), k ≤ es.length ∧ v8 = .int .i64 k ∧ Aside0 (Kd.R kEdge 22 wr w.heap.size (fun _ => True) v3 (flip (es.take k))) ∧ Aside0 (Below w.heap.size w wr)) (fun _ v8 _ => es.length - (intOf v8).toNat)
  case atStart => exact ⟨0, Nat.zero_le _, rfl, ⟨Kd.R_nil _ _ _ _ _⟩, ⟨Below.refl _ _⟩⟩
  case round =>
    obtain ⟨k, hk, rfl, HO, HB⟩ := hrel
    by_cases hlt : k < es.length
    · have b1 : decide ((k : Int) < (es.length : Int)) = true := decide_eq_true (by omega)
      have p0 : (0 : Int) ≤ (k : Int) := by omega
      have p1 : (k : Int) < (es.length : Int) := by omega
      obtain ⟨ad, e1, y0, y1⟩ := edge_cells HE.out.read hlt
      subst e1
      have x0 := (HB.out.cell (p := ad.add (k * 2)) (World.block_lt_of_cell? w _ y0)).trans y0
      have x1 := (HB.out.cell (p := ⟨(ad.add (k * 2)).block, (ad.add (k * 2)).off + 1, none⟩) (World.block_lt_of_cell? w _ y1)).trans y1
      have htk : flip (es.take (k + 1)) = flip (es.take k) ++ [(es[k].2, es[k].1)] := by rw [List.take_add_one, List.getElem?_eq_getElem hlt]; unfold flip; rw [List.map_append]; rfl
      have hln : (flip (es.take k)).length = k := by rw [flip_len, List.length_take]; omega
      generalize es[k].1 = a at x0 x1 htk
      generalize es[k].2 = c at x0 x1 htk
      have HTK := Aside0.mk htk
      clear y0 y1 htk
      obtain ⟨va, vc, e3⟩ := Kd.R_slice HO.out
      subst e3
      go_upto_region 5 with (fail)
      have hbox := blk_new wr (.cells #[.int .i64 a, .int .i64 c] 22)
      have hBw : Below wr.heap.size wr (wr.alloc (.cells #[.int .i64 a, .int .i64 c] 22)) := (Below.refl _ wr).alloc (Nat.le_refl _) _
      have HO1 := Aside0.mk (Kd.R_below HO.out hBw)
      have HB1 := Aside0.mk (HB.out.trans (hBw.mono HB.out.size))
      generalize wr.alloc (.cells #[.int .i64 a, .int .i64 c] 22) = W at hbox hBw HO1 HB1 ⊢
      generalize wr.heap.size = Bn at hbox ⊢
      have q0 := blk_cell hbox 0
      have q1 := blk_cell hbox 1
      simp at q0 q1
      have hsz := HB1.out.size
      have hl2 : ((flip (es.take k)).length + 1) * 16 ≤ 140737488355328 := by have := HE.out.len; omega
      clear hbox hBw
      go_wp2_with (at_builtin; go_loud (refine Kd.R_append kEdge (w0 := w) w.heap.size rfl (.tmp 12) (.tmp 18) 23 22 (.agg #[.int .i64 0, .int .i64 0]) 16 rfl Try.underlying23 Try.infoEdge rfl (by decide) (by omega) (.slice va (flip (es.take k)).length vc) (flip (es.take k)) (c, a) [.int .i64 c, .int .i64 a] (fun _ => True) (fun _ => False) rfl rfl (kEdge_mkM _ _ _ _) (fun _ h => h.elim) (fun _ _ => trivial) HO1.out HB1.out hsz hl2 ?_); intro v1 w5 ho hb hg hat)
      have HO5 := Aside0.mk (HTK.out ▸ ho)
      have HB5 := Aside0.mk hb
      clear ho hb hg hat
      go_wp2
      go_roundw
      case measure => simp [intOf]; omega
      case rel => exact ⟨k + 1, by omega, by go_num, HO5, HB5⟩
    · have b1 : decide ((k : Int) < (es.length : Int)) = false := decide_eq_false (by omega)
      obtain rfl : k = es.length := by omega
      have hO := HO.out
      rw [List.take_length] at hO
      replace hO := Aside0.mk hO
      obtain ⟨va, vc, e3⟩ := Kd.R_slice hO.out
      subst e3
      go_wp2
      go_ret
      exact ⟨_, rfl, hO.out, HB.out⟩
end Go.Proofs.Yteejeakbagbcoaa

import Derived.Test.YteejeakbagbcoaaWc
/-! waits.Circle. -/
namespace Go.Proofs.Yteejeakbagbcoaa
open Go.RowKit Go.Maps Go.MapKept Go.WideMaps
open Go.Proofs.YteejeakbagbcoaaW.PrintWords Go.Proofs.YteejeakbagbcoaaW.PrintLast Go.Proofs.YteejeakbagbcoaaW.PrintMore
set_option linter.unusedVariables false
set_option linter.unusedSimpArgs false

theorem circle_reads (bx bo : Nat) (g : Int → Option Int) (w : World) (S : Nat → Prop) (xs : List Int) (hc : w.cell? ⟨bx, 0, none⟩ = some (.map (some bo))) (hm : MapOf (Value.int .i64) (Value.int .i64) okI w bo g) (h1 : ¬ S bx) (h2 : ¬ S bo) (hok : ∀ x ∈ xs, okI x) :
    Reads 28 #[.pointer (some ⟨bx, 0, none⟩)] (fun x => (g x).getD 0 == 0) w S xs := fun W x hx hch => by
  have hc1 := hch.cell_some hc h1
  have hlk := gmapI_look (hm.chg hch h2) (hok x hx)
  show Calls Try.prog 28 #[.int .i64 x, .pointer (some ⟨bx, 0, none⟩)] W fun e w' => e = .returned (.bool ((g x).getD 0 == 0)) ∧ ∃ q, w' = W.drewN q
  clear hch hm hc hx hok
  generalize (g x).getD 0 = v at *
  go_enter Try.func28, Try.ntmps28
  go_wp2
  go_ret
  exact ⟨rfl, 0, rfl⟩

set_option maxRecDepth 100000 in
set_option maxHeartbeats 1000000 in
theorem circle_calls (A0 : Option Addr) (c0 : Nat) (es : Edges) (a : Int) (w : World) (hE : Edg w A0 c0 es) (ha : okI a) :
    Calls Try.prog 12 #[.slice A0 es.length c0, .int .i64 a] w fun e w' => ∃ v l, e = .returned v ∧ IsCircle es a l ∧ Kd.R kInt 3 w' 0 (fun k => w.heap.size ≤ k) v l ∧ Below w.heap.size w w' := by
  have h1 := along_calls A0 c0 es w hE.read hE.ok (by have := hE.len; omega)
  have HE := Aside0.mk hE
  have HA := Aside0.mk ha
  clear hE ha
  go_enter Try.func12, Try.ntmps12
  go_wp2_with fail
  refine h1.mono ?_
  clear h1
  rintro e w1 ⟨b, mg, rfl, hN, hlo, hB⟩
  have h2 := met_calls es b mg _ a w1 hN HE.out.ok HA.out HE.out.len
  have HB := Aside0.mk hB
  clear hN hB
  go_wp2_with fail
  refine h2.mono ?_
  clear h2
  rintro e w2 ⟨bo, g, rfl, hm, hp, hpos, hlo2, hB2⟩
  have HB2 := Aside0.mk (HB.out.trans (hB2.mono HB.out.size))
  have hlk := gmapI_look hm HA.out
  cases hga : g a with
  | none =>
    rw [hga] at hlk
    simp only [Option.getD_none] at hlk
    have hno : ¬ Path es a a := fun hh => by
      obtain ⟨v, hv⟩ := (hp a).2 hh
      rw [hga] at hv
      cases hv
    have HX := Aside0.mk (show IsCircle es a [] from ⟨List.Pairwise.nil, fun x => ⟨fun h => absurd h (by simp), fun h => absurd (h.1.trans h.2) hno⟩⟩)
    clear hm hp hpos hB2 hno hga
    go_wp2
    go_ret
    exact ⟨_, [], rfl, HX.out, Kd.R_nil _ _ _ _ _, HB2.out⟩
  | some va =>
    rw [hga] at hlk
    simp only [Option.getD_some] at hlk
    have hne : (va == 0) = false := beq_eq_false_iff_ne.2 (by have := hpos a va hga; omega)
    have h3 := back_calls A0 c0 es w2 (HE.out.below HB2.out)
    have HM := Aside0.mk hm
    have HP := Aside0.mk hp
    clear hm hp hpos hB2 hga hlo hlo2
    go_wp2_with fail
    refine h3.mono ?_
    clear h3 hlk
    rintro e w3 ⟨vb, rfl, hRb, hB3⟩
    obtain ⟨ba, bc, e5, hbc, hbr⟩ := Kd.R_reads hRb
    subst e5
    have HB3 := Aside0.mk (HB2.out.trans (hB3.mono HB2.out.size))
    have hM3 := HM.out.move (hB3.block bo HM.out.lt)
    have h4 := along_calls ba bc (flip es) w3 hbr (flip_ok HE.out.ok) (by rw [flip_len]; have := HE.out.len; omega)
    replace hM3 := Aside0.mk hM3
    clear hRb hbr hB3 HM HB2 HB
    go_wp2_with fail
    refine h4.mono ?_
    clear h4
    rintro e w4 ⟨b4, mg4, rfl, hN4, hlo4, hB4⟩
    have HB4 := Aside0.mk (HB3.out.trans (hB4.mono HB3.out.size))
    have HM4 := Aside0.mk (hM3.out.move (hB4.block bo hM3.out.lt))
    have h5 := met_calls (flip es) b4 mg4 _ a w4 hN4 (flip_ok HE.out.ok) HA.out (by rw [flip_len]; exact HE.out.len)
    clear hN4 hB4 hM3 HB3
    go_wp2_with fail
    refine h5.mono ?_
    clear h5
    rintro e w5 ⟨bf, gf, rfl, hmf, hpf, hposf, hlof, hB5⟩
    have hbx := Boxed.new w5 36 (.map (some bf))
    have hBx : Below w5.heap.size w5 (w5.alloc (.cells #[.map (some bf)] 36)) := (Below.refl _ _).alloc (Nat.le_refl _) _
    have HB5 := Aside0.mk ((HB4.out.trans (hB5.mono HB4.out.size)).trans (hBx.mono (Nat.le_trans HB4.out.size hB5.size)))
    have HM5 := Aside0.mk ((HM4.out.move (hB5.block bo HM4.out.lt)).alloc (.cells #[.map (some bf)] 36))
    have HF5 := Aside0.mk (hmf.alloc (.cells #[.map (some bf)] 36))
    have HPF := Aside0.mk hpf
    have HPOS := Aside0.mk hposf
    clear hmf hpf hposf hB5 hBx HM4 HB4
    obtain ⟨w6, hw6⟩ : ∃ w6, w5.alloc (.cells #[.map (some bf)] 36) = w6 := ⟨_, rfl⟩
    rw [hw6] at hbx HB5 HM5 HF5
    obtain ⟨bx, hbxe⟩ : ∃ bx, w5.heap.size = bx := ⟨_, rfl⟩
    rw [hbxe] at hbx
    have HBX := Aside0.mk hbx
    have h6 := keysI_calls (some bo) w6
    have hc7 := (Boxed.new w6 36 (.map (some bo))).cell
    have hB7 : Below w6.heap.size w6 (w6.alloc (.cells #[.map (some bo)] 36)) := (Below.refl _ _).alloc (Nat.le_refl _) _
    have HB7 := Aside0.mk (HB5.out.trans (hB7.mono HB5.out.size))
    have h7 := sortedKeys w6.heap.size bo es.length g (fun ss hn hs => path_few ss hn (fun x hx => (HP.out x).1 (hs x hx))) (by have := HE.out.len; omega) _ hc7 (HM5.out.alloc _)
    have HF7 := Aside0.mk (HF5.out.alloc (.cells #[.map (some bo)] 36))
    have HM7 := Aside0.mk (HM5.out.alloc (.cells #[.map (some bo)] 36))
    have HX7 := Aside0.mk (HBX.out.alloc (.cells #[.map (some bo)] 36))
    clear hbx hc7 hB7 HB5 HM5 HF5 HBX
    go_wp2_with fail
    try rw [hw6]
    refine h6.mono ?_
    clear h6
    rintro e w7 ⟨rfl, rfl⟩
    go_wp2_with fail
    refine h7.mono ?_
    clear h7
    rintro e w8 ⟨v, l, rfl, hs, hx, hR, hB8⟩
    have HB8 := Aside0.mk (HB7.out.trans (hB8.mono HB7.out.size))
    have hF8 := HF7.out.move (hB8.block bf HF7.out.lt)
    have hM8 := HM7.out.move (hB8.block bo HM7.out.lt)
    have hX8 : Boxed w8 bx 36 (.map (some bf)) := (hB8.block bx HX7.out.lt).trans HX7.out
    have hR8 := R_conv hR HB7.out.size
    have hnb : ∀ k, v.ownBlock = some k → ∃ cs, w8.heap[k]? = some (.cells cs 3 (0, 0)) := fun k hk => (R_block hR hk).2
    have hrd := circle_reads bx bf gf w8 (fun k => some k = v.ownBlock) l hX8.cell hF8 (fun e => by
      obtain ⟨cs, hcs⟩ := hnb bx e.symm
      rw [show w8.heap[bx]? = _ from hX8] at hcs
      simp at hcs) (fun e => by
      obtain ⟨cs, hcs⟩ := hnb bf e.symm
      obtain ⟨es', cl, hb'⟩ := hF8.isMap
      rw [hb'] at hcs
      cases hcs) (fun x hxl => by
        obtain ⟨v', hv'⟩ := (hx x).1 hxl
        exact hM8.good hv')
    have h8 := deleteInt_calls 28 #[.pointer (some ⟨bx, 0, none⟩)] (fun x => (gf x).getD 0 == 0) (enters_of Try.func28 (by kernel_rfl) rfl) v l _ w8 hR8 hrd
    have HX := Aside0.mk (show IsCircle es a (l.filter fun x => !((gf x).getD 0 == 0)) from ⟨hs.filter _, fun x => by
      rw [List.mem_filter, hx, HP.out, ← path_flip (es := es) (a := a) (b := x), ← HPF.out]
      refine and_congr_right fun _ => ?_
      cases hgx : gf x with
      | none => simp
      | some u => have := HPOS.out x u hgx; simp; omega⟩)
    have hlv : ∀ k, some k = v.ownBlock → w.heap.size ≤ k := fun k hk => (R_block hR8 hk.symm).1
    clear hs hx hR hB8 hF8 hM8 hX8 hR8 hrd hnb HF7 HM7 HX7 HPF HPOS HP
    replace hlv := Aside0.mk hlv
    go_wp2_with fail
    try rw [hbxe]
    refine h8.mono ?_
    clear h8
    rintro e w9 ⟨v1, rfl, hR9, ho9, hc9, hs9⟩
    have HR9 := Aside0.mk hR9
    have HB9 := Aside0.mk (HB8.out.trans (hc9.below HB8.out.size hlv.out))
    clear hR9 ho9 hc9 hs9
    obtain ⟨v1a, v1c, e9⟩ := Kd.R_slice HR9.out
    subst e9
    go_wp2
    go_ret
    exact ⟨_, _, rfl, HX.out, HR9.out, HB9.out⟩
end Go.Proofs.Yteejeakbagbcoaa

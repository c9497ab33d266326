import Derived.Test.YtljahhgankcalaaHaM
/-! A law's step, done. -/
namespace Go.Proofs.Ytljahhgankcalaa
open Go.RowKit Go.Maps Go.MapKept Go.WideMaps
open Go.Proofs.YtljahhgankcalaaW.PrintWords Go.Proofs.YtljahhgankcalaaW.PrintLast Go.Proofs.YtljahhgankcalaaW.PrintMore
open PHeapThere
set_option linter.unusedVariables false
set_option linter.unusedSimpArgs false

abbrev AStep := S34
abbrev kStep : Kd AStep := k34
abbrev zStep : AStep := z34

/-- What a step tells, and leaves. -/
def AH.step (A : AH) (s : AStep) : Int × Int × AH :=
  if s.f0 = 0 then A.putE s.f1
  else if s.f0 = 1 then (0, (A.kill s.f2 s.f3 s.f4).1, (A.kill s.f2 s.f3 s.f4).2)
  else if s.f0 = 2 then (0, (A.free s.f2).1, (A.free s.f2).2)
  else ((A.next s.f3).1, 0, (A.next s.f3).2)

def stepCells (s : AStep) (A7 : Option Addr) (c7 : Nat) : Array Value :=
  #[.int .u8 s.f0, .int .i64 s.f1.f0, .int .i64 s.f1.f1, .int .i64 s.f1.f2, .int .i64 s.f1.f3, .int .i64 s.f1.f4, .int .i64 s.f1.f5, .slice A7 s.f1.f6.length c7, .int .i64 s.f2, .int .i64 s.f3, .int .i64 s.f4]

theorem ext_trans {F : Nat → Prop} {w w1 w2 : World} {h : Nat} {A : AH} (h1 : w.heap.size ≤ w1.heap.size) (h2 : w1.heap.size ≤ w2.heap.size) (H : HeapIs w2 h A (ext F w1 w2)) : HeapIs w2 h A (ext F w w2) := by
  obtain ⟨sv, rb, gb, rg, gg, H⟩ := H
  exact ⟨sv, rb, gb, rg, gg, H.mono (fun k hk => by
    rcases hk with hk | hk
    · exact .inl hk
    · exact .inr ⟨by omega, hk.2⟩) (fun k hk => by
    rcases hk with hk | hk
    · exact H.bound k (.inl hk)
    · exact hk.2)⟩
theorem Chg.after_below {w w1 w2 : World} {S : Nat → Prop} (hb : Below w.heap.size w w1) (hc : Chg w1 w2 S) : Chg w w2 S :=
  (Chg.of_below hb S).trans hc (fun _ _ h => h) (fun _ _ h => h)

set_option maxRecDepth 100000 in
set_option maxHeartbeats 1000000 in
theorem do_calls (h : Nat) (s : AStep) (A7 : Option Addr) (c7 : Nat) (A : AH) (F : Nat → Prop) (w : World) (H : HeapIs w h A F) (hA : A.Ok) (hl : A.slots.length < 2147483648)
    (hr : Kd.C kVal w A7 s.f1.f6.length s.f1.f6) (hc : s.f1.f6.length ≤ c7) (hx : s.f1.f6.length < 3518437208883) :
    Calls Try.prog 16 #[.agg (stepCells s A7 c7), .pointer (some ⟨h, 0, none⟩)] w fun e w' => e = .returned (.tuple #[.int .i64 (A.step s).1, .int .i64 (A.step s).2.1]) ∧ HeapIs w' h (A.step s).2.2 (ext F w w') ∧ Chg w w' F := by
  obtain ⟨kk, T, sl, xa, xb⟩ := s
  simp only [stepCells] at *
  have hB1 : Below w.heap.size w (w.alloc (.cells #[.int .u8 kk, .int .i64 T.f0, .int .i64 T.f1, .int .i64 T.f2, .int .i64 T.f3, .int .i64 T.f4, .int .i64 T.f5, .slice A7 T.f6.length c7, .int .i64 sl, .int .i64 xa, .int .i64 xb] 34)) := (Below.refl _ w).alloc (Nat.le_refl _) _
  have H1 := H.below hB1
  have hR1 := Kd.C_below hr hB1
  have hbd := H.bound
  have hsz : (w.alloc (.cells #[.int .u8 kk, .int .i64 T.f0, .int .i64 T.f1, .int .i64 T.f2, .int .i64 T.f3, .int .i64 T.f4, .int .i64 T.f5, .slice A7 T.f6.length c7, .int .i64 sl, .int .i64 xa, .int .i64 xb] 34)).heap.size = w.heap.size + 1 := World.size_alloc _ _
  have HA := Aside0.mk hA
  have HL := Aside0.mk hl
  have HX := Aside0.mk hx
  have HBD := Aside0.mk hbd
  clear H hA hl hbd hr
  unfold AH.step
  by_cases c0 : kk = 0
  · simp only [if_pos c0]
    have b0 : (kk == 0) = true := beq_iff_eq.2 c0
    have hg := covenantlaw11_given.calls T.f0 T.f1 T.f2 T.f3 T.f4 T.f5 A7 c7 T.f6 T.f0 T.f1 T.f2 T.f3 T.f4 T.f5 T.f6 _ hR1 hc (by unfold covenantlaw11_given.f; simp [hx])
    replace H1 := Aside0.mk H1
    replace hB1 := Aside0.mk hB1
    replace hsz := Aside0.mk hsz
    clear hc hx hR1 c0
    go_enter Try.func16, Try.ntmps16
    go_wp2_with fail
    refine hg.mono ?_
    rintro e w1 ⟨v6, rfl, ho, hb⟩
    obtain ⟨A6, c6, e6⟩ := Kd.R_slice ho
    subst e6
    have hs1 : w.heap.size + 1 ≤ w1.heap.size := by have := hb.size; rw [hsz.out] at this; exact this
    have hput := put_calls h T _ (fun k => w.heap.size ≤ k) A F w1 (H1.out.below hb) HA.out HL.out (Kd.R_lower (Kd.R_mono (Kd.R_bound ho) (fun k hk => by have := hk.2.1; rw [hsz.out] at this; omega)) (Nat.zero_le _)) HX.out (fun k hk hf => by have := HBD.out k hf; omega)
    have hb1 := Aside0.mk (hB1.out.trans (hb.mono (by rw [hsz.out]; omega)))
    clear ho hb hg
    go_wp2_with fail
    refine hput.mono ?_
    rintro e w2 ⟨rfl, h2, h3⟩
    have hfin := Aside0.mk (And.intro (ext_trans (w := w) (Nat.le_of_succ_le hs1) h3.size h2) (Chg.after_below hb1.out h3))
    clear h2 h3 hput
    go_wp2
    go_ret2
    exact ⟨by simp, hfin.out.1, hfin.out.2⟩
  · simp only [if_neg c0]
    have b0 : (kk == 0) = false := beq_eq_false_iff_ne.2 c0
    by_cases c1 : kk = 1
    · simp only [if_pos c1]
      have b1 : (kk == 1) = true := beq_iff_eq.2 c1
      have hk := kill_calls h sl xa xb A F _ H1
      generalize A.kill sl xa xb = r at *
      obtain ⟨r1, r2⟩ := r
      have hbd := H1.bound
      replace H1 := Aside0.mk H1
      replace hB1 := Aside0.mk hB1
      replace hsz := Aside0.mk hsz
      clear hc hx hR1 c0 c1 hbd
      go_enter Try.func16, Try.ntmps16
      go_wp2_with fail
      refine hk.mono ?_
      rintro e w2 ⟨rfl, h2, h3⟩
      replace h2 := Aside0.mk h2
      replace h3 := Aside0.mk h3
      clear hk
      go_wp2
      go_ret2
      exact ⟨by simp, h2.out.ext (Nat.le_trans hB1.out.size h3.out.size), Chg.after_below hB1.out h3.out⟩
    · simp only [if_neg c1]
      have b1 : (kk == 1) = false := beq_eq_false_iff_ne.2 c1
      by_cases c2 : kk = 2
      · simp only [if_pos c2]
        have b2 : (kk == 2) = true := beq_iff_eq.2 c2
        have hk := freed_calls h sl A F _ H1 HA.out HL.out
        generalize A.free sl = r at *
        obtain ⟨r1, r2⟩ := r
        replace H1 := Aside0.mk H1
        replace hB1 := Aside0.mk hB1
        replace hsz := Aside0.mk hsz
        clear hc hx hR1 c0 c1 c2
        go_enter Try.func16, Try.ntmps16
        go_wp2_with fail
        refine hk.mono ?_
        rintro e w2 ⟨rfl, h2, h3⟩
        replace h2 := Aside0.mk h2
        replace h3 := Aside0.mk h3
        clear hk
        go_wp2
        go_ret2
        exact ⟨by simp, ext_trans hB1.out.size h3.out.size h2.out, Chg.after_below hB1.out h3.out⟩
      · simp only [if_neg c2]
        have b2 : (kk == 2) = false := beq_eq_false_iff_ne.2 c2
        have hk := next_calls h xa A F _ H1 HA.out
        generalize A.next xa = r at *
        obtain ⟨r1, r2⟩ := r
        replace H1 := Aside0.mk H1
        replace hB1 := Aside0.mk hB1
        replace hsz := Aside0.mk hsz
        clear hc hx hR1 c0 c1 c2
        go_enter Try.func16, Try.ntmps16
        go_wp2_with fail
        refine hk.mono ?_
        rintro e w2 ⟨rfl, h2, h3⟩
        replace h2 := Aside0.mk h2
        replace h3 := Aside0.mk h3
        clear hk
        go_wp2
        go_ret2
        exact ⟨by simp, h2.out.ext (Nat.le_trans hB1.out.size h3.out.size), Chg.after_below hB1.out h3.out⟩
end Go.Proofs.Ytljahhgankcalaa

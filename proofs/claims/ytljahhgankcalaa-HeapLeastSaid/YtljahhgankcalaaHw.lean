import Derived.Test.YtljahhgankcalaaHm
/-! The law's puts, and works: the examples. -/
namespace Go.Proofs.Ytljahhgankcalaa
open Go.RowKit Go.Maps Go.MapKept Go.WideMaps
open Go.Proofs.YtljahhgankcalaaW.PrintWords Go.Proofs.YtljahhgankcalaaW.PrintLast Go.Proofs.YtljahhgankcalaaW.PrintMore
open PHeapThere
set_option linter.unusedVariables false
set_option linter.unusedSimpArgs false

set_option maxRecDepth 100000 in
theorem puts_calls (h : Nat) (t : ATup) (sl : Int) (v6 : Value) (A : AH) (F : Nat → Prop) (w : World) (H : HeapIs w h A F) (hA : A.Ok) (hl : A.slots.length < 2147483648)
    (hr : Kd.R kVal 91 w 0 (fun k => ¬ F k) v6 t.f6) (hx : t.f6.length < 3518437208883) :
    Calls Try.prog 44 #[.pointer (some ⟨h, 0, none⟩), .agg #[.int .i64 t.f0, .int .i64 t.f1, .int .i64 t.f2, .int .i64 t.f3, .int .i64 t.f4, .int .i64 t.f5, v6], .int .i64 sl] w fun e w' =>
      e = .returned (.bool (decide ((A.putE t).1 = sl) && decide ((A.putE t).2.1 = 0))) ∧ HeapIs w' h (A.putE t).2.2 (ext F w w') ∧ Chg w w' F := by
  obtain ⟨A6, c6, e6⟩ := Kd.R_slice hr
  subst e6
  obtain ⟨wA, hwA⟩ : ∃ wA, wA = w.alloc (.cells #[.int .i64 t.f0, .int .i64 t.f1, .int .i64 t.f2, .int .i64 t.f3, .int .i64 t.f4, .int .i64 t.f5, .slice A6 t.f6.length c6] 39) := ⟨_, rfl⟩
  have hB1 : Below w.heap.size w wA := by rw [hwA]; exact (Below.refl _ w).alloc (Nat.le_refl _) _
  have hp := put_calls h t (.slice A6 t.f6.length c6) (fun k => ¬ F k) A F wA (H.below hB1) hA hl (Kd.R_below hr hB1) hx (fun k hk hf => hk hf)
  generalize A.putE t = r at *
  obtain ⟨r1, r2, r3⟩ := r
  simp only at hp ⊢
  rw [hwA] at hp hB1
  have HB := Aside0.mk hB1
  clear H hA hl hr hx hB1 hwA
  go_enter Try.func44, Try.ntmps44
  go_wp2_with fail
  refine hp.mono ?_
  rintro e w2 ⟨rfl, h2, h3⟩
  have h23 := Aside0.mk (And.intro h2 h3)
  clear hp h2 h3
  by_cases e1 : r1 = sl
  · have b1 : (r1 == sl) = true := beq_iff_eq.2 e1
    have E1 := Aside0.mk e1
    by_cases e2 : r2 = 0
    · have b2 : (r2 == 0) = true := beq_iff_eq.2 e2
      have E2 := Aside0.mk e2
      clear e1 e2
      go_wp2
      go_ret
      exact ⟨by simp [E1.out, E2.out], ext_trans HB.out.size h23.out.2.size h23.out.1, Chg.after_below HB.out h23.out.2⟩
    · have b2 : (r2 == 0) = false := beq_eq_false_iff_ne.2 e2
      have E2 := Aside0.mk e2
      clear e1 e2
      go_wp2
      go_ret
      exact ⟨by simp [E1.out, E2.out], ext_trans HB.out.size h23.out.2.size h23.out.1, Chg.after_below HB.out h23.out.2⟩
  · have b1 : (r1 == sl) = false := beq_eq_false_iff_ne.2 e1
    have E1 := Aside0.mk e1
    clear e1
    go_wp2
    go_ret
    exact ⟨by simp [E1.out], ext_trans HB.out.size h23.out.2.size h23.out.1, Chg.after_below HB.out h23.out.2⟩
end Go.Proofs.Ytljahhgankcalaa

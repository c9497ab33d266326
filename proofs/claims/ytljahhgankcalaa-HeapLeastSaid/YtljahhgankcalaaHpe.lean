import Derived.Test.YtljahhgankcalaaHp
/-! (*Heap).Put, whatever it is given. -/
namespace Go.Proofs.Ytljahhgankcalaa
open Go.RowKit Go.Maps Go.MapKept Go.WideMaps
open Go.Proofs.YtljahhgankcalaaW.PrintWords Go.Proofs.YtljahhgankcalaaW.PrintLast Go.Proofs.YtljahhgankcalaaW.PrintMore
open PHeapThere
attribute [local go_sem] max2_mx min2_mn max_two min_two
set_option linter.unusedVariables false
set_option linter.unusedSimpArgs false

def badTup (t : ATup) : Prop := t.f0 < 1 ∨ t.f1 < 1 ∨ 2147483647 < t.f0 ∨ 2147483647 < t.f1
instance (t : ATup) : Decidable (badTup t) := by unfold badTup; infer_instance
/-- What Put tells, and leaves. -/
def AH.putE (A : AH) (t : ATup) : Int × Int × AH := if badTup t then (0, 1, A) else ((A.least : Int), 0, A.put t)

theorem put_bad (h : Nat) (no id mi cm ma cx : Int) (A6 : Option Addr) (n6 c6 : Nat) (w : World) (hb : no < 1 ∨ id < 1 ∨ 2147483647 < no ∨ 2147483647 < id) :
    Calls Try.prog 38 #[.pointer (some ⟨h, 0, none⟩), .agg #[.int .i64 no, .int .i64 id, .int .i64 mi, .int .i64 cm, .int .i64 ma, .int .i64 cx, .slice A6 n6 c6]] w fun e w' => e = .returned (.tuple #[.int .i64 0, .int .i64 1]) ∧ Below w.heap.size w w' := by
  by_cases h1 : mn no id < 1
  · have m1 : decide (mn no id < 1) = true := decide_eq_true h1
    clear h1 hb
    go_enter Try.func38, Try.ntmps38
    go_wp2
    go_ret2
    exact ⟨by simp, (Below.refl _ w).alloc (Nat.le_refl _) _⟩
  · have m1 : decide (mn no id < 1) = false := decide_eq_false h1
    have m2 : decide (2147483647 < mx no id) = true := decide_eq_true (by
      unfold mn at h1
      unfold mx
      split at h1 <;> split <;> omega)
    clear h1 hb
    go_enter Try.func38, Try.ntmps38
    go_wp2
    go_ret2
    exact ⟨by simp, (Below.refl _ w).alloc (Nat.le_refl _) _⟩

theorem put_calls (h : Nat) (t : ATup) (v6 : Value) (okv : Nat → Prop) (A : AH) (F : Nat → Prop) (w : World) (H : HeapIs w h A F) (hA : A.Ok) (hl : A.slots.length < 2147483648)
    (hr : Kd.R kVal 91 w 0 okv v6 t.f6) (hx : t.f6.length < 3518437208883) (hd : ∀ k, okv k → ¬ F k) :
    Calls Try.prog 38 #[.pointer (some ⟨h, 0, none⟩), .agg #[.int .i64 t.f0, .int .i64 t.f1, .int .i64 t.f2, .int .i64 t.f3, .int .i64 t.f4, .int .i64 t.f5, v6]] w fun e w' =>
      e = .returned (.tuple #[.int .i64 (A.putE t).1, .int .i64 (A.putE t).2.1]) ∧ HeapIs w' h (A.putE t).2.2 (ext F w w') ∧ Chg w w' F := by
  unfold AH.putE
  by_cases hb : badTup t
  · rw [if_pos hb]
    obtain ⟨a, c, rfl⟩ := Kd.R_slice hr
    refine (put_bad h t.f0 t.f1 t.f2 t.f3 t.f4 t.f5 a _ c w hb).mono ?_
    rintro e w' ⟨rfl, hB⟩
    refine ⟨rfl, ?_, Chg.of_below hB _⟩
    obtain ⟨sv, rb, gb, rg, gg, H⟩ := H
    exact ⟨sv, rb, gb, rg, gg, (H.chg (Chg.of_below hB (fun _ => False)) (fun _ _ h => h)).mono (fun k hk => .inl hk) (fun k hk => by
      rcases hk with hk | hk
      · exact Nat.lt_of_lt_of_le (H.bound k hk) hB.size
      · exact hk.2)⟩
  · rw [if_neg hb]
    unfold badTup at hb
    exact put_ok h t.f0 t.f1 t.f2 t.f3 t.f4 t.f5 v6 t.f6 okv A F w H hA hl hr hx hd (by have := hA.rows_len (t.f0, t.f1); omega) (by omega) (by omega) (by omega) (by omega)
end Go.Proofs.Ytljahhgankcalaa

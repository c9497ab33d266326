import Derived.Test.YtljahhgankcalaaHw
/-! The heap of a law, among blocks newer than the law's start; and works: the examples. -/
namespace Go.Proofs.Ytljahhgankcalaa
open Go.RowKit Go.Maps Go.MapKept Go.WideMaps
open Go.Proofs.YtljahhgankcalaaW.PrintWords Go.Proofs.YtljahhgankcalaaW.PrintLast Go.Proofs.YtljahhgankcalaaW.PrintMore
open PHeapThere
set_option linter.unusedVariables false
set_option linter.unusedSimpArgs false

/-- The blocks made since w0. -/
def newer (w0 w : World) (k : Nat) : Prop := w0.heap.size ≤ k ∧ k < w.heap.size
/-- In w the heap at h reads as A, by blocks made since w0 alone; all else stands. -/
structure St (w0 w : World) (h : Nat) (A : AH) : Prop where
  is : HeapIs w h A (newer w0 w)
  bel : Below w0.heap.size w0 w

theorem St.after {w0 w w' : World} {h : Nat} {A A' : AH} (H : St w0 w h A) (h1 : HeapIs w' h A' (ext (newer w0 w) w w')) (h2 : Chg w w' (newer w0 w)) : St w0 w' h A' := by
  have hs := H.bel.size
  have hs2 := h2.size
  refine ⟨?_, H.bel.trans (h2.below (by omega) (fun k hk => hk.1))⟩
  obtain ⟨sv, rb, gb, rg, gg, h1⟩ := h1
  exact ⟨sv, rb, gb, rg, gg, h1.mono (fun k hk => by
    rcases hk with hk | hk
    · exact ⟨hk.1, by have := hk.2; omega⟩
    · exact ⟨by omega, hk.2⟩) (fun k hk => hk.2)⟩
theorem St.after0 {w0 w w' : World} {h : Nat} {A A' : AH} (H : St w0 w h A) (h1 : HeapIs w' h A' (newer w0 w)) (h2 : Chg w w' (newer w0 w)) : St w0 w' h A' :=
  H.after (h1.ext h2.size) h2
theorem St.below {w0 w w' : World} {h : Nat} {A : AH} (H : St w0 w h A) (hB : Below w.heap.size w w') : St w0 w' h A :=
  H.after (H.is.ext_below hB) (Chg.of_below hB _)
theorem St.drew {w0 w : World} {h : Nat} {A : AH} (H : St w0 w h A) : St w0 w.drew h A := H.below (Below.refl _ _).drew
theorem St.alloc {w0 w : World} {h : Nat} {A : AH} (H : St w0 w h A) (o : Obj) : St w0 (w.alloc o) h A := H.below ((Below.refl _ w).alloc (Nat.le_refl _) o)

theorem St.start (w0 : World) (w : World) (hB : Below w0.heap.size w0 w) : Calls Try.prog 15 #[] w fun e w' => ∃ h, e = .returned (.pointer (some ⟨h, 0, none⟩)) ∧ St w0 w' h AH.empty := by
  refine (new_calls w).mono ?_
  rintro e w' ⟨h, rfl, h1, h2⟩
  refine ⟨h, rfl, ?_, hB.trans (h2.mono hB.size)⟩
  obtain ⟨sv, rb, gb, rg, gg, h1⟩ := h1
  have hs := hB.size
  exact ⟨sv, rb, gb, rg, gg, h1.mono (fun k hk => by
    rcases hk with hk | hk
    · exact hk.elim
    · exact ⟨by omega, hk.2⟩) (fun k hk => hk.2)⟩
section
variable {w0 w : World} {h : Nat} {A : AH}
theorem St.next (H : St w0 w h A) (hA : A.Ok) (no : Int) :
    Calls Try.prog 42 #[.pointer (some ⟨h, 0, none⟩), .int .i64 no] w fun e w' => e = .returned (.int .i64 (A.next no).1) ∧ St w0 w' h (A.next no).2 := by
  refine (next_calls h no A _ w H.is hA).mono ?_
  rintro e w' ⟨rfl, h1, h2⟩
  exact ⟨rfl, H.after0 h1 h2⟩
theorem St.kill (H : St w0 w h A) (s x c : Int) :
    Calls Try.prog 40 #[.pointer (some ⟨h, 0, none⟩), .int .i64 s, .int .i64 x, .int .i64 c] w fun e w' => e = .returned (.int .i64 (A.kill s x c).1) ∧ St w0 w' h (A.kill s x c).2 := by
  refine (kill_calls h s x c A _ w H.is).mono ?_
  rintro e w' ⟨rfl, h1, h2⟩
  exact ⟨rfl, H.after0 h1 h2⟩
theorem St.free (H : St w0 w h A) (hA : A.Ok) (hl : A.slots.length < 2147483648) (s : Int) :
    Calls Try.prog 41 #[.pointer (some ⟨h, 0, none⟩), .int .i64 s] w fun e w' => e = .returned (.int .i64 (A.free s).1) ∧ St w0 w' h (A.free s).2 := by
  refine (freed_calls h s A _ w H.is hA hl).mono ?_
  rintro e w' ⟨rfl, h1, h2⟩
  exact ⟨rfl, H.after h1 h2⟩
theorem St.len (H : St w0 w h A) :
    Calls Try.prog 19 #[.pointer (some ⟨h, 0, none⟩)] w fun e w' => e = .returned (.int .i64 A.many) ∧ w' = w := len_calls h A _ w H.is
theorem St.step (H : St w0 w h A) (hA : A.Ok) (hl : A.slots.length < 2147483648) (s : AStep) (A7 : Option Addr) (c7 : Nat)
    (hr : Kd.C kVal w A7 s.f1.f6.length s.f1.f6) (hc : s.f1.f6.length ≤ c7) (hx : s.f1.f6.length < 3518437208883) :
    Calls Try.prog 16 #[.agg (stepCells s A7 c7), .pointer (some ⟨h, 0, none⟩)] w fun e w' => e = .returned (.tuple #[.int .i64 (A.step s).1, .int .i64 (A.step s).2.1]) ∧ St w0 w' h (A.step s).2.2 := by
  refine (do_calls h s A7 c7 A _ w H.is hA hl hr hc hx).mono ?_
  rintro e w' ⟨rfl, h1, h2⟩
  exact ⟨rfl, H.after h1 h2⟩
/-- puts, of a tuple that was made since w. -/
theorem St.puts (H : St w0 w h A) (hA : A.Ok) (hl : A.slots.length < 2147483648) (t : ATup) (sl : Int) (v6 : Value) {w1 : World} (hB : Below w.heap.size w w1) (hr : Kd.R kVal 91 w1 w.heap.size (fun _ => True) v6 t.f6) (hx : t.f6.length < 3518437208883) :
    Calls Try.prog 44 #[.pointer (some ⟨h, 0, none⟩), .agg #[.int .i64 t.f0, .int .i64 t.f1, .int .i64 t.f2, .int .i64 t.f3, .int .i64 t.f4, .int .i64 t.f5, v6], .int .i64 sl] w1 fun e w' =>
      e = .returned (.bool (decide ((A.putE t).1 = sl) && decide ((A.putE t).2.1 = 0))) ∧ St w0 w' h (A.putE t).2.2 := by
  refine (puts_calls h t sl v6 A (newer w0 w) w1 (H.is.below hB) hA hl (Kd.R_lower (Kd.R_mono (Kd.R_bound hr) (fun k hk hf => by
    have h1 := hk.2.1
    have h2 := hf.2
    omega)) (Nat.zero_le _)) hx).mono ?_
  rintro e w' ⟨rfl, h1, h2⟩
  exact ⟨rfl, H.after (ext_trans hB.size h2.size h1) (Chg.after_below hB h2)⟩
end

/-- The heap of works, step by step. -/
def tp (a b : Int) : ATup := ⟨a, b, 3, 0, 0, 0, []⟩
def B0 : AH := AH.empty
def B1 : AH := (B0.next 1).2
def B2 : AH := (B1.next 1).2
def B3 : AH := (B2.next 2).2
def B4 : AH := (B3.putE (tp 1 2)).2.2
def B5 : AH := (B4.putE (tp 1 2)).2.2
def B6 : AH := (B5.free 0).2
def B7 : AH := (B6.putE (tp 1 2)).2.2
def B8 : AH := (B7.putE (tp 1 7)).2.2
def B9 : AH := (B8.next 1).2
def B10 : AH := (B9.kill 5 1 1).2
theorem AH.Ok.putE {A : AH} (hA : A.Ok) (t : ATup) : (A.putE t).2.2.Ok := by
  unfold AH.putE
  split
  · exact hA
  · rename_i h
    exact hA.put _ h
theorem B0_ok : B0.Ok := AH.empty_ok
theorem B1_ok : B1.Ok := B0_ok.next 1
theorem B2_ok : B2.Ok := B1_ok.next 1
theorem B3_ok : B3.Ok := B2_ok.next 2
theorem B4_ok : B4.Ok := B3_ok.putE _
theorem B5_ok : B5.Ok := B4_ok.putE _
theorem B6_ok : B6.Ok := B5_ok.free 0
theorem B7_ok : B7.Ok := B6_ok.putE _
theorem B8_ok : B8.Ok := B7_ok.putE _
theorem B9_ok : B9.Ok := B8_ok.next 1
theorem B1_1 : (B0.next 1).1 = 1 := by decide +kernel
theorem B2_1 : (B1.next 1).1 = 2 := by decide +kernel
theorem B3_1 : (B2.next 2).1 = 1 := by decide +kernel
theorem B4_1 : (decide ((B3.putE (tp 1 2)).1 = 0) && decide ((B3.putE (tp 1 2)).2.1 = 0)) = true := by decide +kernel
theorem B5_1 : (decide ((B4.putE (tp 1 2)).1 = 1) && decide ((B4.putE (tp 1 2)).2.1 = 0)) = true := by decide +kernel
theorem B6_1 : (B5.free 0).1 = 0 := by decide +kernel
theorem B7_1 : (decide ((B6.putE (tp 1 2)).1 = 0) && decide ((B6.putE (tp 1 2)).2.1 = 0)) = true := by decide +kernel
theorem B7_s : B7.rows (1, 2) = [1, 0] := by decide +kernel
theorem B8_1 : (decide ((B7.putE (tp 1 7)).1 = 2) && decide ((B7.putE (tp 1 7)).2.1 = 0)) = true := by decide +kernel
theorem B9_1 : (B8.next 1).1 = 8 := by decide +kernel
theorem B10_1 : (B9.kill 5 1 1).1 = 1 := by decide +kernel
theorem B10_m : B10.many = 3 := by decide +kernel
theorem B_len : B3.slots.length = 0 ∧ B4.slots.length = 1 ∧ B5.slots.length = 2 ∧ B6.slots.length = 2 ∧ B7.slots.length = 2 := by decide +kernel
end Go.Proofs.Ytljahhgankcalaa

import Derived.Test.YtljahhgankcalaaHaM
/-! A law's step, done. -/
namespace Go.Proofs.Ytljahhgankcalaa
open Go.RowKit Go.Maps Go.MapKept Go.WideMaps
open Go.Proofs.YtljahhgankcalaaW.PrintWords Go.Proofs.YtljahhgankcalaaW.PrintLast Go.Proofs.YtljahhgankcalaaW.PrintMore
open PHeapThere
set_option linter.unusedVariables false
set_option linter.unusedSimpArgs false

abbrev AStep := S34
abbrev kStep : Kd AStep := k34
abbrev zStep : AStep := z34

/-- What a step tells, and leaves. -/
def AH.step (A : AH) (s : AStep) : Int × Int × AH :=
  if s.f0 = 0 then A.putE s.f1
  else if s.f0 = 1 then (0, (A.kill s.f2 s.f3 s.f4).1, (A.kill s.f2 s.f3 s.f4).2)
  else if s.f0 = 2 then (0, (A.free s.f2).1, (A.free s.f2).2)
  else ((A.next s.f3).1, 0, (A.next s.f3).2)

def stepCells (s : AStep) (A7 : Option Addr) (c7 : Nat) : Array Value :=
  #[.int .u8 s.f0, .int .i64 s.f1.f0, .int .i64 s.f1.f1, .int .i64 s.f1.f2, .int .i64 s.f1.f3, .int .i64 s.f1.f4, .int .i64 s.f1.f5, .slice A7 s.f1.f6.length c7, .int .i64 s.f2, .int .i64 s.f3, .int .i64 s.f4]

theorem ext_trans {F : Nat → Prop} {w w1 w2 : World} {h : Nat} {A : AH} (h1 : w.heap.size ≤ w1.heap.size) (h2 : w1.heap.size ≤ w2.heap.size) (H : HeapIs w2 h A (ext F w1 w2)) : HeapIs w2 h A (ext F w w2) := by
  obtain ⟨sv, rb, gb, rg, gg, H⟩ := H
  exact ⟨sv, rb, gb, rg, gg, H.mono (fun k hk => by
    rcases hk with hk | hk
    · exact .inl hk
    · exact .inr ⟨by omega, hk.2⟩) (fun k hk => by
    rcases hk with hk | hk
    · exact H.bound k (.inl hk)
    · exact hk.2)⟩
theorem Chg.after_below {w w1 w2 : World} {S : Nat → Prop} (hb : Below w.heap.size w w1) (hc : Chg w1 w2 S) : Chg w w2 S :=
  (Chg.of_below hb S).trans hc (fun _ _ h => h) (fun _ _ h => h)

end Go.Proofs.Ytljahhgankcalaa

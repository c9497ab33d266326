import Derived.Test.YtljahhgankcalaaHtpM
import Derived.BigQuiet
/-! A step's cells, in whatever world a law has come to. -/
namespace Go.Proofs.Ytljahhgankcalaa
open Go.RowKit Go.Maps Go.MapKept Go.WideMaps
open Go.Proofs.YtljahhgankcalaaW.PrintWords Go.Proofs.YtljahhgankcalaaW.PrintLast Go.Proofs.YtljahhgankcalaaW.PrintMore
open PHeapThere
set_option linter.unusedVariables false

/-- The cells of a step that was handed in, in whatever world the law has come to. -/
theorem stepCellsIn {w : World} {A : Option Addr} {n : Nat} {xs : List AStep} (h : Kd.C kStep w A n xs) (i : Nat) (hi : (i : Int) < n) : ∃ ad A7 c7, A = some ad ∧ (rd_T34 xs i).f1.f6.length ≤ c7 ∧ Kd.C kVal w A7 (rd_T34 xs i).f1.f6.length (rd_T34 xs i).f1.f6 ∧
    ∀ w1, Below w.heap.size w w1 → w1.cell? (ad.add (i * 11)) = some (.int .u8 (rd_T34 xs i).f0) ∧ w1.cell? ⟨(ad.add (i * 11)).block, (ad.add (i * 11)).off + 1, none⟩ = some (.int .i64 (rd_T34 xs i).f1.f0) ∧
      w1.cell? ⟨(ad.add (i * 11)).block, (ad.add (i * 11)).off + 2, none⟩ = some (.int .i64 (rd_T34 xs i).f1.f1) ∧ w1.cell? ⟨(ad.add (i * 11)).block, (ad.add (i * 11)).off + 3, none⟩ = some (.int .i64 (rd_T34 xs i).f1.f2) ∧
      w1.cell? ⟨(ad.add (i * 11)).block, (ad.add (i * 11)).off + 4, none⟩ = some (.int .i64 (rd_T34 xs i).f1.f3) ∧ w1.cell? ⟨(ad.add (i * 11)).block, (ad.add (i * 11)).off + 5, none⟩ = some (.int .i64 (rd_T34 xs i).f1.f4) ∧
      w1.cell? ⟨(ad.add (i * 11)).block, (ad.add (i * 11)).off + 6, none⟩ = some (.int .i64 (rd_T34 xs i).f1.f5) ∧ w1.cell? ⟨(ad.add (i * 11)).block, (ad.add (i * 11)).off + 7, none⟩ = some (.slice A7 (rd_T34 xs i).f1.f6.length c7) ∧
      w1.cell? ⟨(ad.add (i * 11)).block, (ad.add (i * 11)).off + 8, none⟩ = some (.int .i64 (rd_T34 xs i).f2) ∧ w1.cell? ⟨(ad.add (i * 11)).block, (ad.add (i * 11)).off + 9, none⟩ = some (.int .i64 (rd_T34 xs i).f3) ∧
      w1.cell? ⟨(ad.add (i * 11)).block, (ad.add (i * 11)).off + 10, none⟩ = some (.int .i64 (rd_T34 xs i).f4) := by
  obtain ⟨ad, A7, c7, e1, x0, x1, x2, x3, x4, x5, x6, x7, x8, x9, x10, hc7, hr7⟩ := at_T34 h i (by omega) hi
  simp only [Int.toNat_natCast] at x0 x1 x2 x3 x4 x5 x6 x7 x8 x9 x10
  have mv : ∀ (w1 : World) (p : Addr) (v : Value), Below w.heap.size w w1 → w.cell? p = some v → w1.cell? p = some v := fun w1 p v hb hp => (hb.cell (p := p) (World.block_lt_of_cell? w _ hp)).trans hp
  exact ⟨ad, A7, c7, e1, hc7, hr7, fun w1 hb => ⟨mv w1 _ _ hb x0, mv w1 _ _ hb x1, mv w1 _ _ hb x2, mv w1 _ _ hb x3, mv w1 _ _ hb x4, mv w1 _ _ hb x5, mv w1 _ _ hb x6, mv w1 _ _ hb x7, mv w1 _ _ hb x8, mv w1 _ _ hb x9, mv w1 _ _ hb x10⟩⟩

end Go.Proofs.Ytljahhgankcalaa

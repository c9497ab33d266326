import Derived.Test.YtljahhgankcalaaRw
import Derived.Test.YtljahhgankcalaaPHeapTherex2
import Derived.DeepKeys4
/-! The heap of versions as a value ('AH'), and what it is in memory ('HeapIs'). -/
namespace Go.Proofs.Ytljahhgankcalaa
open Go.RowKit Go.Maps Go.MapKept Go.WideMaps
open Go.Proofs.YtljahhgankcalaaW.PrintWords Go.Proofs.YtljahhgankcalaaW.PrintLast Go.Proofs.YtljahhgankcalaaW.PrintMore
open PHeapThere
set_option linter.unusedVariables false

abbrev AVal := S91
abbrev ATup := S32
abbrev kVal : Kd AVal := k91
abbrev kTup : Kd ATup := k32
abbrev zTup : ATup := z32

theorem Try.laidOut : laidOutB Try.prog = true := by kernel_rfl
theorem recWhere : Try.prog.readableRec 128 = true := by kernel_rfl
theorem rowWhere : Nat.blt 128 Try.prog.types.size = true := by kernel_rfl
theorem rowWhere' : (128 : Nat) < Try.prog.types.size := by
  have h := rowWhere
  rw [Nat.blt_eq] at h
  exact h
theorem wideWhere : (match Try.prog.underlying 128 with | some (.array _ _) | some (.struct _) => true | _ => false) = true := by kernel_rfl
theorem deepWhere : Try.prog.keyTypeAt 2 128 = true := by kernel_rfl
theorem lawWhere : KeyLaw Try.prog 128 := deep_law_laid Try.laidOut (m := 2) (by omega) rowWhere' deepWhere (by kernel_rfl)
theorem cellsInt : Try.prog.cellsOf 3 = 1 := by kernel_rfl
theorem keyTypeWhere : Try.prog.keyType 128 = true := by kernel_rfl
theorem cellsWhere : Try.prog.cellsOf 128 = 2 := by kernel_rfl

def kvW (p : Int × Int) : Value := .agg #[.int .i64 p.1, .int .i64 p.2]
def okI (a : Int) : Prop := (Lit.int .i64 a).wf = true
def okW (p : Int × Int) : Prop := okI p.1 ∧ okI p.2

theorem okI_of {a : Int} (h0 : -9223372036854775808 ≤ a) (h1 : a ≤ 9223372036854775807) : okI a := by
  unfold okI
  exact WalkArith.wf_i64 ⟨h0, h1⟩
theorem keyOfWhere (p : Int × Int) (h : okW p) : ∃ l, keyOf Try.prog 128 (kvW p) = some l := by
  obtain ⟨h1, h2⟩ := h
  unfold okI at h1 h2
  have hf : (kvW p).formed Try.prog 128 = true := by simp [kvW, Value.formed, Try.underlying128, cellsWhere]
  obtain ⟨d, hd⟩ : ∃ d, Try.prog.types.size = d + 1 := ⟨Try.prog.types.size - 1, by have := rowWhere'; omega⟩
  have hl : Try.prog.keyLits (Try.prog.types.size + 1) 128 (kvW p).cells.toList = some [.int .i64 p.1, .int .i64 p.2] := by
    rw [hd]
    simp [Program.keyLits, Try.underlying128, Try.underlying3, cellsWhere, kvW, Value.cells, cellsInt, h1, h2]
  unfold keyOf
  rw [hl]
  simp [Try.underlying128, hf, keyTypeWhere]
theorem keyWhere : KeyEnc Try.prog 128 kvW okW :=
  ⟨Keyed.of_law lawWhere, keyOfWhere, fun a b h => by
    simp [kvW] at h
    exact Prod.ext h.1 h.2⟩
theorem keyInt : KeyEnc Try.prog 3 (Value.int .i64) okI := intKey Try.underlying3

/-- The heap as a value: its slots (a free one has no table), each row's slots, the greatest ID of each table, how many tuples. -/
structure AH where
  slots : List ATup
  rows : Int × Int → List Int
  given : Int → Int
  many : Int

/-- In world w the heap at block h reads as A, by the blocks of F alone. -/
structure HeapAt (w : World) (h : Nat) (A : AH) (F : Nat → Prop) (sv : Value) (rb gb : Nat) (rg : Int × Int → Option Value) (gg : Int → Option Int) : Prop where
  blk : w.heap[h]? = some (.cells #[sv, .map (some rb), .map (some gb), .int .i64 A.many] 106 (0, 0))
  slots : Kd.R kTup 39 w 0 F sv A.slots
  rmap : MapOf kvW id okW w rb rg
  gmap : MapOf (Value.int .i64) (Value.int .i64) okI w gb gg
  rowv : ∀ p v, rg p = some v → Kd.R (Kd.int .i64) 3 w 0 F v (A.rows p) ∧ A.rows p ≠ []
  rown : ∀ p, rg p = none → A.rows p = []
  apart : ∀ p q u v b, rg p = some u → rg q = some v → u.ownBlock = some b → v.ownBlock = some b → p = q
  givn : ∀ no, (gg no).getD 0 = A.given no
  hF : F h
  rF : F rb
  gF : F gb
  ne : rb ≠ gb
  bound : ∀ k, F k → k < w.heap.size
def HeapIs (w : World) (h : Nat) (A : AH) (F : Nat → Prop) : Prop := ∃ sv rb gb rg gg, HeapAt w h A F sv rb gb rg gg

/-- F, and what has been made from w to w1. -/
def ext (F : Nat → Prop) (w w1 : World) (k : Nat) : Prop := F k ∨ (w.heap.size ≤ k ∧ k < w1.heap.size)

section
variable {w w1 : World} {h : Nat} {A : AH} {F S : Nat → Prop} {sv : Value} {rb gb : Nat} {rg : Int × Int → Option Value} {gg : Int → Option Int}
theorem HeapAt.move (H : HeapAt w h A F sv rb gb rg gg) (hm : ∀ k, F k → w1.heap[k]? = w.heap[k]?) (hs : w.heap.size ≤ w1.heap.size) : HeapAt w1 h A F sv rb gb rg gg where
  blk := (hm h H.hF).trans H.blk
  slots := Kd.R_step H.slots (fun k hk _ => hm k hk)
  rmap := H.rmap.move (hm rb H.rF)
  gmap := H.gmap.move (hm gb H.gF)
  rowv := fun p v hp => ⟨Kd.R_step (H.rowv p v hp).1 (fun k hk _ => hm k hk), (H.rowv p v hp).2⟩
  rown := H.rown
  apart := H.apart
  givn := H.givn
  hF := H.hF
  rF := H.rF
  gF := H.gF
  ne := H.ne
  bound := fun k hk => Nat.lt_of_lt_of_le (H.bound k hk) hs
theorem HeapAt.chg (H : HeapAt w h A F sv rb gb rg gg) (hc : Chg w w1 S) (hS : ∀ k, F k → ¬ S k) : HeapAt w1 h A F sv rb gb rg gg :=
  H.move (fun k hk => hc.block k (H.bound k hk) (hS k hk)) hc.size
theorem HeapIs.chg (H : HeapIs w h A F) (hc : Chg w w1 S) (hS : ∀ k, F k → ¬ S k) : HeapIs w1 h A F := by
  obtain ⟨sv, rb, gb, rg, gg, H⟩ := H
  exact ⟨sv, rb, gb, rg, gg, H.chg hc hS⟩
theorem HeapIs.below (H : HeapIs w h A F) (hb : Below w.heap.size w w1) : HeapIs w1 h A F := H.chg (Chg.of_below hb (fun _ => False)) (fun _ _ h => h)
theorem HeapIs.bound (H : HeapIs w h A F) : ∀ k, F k → k < w.heap.size := by
  obtain ⟨sv, rb, gb, rg, gg, H⟩ := H
  exact H.bound
theorem HeapIs.hF (H : HeapIs w h A F) : F h := by
  obtain ⟨sv, rb, gb, rg, gg, H⟩ := H
  exact H.hF
theorem HeapAt.mono {G : Nat → Prop} (H : HeapAt w h A F sv rb gb rg gg) (hFG : ∀ k, F k → G k) (hG : ∀ k, G k → k < w.heap.size) : HeapAt w h A G sv rb gb rg gg where
  blk := H.blk
  slots := Kd.R_mono H.slots hFG
  rmap := H.rmap
  gmap := H.gmap
  rowv := fun p v hp => ⟨Kd.R_mono (H.rowv p v hp).1 hFG, (H.rowv p v hp).2⟩
  rown := H.rown
  apart := H.apart
  givn := H.givn
  hF := hFG _ H.hF
  rF := hFG _ H.rF
  gF := hFG _ H.gF
  ne := H.ne
  bound := hG
theorem HeapAt.cell (H : HeapAt w h A F sv rb gb rg gg) (i : Nat) : w.cell? ⟨h, i, none⟩ = #[sv, .map (some rb), .map (some gb), .int .i64 A.many][i]? := blk_cell H.blk i
theorem HeapAt.frozen (H : HeapAt w h A F sv rb gb rg gg) (i : Nat) : w.frozen? ⟨h, i, none⟩ = false := blk_frozen H.blk i
end

def AH.at (A : AH) (s : Int) : ATup := A.slots.getD s.toNat zTup
def AH.there (A : AH) (s : Int) : Bool := decide (0 ≤ s) && decide (s < (A.slots.length : Int)) && decide (0 < (A.at s).f0)
/-- What the code goes by: the numbers hang together. -/
structure AH.Ok (A : AH) : Prop where
  given0 : ∀ no, 0 ≤ A.given no ∧ A.given no ≤ 2147483647
  many : A.many = ((A.slots.filter (fun t => t.f0 != 0)).length : Nat)
  pos : ∀ t ∈ A.slots, 0 ≤ t.f0
  rows : ∀ p s, s ∈ A.rows p ↔ A.there s = true ∧ ((A.at s).f0, (A.at s).f1) = p
  nodup : ∀ p, (A.rows p).Nodup

theorem AH.there_iff (A : AH) (s : Int) : A.there s = true ↔ 0 ≤ s ∧ s < (A.slots.length : Int) ∧ 0 < (A.at s).f0 := by
  simp [AH.there, and_assoc]
/-- Numbers below n, none twice, are no more than n. -/
theorem nodup_below : ∀ (n : Nat) (l : List Int), l.Nodup → (∀ x ∈ l, 0 ≤ x ∧ x < (n : Int)) → l.length ≤ n
  | 0, l, _, h => by
    cases l with
    | nil => simp
    | cons x l => have := h x (by simp); omega
  | n + 1, l, hn, h => by
    have h1 := nodup_below n (l.erase (n : Int)) (hn.erase _) (fun x hx => by
      have h2 := h x (List.mem_of_mem_erase hx)
      have h3 : x ≠ (n : Int) := fun e => by
        rw [hn.mem_erase_iff] at hx
        exact hx.1 e
      omega)
    have h4 := List.length_erase (a := (n : Int)) (l := l)
    split at h4 <;> omega
theorem AH.Ok.rows_len {A : AH} (hA : A.Ok) (p : Int × Int) : (A.rows p).length ≤ A.slots.length :=
  nodup_below _ _ (hA.nodup p) (fun x hx => by
    have := (A.there_iff x).1 ((hA.rows p x).1 hx).1
    omega)
end Go.Proofs.Ytljahhgankcalaa

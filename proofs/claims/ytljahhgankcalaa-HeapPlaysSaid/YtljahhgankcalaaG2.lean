import Derived.Test.YtljahhgankcalaaRw
import Derived.Test.YtljahhgankcalaaPHeapTherex2
import Derived.DeepKeys4
import Derived.WalkSpells
/-! The heap of versions as a value ('AH'), and what it is in memory ('HeapIs'). -/
namespace Go.Proofs.Ytljahhgankcalaa
open Go.RowKit Go.Maps Go.MapKept Go.WideMaps
open Go.Proofs.YtljahhgankcalaaW.PrintWords Go.Proofs.YtljahhgankcalaaW.PrintLast Go.Proofs.YtljahhgankcalaaW.PrintMore
open PHeapThere
set_option linter.unusedVariables false

abbrev AVal := S91
abbrev ATup := S32
abbrev kVal : Kd AVal := k91
abbrev kTup : Kd ATup := k32
abbrev zTup : ATup := z32

theorem Try.laidOut : laidOutB Try.prog = true := by kernel_rfl
theorem recWhere : Try.prog.readableRec 128 = true := by kernel_rfl
theorem rowWhere : Nat.blt 128 Try.prog.types.size = true := by kernel_rfl
theorem rowWhere' : (128 : Nat) < Try.prog.types.size := by
  have h := rowWhere
  rw [Nat.blt_eq] at h
  exact h
theorem wideWhere : (match Try.prog.underlying 128 with | some (.array _ _) | some (.struct _) => true | _ => false) = true := by kernel_rfl
theorem deepWhere : Try.prog.keyTypeAt 2 128 = true := by kernel_rfl
theorem lawWhere : KeyLaw Try.prog 128 := deep_law_laid Try.laidOut (m := 2) (by omega) rowWhere' deepWhere (by kernel_rfl)
theorem cellsInt : Try.prog.cellsOf 3 = 1 := by kernel_rfl
theorem keyTypeWhere : Try.prog.keyType 128 = true := by kernel_rfl
theorem cellsWhere : Try.prog.cellsOf 128 = 2 := by kernel_rfl

def kvW (p : Int × Int) : Value := .agg #[.int .i64 p.1, .int .i64 p.2]
def okI (a : Int) : Prop := (Lit.int .i64 a).wf = true
def okW (p : Int × Int) : Prop := okI p.1 ∧ okI p.2

theorem okI_of {a : Int} (h0 : -9223372036854775808 ≤ a) (h1 : a ≤ 9223372036854775807) : okI a := by
  unfold okI
  exact WalkArith.wf_i64 ⟨h0, h1⟩
theorem keyOfWhere (p : Int × Int) (h : okW p) : ∃ l, keyOf Try.prog 128 (kvW p) = some l := by
  obtain ⟨h1, h2⟩ := h
  unfold okI at h1 h2
  have hf : (kvW p).formed Try.prog 128 = true := by simp [kvW, Value.formed, Try.underlying128, cellsWhere]
  obtain ⟨d, hd⟩ : ∃ d, Try.prog.types.size = d + 1 := ⟨Try.prog.types.size - 1, by have := rowWhere'; omega⟩
  have hl : Try.prog.keyLits (Try.prog.types.size + 1) 128 (kvW p).cells.toList = some [.int .i64 p.1, .int .i64 p.2] := by
    rw [hd]
    simp [Program.keyLits, Try.underlying128, Try.underlying3, cellsWhere, kvW, Value.cells, cellsInt, h1, h2]
  unfold keyOf
  rw [hl]
  simp [Try.underlying128, hf, keyTypeWhere]
theorem keyWhere : KeyEnc Try.prog 128 kvW okW :=
  ⟨Keyed.of_law lawWhere, keyOfWhere, fun a b h => by
    simp [kvW] at h
    exact Prod.ext h.1 h.2⟩
theorem keyInt : KeyEnc Try.prog 3 (Value.int .i64) okI := intKey Try.underlying3

/-- The heap as a value: its slots (a free one has no table), each row's slots, the greatest ID of each table, how many tuples. -/
structure AH where
  slots : List ATup
  rows : Int × Int → List Int
  given : Int → Int
  many : Int

/-- In world w the heap at block h reads as A, by the blocks of F alone. -/
structure HeapAt (w : World) (h : Nat) (A : AH) (F : Nat → Prop) (sv : Value) (rb gb : Nat) (rg : Int × Int → Option Value) (gg : Int → Option Int) : Prop where
  blk : w.heap[h]? = some (.cells #[sv, .map (some rb), .map (some gb), .int .i64 A.many] 106 (0, 0))
  slots : Kd.R kTup 39 w 0 F sv A.slots
  rmap : MapOf kvW id okW w rb rg
  gmap : MapOf (Value.int .i64) (Value.int .i64) okI w gb gg
  rowv : ∀ p v, rg p = some v → Kd.R (Kd.int .i64) 3 w 0 F v (A.rows p) ∧ A.rows p ≠ []
  rown : ∀ p, rg p = none → A.rows p = []
  apart : ∀ p q u v b, rg p = some u → rg q = some v → u.ownBlock = some b → v.ownBlock = some b → p = q
  givn : ∀ no, (gg no).getD 0 = A.given no
  hF : F h
  rF : F rb
  gF : F gb
  ne : rb ≠ gb
  bound : ∀ k, F k → k < w.heap.size
def HeapIs (w : World) (h : Nat) (A : AH) (F : Nat → Prop) : Prop := ∃ sv rb gb rg gg, HeapAt w h A F sv rb gb rg gg

/-- F, and what has been made from w to w1. -/
def ext (F : Nat → Prop) (w w1 : World) (k : Nat) : Prop := F k ∨ (w.heap.size ≤ k ∧ k < w1.heap.size)

section
variable {w w1 : World} {h : Nat} {A : AH} {F S : Nat → Prop} {sv : Value} {rb gb : Nat} {rg : Int × Int → Option Value} {gg : Int → Option Int}
theorem HeapAt.move (H : HeapAt w h A F sv rb gb rg gg) (hm : ∀ k, F k → w1.heap[k]? = w.heap[k]?) (hs : w.heap.size ≤ w1.heap.size) : HeapAt w1 h A F sv rb gb rg gg where
  blk := (hm h H.hF).trans H.blk
  slots := Kd.R_step H.slots (fun k hk _ => hm k hk)
  rmap := H.rmap.move (hm rb H.rF)
  gmap := H.gmap.move (hm gb H.gF)
  rowv := fun p v hp => ⟨Kd.R_step (H.rowv p v hp).1 (fun k hk _ => hm k hk), (H.rowv p v hp).2⟩
  rown := H.rown
  apart := H.apart
  givn := H.givn
  hF := H.hF
  rF := H.rF
  gF := H.gF
  ne := H.ne
  bound := fun k hk => Nat.lt_of_lt_of_le (H.bound k hk) hs
theorem HeapAt.chg (H : HeapAt w h A F sv rb gb rg gg) (hc : Chg w w1 S) (hS : ∀ k, F k → ¬ S k) : HeapAt w1 h A F sv rb gb rg gg :=
  H.move (fun k hk => hc.block k (H.bound k hk) (hS k hk)) hc.size
theorem HeapIs.chg (H : HeapIs w h A F) (hc : Chg w w1 S) (hS : ∀ k, F k → ¬ S k) : HeapIs w1 h A F := by
  obtain ⟨sv, rb, gb, rg, gg, H⟩ := H
  exact ⟨sv, rb, gb, rg, gg, H.chg hc hS⟩
theorem HeapIs.below (H : HeapIs w h A F) (hb : Below w.heap.size w w1) : HeapIs w1 h A F := H.chg (Chg.of_below hb (fun _ => False)) (fun _ _ h => h)
theorem HeapIs.bound (H : HeapIs w h A F) : ∀ k, F k → k < w.heap.size := by
  obtain ⟨sv, rb, gb, rg, gg, H⟩ := H
  exact H.bound
theorem HeapIs.hF (H : HeapIs w h A F) : F h := by
  obtain ⟨sv, rb, gb, rg, gg, H⟩ := H
  exact H.hF
theorem HeapAt.mono {G : Nat → Prop} (H : HeapAt w h A F sv rb gb rg gg) (hFG : ∀ k, F k → G k) (hG : ∀ k, G k → k < w.heap.size) : HeapAt w h A G sv rb gb rg gg where
  blk := H.blk
  slots := Kd.R_mono H.slots hFG
  rmap := H.rmap
  gmap := H.gmap
  rowv := fun p v hp => ⟨Kd.R_mono (H.rowv p v hp).1 hFG, (H.rowv p v hp).2⟩
  rown := H.rown
  apart := H.apart
  givn := H.givn
  hF := hFG _ H.hF
  rF := hFG _ H.rF
  gF := hFG _ H.gF
  ne := H.ne
  bound := hG
theorem HeapAt.cell (H : HeapAt w h A F sv rb gb rg gg) (i : Nat) : w.cell? ⟨h, i, none⟩ = #[sv, .map (some rb), .map (some gb), .int .i64 A.many][i]? := blk_cell H.blk i
theorem HeapAt.frozen (H : HeapAt w h A F sv rb gb rg gg) (i : Nat) : w.frozen? ⟨h, i, none⟩ = false := blk_frozen H.blk i
end

def AH.at (A : AH) (s : Int) : ATup := A.slots.getD s.toNat zTup
def AH.there (A : AH) (s : Int) : Bool := decide (0 ≤ s) && decide (s < (A.slots.length : Int)) && decide (0 < (A.at s).f0)
/-- What the code goes by: the numbers hang together. -/
structure AH.Ok (A : AH) : Prop where
  given0 : ∀ no, 0 ≤ A.given no ∧ A.given no ≤ 2147483647
  many : A.many = ((A.slots.filter (fun t => t.f0 != 0)).length : Nat)
  pos : ∀ t ∈ A.slots, 0 ≤ t.f0
  rows : ∀ p s, s ∈ A.rows p ↔ A.there s = true ∧ ((A.at s).f0, (A.at s).f1) = p
  nodup : ∀ p, (A.rows p).Nodup

theorem AH.there_iff (A : AH) (s : Int) : A.there s = true ↔ 0 ≤ s ∧ s < (A.slots.length : Int) ∧ 0 < (A.at s).f0 := by
  simp [AH.there, and_assoc]
/-- Numbers below n, none twice, are no more than n. -/
theorem nodup_below : ∀ (n : Nat) (l : List Int), l.Nodup → (∀ x ∈ l, 0 ≤ x ∧ x < (n : Int)) → l.length ≤ n
  | 0, l, _, h => by
    cases l with
    | nil => simp
    | cons x l => have := h x (by simp); omega
  | n + 1, l, hn, h => by
    have h1 := nodup_below n (l.erase (n : Int)) (hn.erase _) (fun x hx => by
      have h2 := h x (List.mem_of_mem_erase hx)
      have h3 : x ≠ (n : Int) := fun e => by
        rw [hn.mem_erase_iff] at hx
        exact hx.1 e
      omega)
    have h4 := List.length_erase (a := (n : Int)) (l := l)
    split at h4 <;> omega
theorem AH.Ok.rows_len {A : AH} (hA : A.Ok) (p : Int × Int) : (A.rows p).length ≤ A.slots.length :=
  nodup_below _ _ (hA.nodup p) (fun x hx => by
    have := (A.there_iff x).1 ((hA.rows p x).1 hx).1
    omega)
end Go.Proofs.Ytljahhgankcalaa

/-! (*Heap).Next, Len, New. -/
namespace Go.Proofs.Ytljahhgankcalaa
open Go.RowKit Go.Maps Go.MapKept Go.WideMaps
open Go.Proofs.YtljahhgankcalaaW.PrintWords Go.Proofs.YtljahhgankcalaaW.PrintLast Go.Proofs.YtljahhgankcalaaW.PrintMore
open PHeapThere
set_option linter.unusedVariables false
set_option linter.unusedSimpArgs false

theorem Try.zeroInt (w : World) : (zeroValue 3).run Try.prog w = .ok (.int .i64 0) w := by kernel_rfl

/-- What Next does. -/
def AH.next (A : AH) (no : Int) : Int × AH :=
  if no < 1 ∨ 2147483647 < no ∨ A.given no = 2147483647 then (0, A)
  else (A.given no + 1, { A with given := fun x => if x = no then A.given no + 1 else A.given x })

theorem gmap_look {w : World} {gb : Nat} {gg : Int → Option Int} (H : MapOf (Value.int .i64) (Value.int .i64) okI w gb gg) {no : Int} (ho : okI no) :
    (Instr.lookup 27 (.map (some gb)) (.int .i64 no) false).run Try.prog w = .ok (.int .i64 ((gg no).getD 0)) w := by
  have h := H.look keyInt Try.underlying27 (Try.zeroInt w) false ho
  rw [h]
  cases gg no <;> rfl

theorem next_refused (h : Nat) (no : Int) (w : World) (hr : no < 1 ∨ 2147483647 < no) :
    Calls Try.prog 42 #[.pointer (some ⟨h, 0, none⟩), .int .i64 no] w fun e w' => e = .returned (.int .i64 0) ∧ w' = w := by
  rcases hr with hr | hr
  · have b1 : decide (no < 1) = true := decide_eq_true hr
    go_enter Try.func42, Try.ntmps42
    go_wp2
    go_ret
    exact ⟨rfl, rfl⟩
  · have b1 : decide (no < 1) = false := decide_eq_false (by omega)
    have b2 : decide (2147483647 < no) = true := decide_eq_true hr
    go_enter Try.func42, Try.ntmps42
    go_wp2
    go_ret
    exact ⟨rfl, rfl⟩

theorem next_full (h : Nat) (no : Int) (w : World) (gb : Nat) (gg : Int → Option Int) (hm : MapOf (Value.int .i64) (Value.int .i64) okI w gb gg) (hc : w.cell? ⟨h, 2, none⟩ = some (.map (some gb)))
    (h1 : 1 ≤ no) (h2 : no ≤ 2147483647) (hg : (gg no).getD 0 = 2147483647) :
    Calls Try.prog 42 #[.pointer (some ⟨h, 0, none⟩), .int .i64 no] w fun e w' => e = .returned (.int .i64 0) ∧ w' = w := by
  have b1 : decide (no < 1) = false := decide_eq_false (by omega)
  have b2 : decide (2147483647 < no) = false := decide_eq_false (by omega)
  have hl := gmap_look hm (no := no) (okI_of (by omega) (by omega))
  rw [hg] at hl
  clear hm hg
  go_enter Try.func42, Try.ntmps42
  go_wp2
  go_ret
  exact ⟨rfl, rfl⟩

theorem next_gives (h : Nat) (no g : Int) (w w1 : World) (gb : Nat) (hc : w.cell? ⟨h, 2, none⟩ = some (.map (some gb))) (hc1 : w1.cell? ⟨h, 2, none⟩ = some (.map (some gb)))
    (h1 : 1 ≤ no) (h2 : no ≤ 2147483647) (g0 : 0 ≤ g) (g1 : g < 2147483647)
    (hl : (Instr.lookup 27 (.map (some gb)) (.int .i64 no) false).run Try.prog w = .ok (.int .i64 g) w)
    (hu : (Instr.mapUpdate 27 (.map (some gb)) (.int .i64 no) (.int .i64 (g + 1))).run Try.prog w = .ok () w1)
    (hl1 : (Instr.lookup 27 (.map (some gb)) (.int .i64 no) false).run Try.prog w1 = .ok (.int .i64 (g + 1)) w1) :
    Calls Try.prog 42 #[.pointer (some ⟨h, 0, none⟩), .int .i64 no] w fun e w' => e = .returned (.int .i64 (g + 1)) ∧ w' = w1 := by
  have b1 : decide (no < 1) = false := decide_eq_false (by omega)
  have b2 : decide (2147483647 < no) = false := decide_eq_false (by omega)
  have b3 : (g == 2147483647) = false := beq_eq_false_iff_ne.2 (by omega)
  go_enter Try.func42, Try.ntmps42
  go_wp2
  go_ret
  exact ⟨rfl, rfl⟩

theorem next_calls (h : Nat) (no : Int) (A : AH) (F : Nat → Prop) (w : World) (H : HeapIs w h A F) (hA : A.Ok) :
    Calls Try.prog 42 #[.pointer (some ⟨h, 0, none⟩), .int .i64 no] w fun e w' => e = .returned (.int .i64 (A.next no).1) ∧ HeapIs w' h (A.next no).2 F ∧ Chg w w' F := by
  by_cases hr : no < 1 ∨ 2147483647 < no
  · refine (next_refused h no w hr).mono ?_
    rintro e w' ⟨rfl, rfl⟩
    have : A.next no = (0, A) := by unfold AH.next; rw [if_pos (by omega)]
    rw [this]
    exact ⟨rfl, H, Chg.refl _ _⟩
  · obtain ⟨sv, rb, gb, rg, gg, H⟩ := H
    have hc : w.cell? ⟨h, 2, none⟩ = some (.map (some gb)) := H.cell 2
    have hg := H.givn no
    by_cases hf : A.given no = 2147483647
    · refine (next_full h no w gb gg H.gmap hc (by omega) (by omega) (hg.trans hf)).mono ?_
      rintro e w' ⟨rfl, rfl⟩
      have : A.next no = (0, A) := by unfold AH.next; rw [if_pos (by omega)]
      rw [this]
      exact ⟨rfl, ⟨sv, rb, gb, rg, gg, H⟩, Chg.refl _ _⟩
    · have hb := hA.given0 no
      have ho : okI no := okI_of (by omega) (by omega)
      obtain ⟨w1, hu, hm1, hc1, hs1⟩ := H.gmap.store keyInt Try.underlying27 ho (A.given no + 1)
      have hl := gmap_look H.gmap ho
      rw [hg] at hl
      have hl1 := gmap_look hm1 ho
      rw [upd_same] at hl1
      have hne : h ≠ gb := fun e => H.gmap.no_cell hc e
      have hcell : w1.cell? ⟨h, 2, none⟩ = some (.map (some gb)) := hc1.cell_some hc hne
      refine (next_gives h no (A.given no) w w1 gb hc hcell (by omega) (by omega) (by omega) (by omega) hl hu hl1).mono ?_
      rintro e w' ⟨rfl, rfl⟩
      have : A.next no = (A.given no + 1, { A with given := fun x => if x = no then A.given no + 1 else A.given x }) := by unfold AH.next; rw [if_neg (by omega)]
      rw [this]
      refine ⟨rfl, ⟨sv, rb, gb, rg, upd gg no (some (A.given no + 1)), ?_⟩, hc1.mono (fun k _ hk => by rw [hk]; exact H.gF)⟩
      exact {
        blk := hc1.obj H.blk hne
        slots := R_map H.slots H.gmap hc1
        rmap := H.rmap.chg hc1 H.ne
        gmap := hm1
        rowv := fun p v hp => ⟨R_map (H.rowv p v hp).1 H.gmap hc1, (H.rowv p v hp).2⟩
        rown := H.rown
        apart := H.apart
        givn := fun x => by
          by_cases hx : x = no
          · subst hx; rw [upd_same]; simp
          · rw [upd_other _ _ hx]; simp [hx, H.givn x]
        hF := H.hF
        rF := H.rF
        gF := H.gF
        ne := H.ne
        bound := fun k hk => by rw [hs1]; exact H.bound k hk }
end Go.Proofs.Ytljahhgankcalaa

/-! (*Heap).Len, is, refused, Kill; New. -/
namespace Go.Proofs.Ytljahhgankcalaa
open Go.RowKit Go.Maps Go.MapKept Go.WideMaps
open Go.Proofs.YtljahhgankcalaaW.PrintWords Go.Proofs.YtljahhgankcalaaW.PrintLast Go.Proofs.YtljahhgankcalaaW.PrintMore
open PHeapThere
set_option linter.unusedVariables false
set_option linter.unusedSimpArgs false

theorem len_calls (h : Nat) (A : AH) (F : Nat → Prop) (w : World) (H : HeapIs w h A F) :
    Calls Try.prog 19 #[.pointer (some ⟨h, 0, none⟩)] w fun e w' => e = .returned (.int .i64 A.many) ∧ w' = w := by
  obtain ⟨sv, rb, gb, rg, gg, H⟩ := H
  have hc : w.cell? ⟨h, 3, none⟩ = some (.int .i64 A.many) := H.cell 3
  clear H
  go_enter Try.func19, Try.ntmps19
  go_wp2
  go_ret
  exact ⟨rfl, rfl⟩

/-- The cells of the tuple in a slot. -/
theorem slot_cells {w : World} {F : Nat → Prop} {sv : Value} {l : List ATup} (R : Kd.R kTup 39 w 0 F sv l) {i : Nat} (hi : i < l.length) :
    ∃ g cap cur v6, sv = .slice (some ⟨g, 0, none⟩) l.length cap ∧ l.length ≤ cap ∧ cap ≤ maxLen ∧ F g ∧ w.heap[g]? = some (.cells cur 39 (0, 0)) ∧ cur.size = cap * 7 ∧ Kd.R kVal 91 w 0 (fun k => F k ∧ k ≠ g) v6 l[i].f6 ∧
      cur[i * 7]? = some (.int .i64 l[i].f0) ∧ cur[i * 7 + 1]? = some (.int .i64 l[i].f1) ∧ cur[i * 7 + 2]? = some (.int .i64 l[i].f2) ∧ cur[i * 7 + 3]? = some (.int .i64 l[i].f3) ∧ cur[i * 7 + 4]? = some (.int .i64 l[i].f4) ∧
      cur[i * 7 + 5]? = some (.int .i64 l[i].f5) ∧ cur[i * 7 + 6]? = some v6 := by
  obtain ⟨g, cap, cur, c, hv, hF, _, hg, h1, h2, hs, hM, _, hc⟩ := R_elem R hi
  obtain ⟨v6, rfl, h6⟩ := k32_openM hM
  exact ⟨g, cap, cur, v6, hv, h1, h2, hF, hg, hs, h6, hc 0 _ rfl, hc 1 _ rfl, hc 2 _ rfl, hc 3 _ rfl, hc 4 _ rfl, hc 5 _ rfl, hc 6 _ rfl⟩

theorem sv_slice {w : World} {F : Nat → Prop} {sv : Value} {l : List ATup} (R : Kd.R kTup 39 w 0 F sv l) : ∃ a c, sv = .slice a l.length c ∧ l.length ≤ 9223372036854775807 := by
  obtain ⟨a, c, h1, h2, h3⟩ := Kd.R_reads R
  exact ⟨a, c, h1, h3.2.1⟩

theorem is_low (h : Nat) (s : Int) (w : World) (hs : s < 0) :
    Calls Try.prog 58 #[.pointer (some ⟨h, 0, none⟩), .int .i64 s] w fun e w' => e = .returned (.bool false) ∧ w' = w := by
  have b1 : decide (0 ≤ s) = false := decide_eq_false (by omega)
  go_enter Try.func58, Try.ntmps58
  go_wp2
  go_ret
  exact ⟨rfl, rfl⟩
theorem is_high (h n c : Nat) (a : Option Addr) (s : Int) (w : World) (hc : w.cell? ⟨h, 0, none⟩ = some (.slice a n c)) (hs : 0 ≤ s) (hn : (n : Int) ≤ s) :
    Calls Try.prog 58 #[.pointer (some ⟨h, 0, none⟩), .int .i64 s] w fun e w' => e = .returned (.bool false) ∧ w' = w := by
  have b1 : decide (0 ≤ s) = true := decide_eq_true hs
  have b2 : decide (s < (n : Int)) = false := decide_eq_false (by omega)
  go_enter Try.func58, Try.ntmps58
  go_wp2
  go_ret
  exact ⟨rfl, rfl⟩
theorem is_in (h g n c i : Nat) (x : Int) (w : World) (hc : w.cell? ⟨h, 0, none⟩ = some (.slice (some ⟨g, 0, none⟩) n c)) (hi : i < n) (hn : n ≤ 9223372036854775807) (hx : w.cell? ⟨g, i * 7, none⟩ = some (.int .i64 x)) :
    Calls Try.prog 58 #[.pointer (some ⟨h, 0, none⟩), .int .i64 i] w fun e w' => e = .returned (.bool (decide (0 < x))) ∧ w' = w := by
  have b1 : decide (0 ≤ (i : Int)) = true := decide_eq_true (by omega)
  have b2 : decide ((i : Int) < (n : Int)) = true := decide_eq_true (by omega)
  have b3 : decide (i < n) = true := decide_eq_true hi
  go_enter Try.func58, Try.ntmps58
  go_wp2
  go_ret
  exact ⟨rfl, rfl⟩
theorem AH.at_nat (A : AH) {i : Nat} (hi : i < A.slots.length) : A.at i = A.slots[i] := by
  unfold AH.at
  rw [Int.toNat_natCast, List.getD_eq_getElem?_getD, List.getElem?_eq_getElem hi]
  rfl
theorem is_calls (h : Nat) (s : Int) (A : AH) (F : Nat → Prop) (w : World) (H : HeapIs w h A F) :
    Calls Try.prog 58 #[.pointer (some ⟨h, 0, none⟩), .int .i64 s] w fun e w' => e = .returned (.bool (A.there s)) ∧ w' = w := by
  obtain ⟨sv, rb, gb, rg, gg, H⟩ := H
  by_cases h0 : s < 0
  · rw [show A.there s = false from by simp [AH.there]; omega]
    exact is_low h s w h0
  · by_cases h1 : (A.slots.length : Int) ≤ s
    · rw [show A.there s = false from by simp [AH.there]; omega]
      obtain ⟨a, c, rfl, _⟩ := sv_slice H.slots
      exact is_high h _ c a s w (H.cell 0) (by omega) h1
    · obtain ⟨i, rfl⟩ : ∃ i : Nat, s = i := ⟨s.toNat, by omega⟩
      have hi : i < A.slots.length := by omega
      obtain ⟨g, cap, cur, v6, rfl, hn, hm, _, hg, _, _, hx, _⟩ := slot_cells H.slots hi
      have h2 := is_in h g _ cap i A.slots[i].f0 w (H.cell 0) hi (by unfold maxLen at hm; omega) ((blk_cell hg _).trans hx)
      rw [show A.there i = decide (0 < A.slots[i].f0) from by simp [AH.there, A.at_nat hi, hi]]
      exact h2

theorem refused_calls (h : Nat) (s : Int) (A : AH) (F : Nat → Prop) (w : World) (H : HeapIs w h A F) :
    Calls Try.prog 81 #[.pointer (some ⟨h, 0, none⟩), .int .i64 s] w fun e w' => e = .returned (.int .i64 (if A.there s then 0 else 1)) ∧ w' = w := by
  have hi := is_calls h s A F w H
  generalize A.there s = b at hi
  clear H
  cases b
  · go_enter Try.func81, Try.ntmps81
    go_wp2_with (go_at_call 58; refine hi.mono ?_; rintro e w' ⟨rfl, rfl⟩)
    go_ret
    exact ⟨rfl, rfl⟩
  · go_enter Try.func81, Try.ntmps81
    go_wp2_with (go_at_call 58; refine hi.mono ?_; rintro e w' ⟨rfl, rfl⟩)
    go_ret
    exact ⟨rfl, rfl⟩
end Go.Proofs.Ytljahhgankcalaa

/-! (*Heap).Kill, New. -/
namespace Go.Proofs.Ytljahhgankcalaa
open Go.RowKit Go.Maps Go.MapKept Go.WideMaps
open Go.Proofs.YtljahhgankcalaaW.PrintWords Go.Proofs.YtljahhgankcalaaW.PrintLast Go.Proofs.YtljahhgankcalaaW.PrintMore
open PHeapThere
set_option linter.unusedVariables false
set_option linter.unusedSimpArgs false

def AH.kill (A : AH) (s x c : Int) : Int × AH :=
  if A.there s then (0, { A with slots := A.slots.set s.toNat { A.at s with f4 := x, f5 := c } }) else (1, A)

/-- The slots' block has changed, to other slots. -/
theorem HeapAt.slotwise {w w1 : World} {h g : Nat} {A : AH} {F : Nat → Prop} {sv : Value} {rb gb : Nat} {rg : Int × Int → Option Value} {gg : Int → Option Int} (H : HeapAt w h A F sv rb gb rg gg) {cur : Array Value}
    (hg : w.heap[g]? = some (.cells cur 39 (0, 0))) (hch : Chg w w1 (fun k => k = g)) {l : List ATup} (hs : Kd.R kTup 39 w1 0 F sv l) : HeapAt w1 h { A with slots := l } F sv rb gb rg gg where
  blk := hch.obj H.blk (fun e => by
    have hb := H.blk
    rw [e, hg] at hb
    simp at hb)
  slots := hs
  rmap := H.rmap.chg hch (fun e => by
    obtain ⟨es, cl, hm⟩ := H.rmap.isMap
    rw [e, hg] at hm
    cases hm)
  gmap := H.gmap.chg hch (fun e => by
    obtain ⟨es, cl, hm⟩ := H.gmap.isMap
    rw [e, hg] at hm
    cases hm)
  rowv := fun p v hp => ⟨R_typ (H.rowv p v hp).1 hg (by intro q hq; simp [Kd.int, Kd.scalar] at hq; subst hq; decide) hch, (H.rowv p v hp).2⟩
  rown := H.rown
  apart := H.apart
  givn := H.givn
  hF := H.hF
  rF := H.rF
  gF := H.gF
  ne := H.ne
  bound := fun k hk => Nat.lt_of_lt_of_le (H.bound k hk) hch.size

theorem kill_no (h : Nat) (s x c : Int) (A : AH) (F : Nat → Prop) (w : World) (H : HeapIs w h A F) (hb : A.there s = false) :
    Calls Try.prog 40 #[.pointer (some ⟨h, 0, none⟩), .int .i64 s, .int .i64 x, .int .i64 c] w fun e w' => e = .returned (.int .i64 1) ∧ w' = w := by
  have hi := refused_calls h s A F w H
  rw [hb] at hi
  clear H hb
  go_enter Try.func40, Try.ntmps40
  go_wp2_with (go_at_call 81; refine hi.mono ?_; rintro e w' ⟨rfl, rfl⟩)
  go_ret
  exact ⟨rfl, rfl⟩
theorem kill_yes (h g n cap i : Nat) (x c u v : Int) (w : World) (hi : Calls Try.prog 81 #[.pointer (some ⟨h, 0, none⟩), .int .i64 i] w fun e w' => e = .returned (.int .i64 0) ∧ w' = w)
    (hc : w.cell? ⟨h, 0, none⟩ = some (.slice (some ⟨g, 0, none⟩) n cap)) (hn : i < n) (hm : n ≤ 9223372036854775807) (c4 : w.cell? ⟨g, i * 7 + 4, none⟩ = some (.int .i64 u)) (c5 : w.cell? ⟨g, i * 7 + 5, none⟩ = some (.int .i64 v))
    (f4 : w.frozen? ⟨g, i * 7 + 4, none⟩ = false) (f5 : w.frozen? ⟨g, i * 7 + 5, none⟩ = false) :
    Calls Try.prog 40 #[.pointer (some ⟨h, 0, none⟩), .int .i64 i, .int .i64 x, .int .i64 c] w fun e w' => e = .returned (.int .i64 0) ∧
      w' = (w.setCell ⟨g, i * 7 + 4, none⟩ (.int .i64 x)).setCell ⟨g, i * 7 + 5, none⟩ (.int .i64 c) := by
  have b1 : decide (0 ≤ (i : Int)) = true := decide_eq_true (by omega)
  have b2 : decide ((i : Int) < (n : Int)) = true := decide_eq_true (by omega)
  have b3 : decide (i < n) = true := decide_eq_true hn
  go_enter Try.func40, Try.ntmps40
  go_wp2_with (go_at_call 81; refine hi.mono ?_; rintro e w' ⟨rfl, rfl⟩)
  go_ret
  exact ⟨rfl, rfl⟩

theorem kill_calls (h : Nat) (s x c : Int) (A : AH) (F : Nat → Prop) (w : World) (H : HeapIs w h A F) :
    Calls Try.prog 40 #[.pointer (some ⟨h, 0, none⟩), .int .i64 s, .int .i64 x, .int .i64 c] w fun e w' => e = .returned (.int .i64 (A.kill s x c).1) ∧ HeapIs w' h (A.kill s x c).2 F ∧ Chg w w' F := by
  cases hb : A.there s with
  | false =>
    refine (kill_no h s x c A F w H hb).mono ?_
    rintro e w' ⟨rfl, rfl⟩
    rw [show A.kill s x c = (1, A) from by simp [AH.kill, hb]]
    exact ⟨rfl, H, Chg.refl _ _⟩
  | true =>
    have hr := refused_calls h s A F w H
    rw [hb] at hr
    obtain ⟨⟨h0, h1⟩, h2⟩ : (0 ≤ s ∧ s < (A.slots.length : Int)) ∧ 0 < (A.at s).f0 := by simpa [AH.there] using hb
    rw [show A.kill s x c = (0, { A with slots := A.slots.set s.toNat { A.at s with f4 := x, f5 := c } }) from by simp [AH.kill, hb]]
    obtain ⟨i, rfl⟩ : ∃ i : Nat, s = i := ⟨s.toNat, by omega⟩
    obtain ⟨sv, rb, gb, rg, gg, H⟩ := H
    have hi : i < A.slots.length := by omega
    rw [A.at_nat hi, Int.toNat_natCast]
    obtain ⟨g, cap, cur, v6, hsv, hn, hm, hgF, hg, hsz, h6, x0, x1, x2, x3, x4, x5, x6⟩ := slot_cells H.slots hi
    have hc := H.cell 0
    rw [hsv] at hc
    refine (kill_yes h g _ cap i x c _ _ w hr hc hi (by unfold maxLen at hm; omega) ((blk_cell hg _).trans x4) ((blk_cell hg _).trans x5) (blk_frozen hg _) (blk_frozen hg _)).mono ?_
    rintro e w' ⟨rfl, rfl⟩
    have hch : Chg w ((w.setCell ⟨g, i * 7 + 4, none⟩ (.int .i64 x)).setCell ⟨g, i * 7 + 5, none⟩ (.int .i64 c)) (fun k => k = g) :=
      ((Chg.refl w (fun k => k = g)).setCell (p := ⟨g, i * 7 + 4, none⟩) (.inl rfl) _).setCell (p := ⟨g, i * 7 + 5, none⟩) (.inl rfl) _
    have hg1 := blk_set (blk_set hg (i * 7 + 4) (.int .i64 x)) (i * 7 + 5) (.int .i64 c)
    have hcur : ∀ k, k ≠ i * 7 + 4 → k ≠ i * 7 + 5 → ((cur.setIfInBounds (i * 7 + 4) (.int .i64 x)).setIfInBounds (i * 7 + 5) (.int .i64 c))[k]? = cur[k]? := fun k e4 e5 => by
      rw [Array.getElem?_setIfInBounds_ne (Ne.symm e5), Array.getElem?_setIfInBounds_ne (Ne.symm e4)]
    have l4 := (Array.getElem?_eq_some_iff.1 x4).1
    have l5 := (Array.getElem?_eq_some_iff.1 x5).1
    generalize hw1 : (w.setCell ⟨g, i * 7 + 4, none⟩ (.int .i64 x)).setCell ⟨g, i * 7 + 5, none⟩ (.int .i64 c) = w1 at hch hg1 ⊢
    have h6' : Kd.R kVal 91 w1 0 (fun k => F k ∧ k ≠ g) v6 A.slots[i].f6 := R_chg h6 hch (fun k q cells hk _ _ => hk.2)
    have hx := k32_mkM w1 0 (fun k => F k ∧ k ≠ g) { A.slots[i] with f4 := x, f5 := c } h6'
    refine ⟨rfl, ⟨sv, rb, gb, rg, gg, ?_⟩, hch.mono (fun k _ hk => by rw [hk]; exact hgF)⟩
    exact H.slotwise hg hch (R_upd H.slots hi hsv hg hch (fun k _ hk => hk) hg1 (by simp) (fun k hk => hcur k (by
          have : kTup.sz = 7 := rfl
          rw [this] at hk; omega) (by
          have : kTup.sz = 7 := rfl
          rw [this] at hk; omega)) hx (fun j hj => by
        have hj' : j < 7 := hj
        show ((cur.setIfInBounds (i * 7 + 4) (.int .i64 x)).setIfInBounds (i * 7 + 5) (.int .i64 c))[i * 7 + j]? = _
        match j, hj' with
        | 0, _ => rw [hcur _ (by omega) (by omega)]; exact x0
        | 1, _ => rw [hcur _ (by omega) (by omega)]; exact x1
        | 2, _ => rw [hcur _ (by omega) (by omega)]; exact x2
        | 3, _ => rw [hcur _ (by omega) (by omega)]; exact x3
        | 4, _ => rw [Array.getElem?_setIfInBounds_ne (by omega), Array.getElem?_setIfInBounds_self_of_lt l4]; rfl
        | 5, _ => rw [Array.getElem?_setIfInBounds_self_of_lt (by simpa using l5)]; rfl
        | 6, _ => rw [hcur _ (by omega) (by omega)]; exact x6))
end Go.Proofs.Ytljahhgankcalaa

/-! slices.Clone of values, Tuple.clone, New. -/
namespace Go.Proofs.Ytljahhgankcalaa
open Go.RowKit Go.Maps Go.MapKept Go.WideMaps
open Go.Proofs.YtljahhgankcalaaW.PrintWords Go.Proofs.YtljahhgankcalaaW.PrintLast Go.Proofs.YtljahhgankcalaaW.PrintMore
open PHeapThere
set_option linter.unusedVariables false
set_option linter.unusedSimpArgs false

theorem R_empty {α : Type} (d : Kd α) (e : Nat) (W : World) (base : Nat) (hb : base ≤ W.heap.size) (ok : Nat → Prop) (ho : ok W.heap.size) : d.R e (W.alloc (.cells #[] e)) base ok (.slice (some ⟨W.heap.size, 0, none⟩) 0 0) [] :=
  ⟨fun k hk => by
    have : W.heap.size = k := by simpa [Value.ownBlock] using hk
    rw [← this]; exact ho, [], by simpa using World.ownsRow_lit (base := base) (e := e) (size := d.sz) W #[] 0 hb (by simp [maxLen]) (by simp), Reps.none _ _⟩

set_option maxRecDepth 100000 in
theorem cloneVals_nil (c : Nat) (w : World) :
    Calls Try.prog 91 #[.slice none 0 c] w fun e w' => e = .returned (.slice none 0 0) ∧ w' = w := by
  have hq := Lib.run_eql_slice_nil (P := Try.prog) w 30 91 none 0 c 0 0 Try.underlying30
  go_enter Try.func91, Try.ntmps91
  go_wp2
  go_ret
  exact ⟨rfl, rfl⟩

set_option maxRecDepth 100000 in
theorem cloneVals_some (a : Addr) (c : Nat) (xs : List AVal) (w : World) (hr : Kd.C kVal w (some a) xs.length xs) (hc : xs.length ≤ c) (hl : xs.length < 3518437208883) :
    Calls Try.prog 91 #[.slice (some a) xs.length c] w fun e w' => ∃ v, e = .returned v ∧ Kd.R kVal 91 w' w.heap.size (fun _ => True) v xs ∧ Below w.heap.size w w' := by
  have HR := Aside0.mk hr
  have HC := Aside0.mk hc
  have HL := Aside0.mk hl
  clear hr hc hl
  have hq := Lib.run_eql_slice_nil (P := Try.prog) w 30 91 (some a) xs.length c 0 0 Try.underlying30
  go_enter Try.func91, Try.ntmps91
  go_wp2_with (at_builtin; refine Kd.R_append_rows kVal (w0 := w) w.heap.size rfl (.tmp 5) (.tmp 6) 30 91 (.agg #[(.int .u8 0), (.int .i64 0), (.int .i64 0), (.string ⟨#[]⟩)]) 40 rfl Try.underlying30 info91 rfl (by decide) (by omega) (.slice (some ⟨w.heap.size, 0, none⟩) 0 0) [] xs _ _ _ (fun _ => True) (fun _ => False) rfl rfl (R_empty kVal 91 w w.heap.size (Nat.le_refl _) (fun _ => True) trivial) (Kd.C_below HR.out ((Below.refl _ _).alloc (Nat.le_refl _) _)) (fun _ _ h => h) (fun _ h => h.elim) (fun _ _ => trivial) ((Below.refl _ _).alloc (Nat.le_refl _) _) (by simp) (by have := HL.out; simp; omega) ?_; intro v1 w1 ho hb hg hat; replace ho := Aside0.mk ho)
  go_ret
  exact ⟨v1, rfl, by simpa using ho.out, hb⟩

theorem cloneVals (v : Value) (xs : List AVal) (w : World) (ok : Nat → Prop) (hr : Kd.R kVal 91 w 0 ok v xs) (hl : xs.length < 3518437208883) :
    Calls Try.prog 91 #[v] w fun e w' => ∃ v1, e = .returned v1 ∧ Kd.R kVal 91 w' w.heap.size (fun _ => True) v1 xs ∧ Below w.heap.size w w' := by
  obtain ⟨a, c, rfl, hc, h2⟩ := Kd.R_reads hr
  cases a with
  | some a => exact cloneVals_some a c xs w h2 hc hl
  | none =>
    have h0 : xs.length = 0 := by
      rcases Nat.eq_zero_or_pos xs.length with h | h
      · exact h
      · obtain ⟨ad, he, _⟩ := h2.2.2 h
        cases he
    obtain rfl := List.length_eq_zero_iff.1 h0
    refine (cloneVals_nil c w).mono ?_
    rintro e w' ⟨rfl, rfl⟩
    exact ⟨_, rfl, Kd.R_nil _ _ _ _ _, Below.refl _ _⟩

theorem blk_set7 {w : World} {g t : Nat} {x0 x1 x2 x3 x4 x5 x6 y0 y1 y2 y3 y4 y5 y6 : Value} (h : w.heap[g]? = some (.cells #[x0, x1, x2, x3, x4, x5, x6] t (0, 0))) :
    (((((((w.setCell ⟨g, 0, none⟩ y0).setCell ⟨g, 1, none⟩ y1).setCell ⟨g, 2, none⟩ y2).setCell ⟨g, 3, none⟩ y3).setCell ⟨g, 4, none⟩ y4).setCell ⟨g, 5, none⟩ y5).setCell ⟨g, 6, none⟩ y6).heap[g]? = some (.cells #[y0, y1, y2, y3, y4, y5, y6] t (0, 0)) := by
  have h0 := blk_put (cs' := #[y0, x1, x2, x3, x4, x5, x6]) h 0 y0 rfl
  have h1 := blk_put (cs' := #[y0, y1, x2, x3, x4, x5, x6]) h0 1 y1 rfl
  have h2 := blk_put (cs' := #[y0, y1, y2, x3, x4, x5, x6]) h1 2 y2 rfl
  have h3 := blk_put (cs' := #[y0, y1, y2, y3, x4, x5, x6]) h2 3 y3 rfl
  have h4 := blk_put (cs' := #[y0, y1, y2, y3, y4, x5, x6]) h3 4 y4 rfl
  have h5 := blk_put (cs' := #[y0, y1, y2, y3, y4, y5, x6]) h4 5 y5 rfl
  exact blk_put (cs' := #[y0, y1, y2, y3, y4, y5, y6]) h5 6 y6 rfl

set_option maxRecDepth 100000 in
theorem tclone_calls (a0 a1 a2 a3 a4 a5 : Int) (v6 : Value) (xs : List AVal) (w : World) (ok : Nat → Prop) (hr : Kd.R kVal 91 w 0 ok v6 xs) (hl : xs.length < 3518437208883) :
    Calls Try.prog 59 #[.agg #[.int .i64 a0, .int .i64 a1, .int .i64 a2, .int .i64 a3, .int .i64 a4, .int .i64 a5, v6]] w fun e w' => ∃ v, e = .returned (.agg #[.int .i64 a0, .int .i64 a1, .int .i64 a2, .int .i64 a3, .int .i64 a4, .int .i64 a5, v]) ∧
      Kd.R kVal 91 w' w.heap.size (fun _ => True) v xs ∧ Below w.heap.size w w' := by
  obtain ⟨A, c, hv, hc, h2⟩ := Kd.R_reads hr
  have HR := Aside0.mk hr
  have HL := Aside0.mk hl
  subst hv
  clear hr hl h2
  go_enter Try.func59, Try.ntmps59
  go_wp2_with fail
  refine (cloneVals _ xs _ ok (Kd.R_below HR.out (((Below.refl _ w).alloc (Nat.le_refl _) _).alloc (by simp) _)) HL.out).mono ?_
  rintro e w3 ⟨v1, rfl, ho, hb⟩
  have HO := Aside0.mk ho
  have HB := Aside0.mk hb
  obtain ⟨A1, c1, hv1⟩ := Kd.R_slice ho
  subst hv1
  have hb1 : w3.heap[w.heap.size]? = some (.cells #[.int .i64 a0, .int .i64 a1, .int .i64 a2, .int .i64 a3, .int .i64 a4, .int .i64 a5, .slice A xs.length c] 39 (0, 0)) := (hb.block _ (by simp; omega)).trans (blk_alloc (blk_new w _) _)
  have hb2 : w3.heap[w.heap.size + 1]? = some (.cells #[.int .i64 0, .int .i64 0, .int .i64 0, .int .i64 0, .int .i64 0, .int .i64 0, .slice none 0 0] 39 (0, 0)) := (hb.block _ (by simp)).trans (by simpa using blk_new (w.alloc _) _)
  have HB1 := Aside0.mk hb1
  have HB2 := Aside0.mk hb2
  have hlt : w.heap.size < w3.heap.size := blk_lt hb1
  clear ho hb hb1 hb2
  have k0 := (blk_cell HB1.out 0)
  have k1 := (blk_cell HB1.out 1)
  have k2 := (blk_cell HB1.out 2)
  have k3 := (blk_cell HB1.out 3)
  have k4 := (blk_cell HB1.out 4)
  have k5 := (blk_cell HB1.out 5)
  have k6 := (blk_cell HB1.out 6)
  have l0 := (blk_cell HB2.out 0)
  have l1 := (blk_cell HB2.out 1)
  have l2 := (blk_cell HB2.out 2)
  have l3 := (blk_cell HB2.out 3)
  have l4 := (blk_cell HB2.out 4)
  have l5 := (blk_cell HB2.out 5)
  have l6 := (blk_cell HB2.out 6)
  simp at k0 k1 k2 k3 k4 k5 k6 l0 l1 l2 l3 l4 l5 l6
  have z1 := fun i => blk_frozen HB1.out i
  have z2 := fun i => blk_frozen HB2.out i
  go_wp2
  refine bodyPost_ret (results_cell_row rfl _ _ (w.heap.size + 1) 39 #[.int .i64 a0, .int .i64 a1, .int .i64 a2, .int .i64 a3, .int .i64 a4, .int .i64 a5, .slice A1 xs.length c1] (0, 0) _ rfl
    (blk_set7 (x0 := .int .i64 0) (x1 := .int .i64 0) (x2 := .int .i64 0) (x3 := .int .i64 0) (x4 := .int .i64 0) (x5 := .int .i64 0) (x6 := .slice none 0 0) (blk_far HB2.out (by simp) _)) Try.underlying39 rfl (by kernel_rfl)) rfl ?_
  refine ⟨.slice A1 xs.length c1, rfl, ?_, ?_⟩
  · refine Kd.R_lower (Kd.R_mono (ok := fun k => k ≠ w.heap.size + 1) ?_ (fun _ _ => trivial)) (base := w.heap.size + 1 + 1) (by omega)
    have h1 : Kd.R kVal 91 w3 (w.heap.size + 1 + 1) (fun k => k ≠ w.heap.size ∧ k ≠ w.heap.size + 1) (.slice A1 xs.length c1) xs :=
      Kd.R_mono (Kd.R_bound (by simpa using HO.out)) (fun k hk => ⟨by have := hk.2.1; omega, by have := hk.2.1; omega⟩)
    exact Kd.R_mono (Kd.R_far (p := ⟨w.heap.size + 1, 6, none⟩) (Kd.R_far (p := ⟨w.heap.size + 1, 5, none⟩) (Kd.R_far (p := ⟨w.heap.size + 1, 4, none⟩) (Kd.R_far (p := ⟨w.heap.size + 1, 3, none⟩) (Kd.R_far (p := ⟨w.heap.size + 1, 2, none⟩) (Kd.R_far (p := ⟨w.heap.size + 1, 1, none⟩)
      (Kd.R_far (p := ⟨w.heap.size + 1, 0, none⟩) (Kd.R_far (p := ⟨w.heap.size, 6, none⟩) h1 (fun _ hk => hk.1) _) (fun _ hk => hk.2) _) (fun _ hk => hk.2) _) (fun _ hk => hk.2) _) (fun _ hk => hk.2) _) (fun _ hk => hk.2) _) (fun _ hk => hk.2) _) (fun _ hk => hk.2) _) (fun _ hk => hk.2)
  · have hb : Below w.heap.size w w3 := (((Below.refl _ w).alloc (Nat.le_refl _) _).alloc (by simp) _).trans (HB.out.mono (by simp; omega))
    repeat (refine Below.setCell ?_ (by simp) _)
    exact hb
end Go.Proofs.Ytljahhgankcalaa

/-! New; the least free slot. -/
namespace Go.Proofs.Ytljahhgankcalaa
open Go.RowKit Go.Maps Go.MapKept Go.WideMaps
open Go.Proofs.YtljahhgankcalaaW.PrintWords Go.Proofs.YtljahhgankcalaaW.PrintLast Go.Proofs.YtljahhgankcalaaW.PrintMore
open PHeapThere
set_option linter.unusedVariables false
set_option linter.unusedSimpArgs false

def AH.empty : AH := ⟨[], fun _ => [], fun _ => 0, 0⟩
theorem AH.empty_ok : AH.empty.Ok := ⟨fun _ => by simp [AH.empty], by simp [AH.empty], by simp [AH.empty], fun p s => ⟨fun h => by simp [AH.empty] at h, fun h => by
    have := (AH.there_iff _ _).1 h.1
    simp [AH.empty] at this
    omega⟩, fun p => by simp [AH.empty]⟩

theorem new_calls (w : World) : Calls Try.prog 15 #[] w fun e w' => ∃ h, e = .returned (.pointer (some ⟨h, 0, none⟩)) ∧ HeapIs w' h AH.empty (ext (fun _ => False) w w') ∧ Below w.heap.size w w' := by
  have hmm := @run_makeMap Try.prog
  go_enter Try.func15, Try.ntmps15
  go_wp2
  go_ret
  have h1 := MapOf.made w kvW (id : Value → Value) okW
  have h2 := MapOf.made (w.alloc (.map #[] 0)) (Value.int .i64) (Value.int .i64) okI
  rw [World.size_alloc] at h2
  refine ⟨w.heap.size + 1 + 1, by simp, ⟨.slice none 0 0, w.heap.size, w.heap.size + 1, fun _ => none, fun _ => none, ?_⟩, ?_⟩
  · exact {
      blk := by simpa [AH.empty] using blk_new ((w.alloc (.map #[] 0)).alloc (.map #[] 0)) _
      slots := Kd.R_nil _ _ _ _ _
      rmap := (h1.alloc _).alloc _
      gmap := h2.alloc _
      rowv := fun p v hp => by cases hp
      rown := fun p _ => rfl
      apart := fun p q u v b hp => by cases hp
      givn := fun no => rfl
      hF := .inr ⟨by omega, by simp⟩
      rF := .inr ⟨by omega, by simp; omega⟩
      gF := .inr ⟨by omega, by simp⟩
      ne := by omega
      bound := fun k hk => by rcases hk with hk | hk; exact hk.elim; exact hk.2 }
  · exact (((Below.refl _ w).alloc (Nat.le_refl _) _).alloc (by simp) _).alloc (by simp; omega) _

/-- The closure that free hands to IndexFunc. -/
theorem free1_calls (x0 : Int) (r : List Value) (w : World) (hr : r.length = 6) :
    Calls Try.prog 102 #[.agg (Value.int .i64 x0 :: r).toArray] w fun e w' => e = .returned (.bool (x0 == 0)) ∧ Below w.heap.size w w' := by
  match r, hr with
  | [x1, x2, x3, x4, x5, x6], _ =>
    go_enter Try.func102, Try.ntmps102
    go_wp2
    go_ret
    exact ⟨rfl, (Below.refl _ w).alloc (Nat.le_refl _) _⟩

/-- The first free slot from i on, or -1. -/
def firstFree : List ATup → Int → Int
  | [], _ => -1
  | t :: l, i => if t.f0 = 0 then i else firstFree l (i + 1)
theorem firstFree_at : ∀ (l : List ATup) (i : Int) (k : Nat) (hk : k < l.length), (∀ j (hj : j < k), l[j].f0 ≠ 0) → l[k].f0 = 0 → firstFree l i = i + k
  | t :: l, i, 0, hk, _, h0 => by simp [firstFree]; intro h; exact absurd h0 h
  | t :: l, i, k + 1, hk, hl, h0 => by
    have h1 : t.f0 ≠ 0 := hl 0 (by omega)
    simp only [firstFree, if_neg h1]
    rw [firstFree_at l (i + 1) k (by simpa using hk) (fun j hj => by simpa using hl (j + 1) (by omega)) (by simpa using h0)]
    omega
theorem firstFree_none : ∀ (l : List ATup) (i : Int), (∀ t ∈ l, t.f0 ≠ 0) → firstFree l i = -1
  | [], _, _ => rfl
  | t :: l, i, h => by
    simp only [firstFree, if_neg (h t (by simp))]
    exact firstFree_none l (i + 1) (fun u hu => h u (by simp [hu]))

theorem firstFree_any (l : List ATup) (k : Nat) (h : ∀ j (hj : j < l.length), j < k → l[j].f0 ≠ 0) (hk : k = l.length) : firstFree l 0 = -1 :=
  firstFree_none l 0 (fun t ht => by
    obtain ⟨j, hj, rfl⟩ := List.getElem_of_mem ht
    exact h j hj (by omega))

set_option maxRecDepth 100000 in
theorem indexFree_calls (sv : Value) (l : List ATup) (F : Nat → Prop) (w : World) (hr : Kd.R kTup 39 w 0 F sv l) :
    Calls Try.prog 101 #[sv, .func (.func 102) #[] #[]] w fun e w' => e = .returned (.int .i64 (firstFree l 0)) ∧ Below w.heap.size w w' := by
  obtain ⟨a, c, rfl, hn⟩ := sv_slice hr
  have HR := Aside0.mk hr
  clear hr
  go_enter Try.func101, Try.ntmps101
  go_wp2
  go_loopw [5, 8] (fun _ v8 wr => ∃ k : Nat, k ≤ l.length ∧ v8 = .int .i64 k ∧ Aside0 (Below w.heap.size w wr) ∧ Aside0 (∀ j (hj : j < l.length), j < k → l[j].f0 ≠ 0)) (fun _ v8 _ => l.length - (intOf v8).toNat)
  case atStart => exact ⟨0, Nat.zero_le _, rfl, ⟨Below.refl _ w⟩, ⟨fun j hj h => absurd h (Nat.not_lt_zero _)⟩⟩
  case round =>
    obtain ⟨k, hk, rfl, HB, HF⟩ := hrel
    by_cases hlt : k < l.length
    · have b1 : decide ((k : Int) < (l.length : Int)) = true := decide_eq_true (by omega)
      have b2 : decide (k < l.length) = true := decide_eq_true hlt
      obtain ⟨g, cap, cur, v6, hsv, _, _, _, hg, _, _, x0, x1, x2, x3, x4, x5, x6⟩ := slot_cells (Kd.R_below HR.out HB.out) hlt
      obtain ⟨rfl, rfl⟩ : a = some ⟨g, 0, none⟩ ∧ c = cap := by
        injection hsv with h1 _ h3
        exact ⟨h1, h3⟩
      replace x0 := (blk_cell hg _).trans x0
      replace x1 := (blk_cell hg _).trans x1
      replace x2 := (blk_cell hg _).trans x2
      replace x3 := (blk_cell hg _).trans x3
      replace x4 := (blk_cell hg _).trans x4
      replace x5 := (blk_cell hg _).trans x5
      replace x6 := (blk_cell hg _).trans x6
      clear hsv hg
      have hcall := free1_calls l[k].f0 [.int .i64 l[k].f1, .int .i64 l[k].f2, .int .i64 l[k].f3, .int .i64 l[k].f4, .int .i64 l[k].f5, v6] wr rfl
      by_cases h0 : l[k].f0 = 0
      · have hb : (l[k].f0 == 0) = true := beq_iff_eq.2 h0
        rw [hb] at hcall
        have hres := Aside0.mk (firstFree_at l 0 k hlt (fun j hj => HF.out j (by omega) hj) h0)
        clear h0 hb
        generalize l[k] = T at *
        go_wp2_with (go_at_call 102; refine hcall.mono ?_; rintro e w1 ⟨rfl, hb1⟩; replace hb1 := Aside0.mk hb1)
        go_ret
        exact ⟨by rw [hres.out]; simp, HB.out.trans (hb1.out.mono HB.out.size)⟩
      · have hb : (l[k].f0 == 0) = false := beq_eq_false_iff_ne.2 h0
        rw [hb] at hcall
        have hF2 : Aside0 (∀ j (hj : j < l.length), j < k + 1 → l[j].f0 ≠ 0) := ⟨fun j hj hjk => by
          by_cases e : j = k
          · subst e; exact h0
          · exact HF.out j hj (by omega)⟩
        clear h0 hb
        generalize l[k] = T at *
        go_wp2_with (go_at_call 102; refine hcall.mono ?_; rintro e w1 ⟨rfl, hb1⟩; replace hb1 := Aside0.mk hb1)
        go_roundw
        case measure => simp [intOf]; omega
        case rel => exact ⟨k + 1, by omega, by go_num, ⟨HB.out.trans (hb1.out.mono HB.out.size)⟩, hF2⟩
    · have b1 : decide ((k : Int) < (l.length : Int)) = false := decide_eq_false (by omega)
      have hres := Aside0.mk (firstFree_any l k HF.out (by omega))
      go_wp2
      go_ret
      exact ⟨by rw [hres.out]; rfl, HB.out⟩
end Go.Proofs.Ytljahhgankcalaa

/-! (*Heap).free. -/
namespace Go.Proofs.Ytljahhgankcalaa
open Go.RowKit Go.Maps Go.MapKept Go.WideMaps
open Go.Proofs.YtljahhgankcalaaW.PrintWords Go.Proofs.YtljahhgankcalaaW.PrintLast Go.Proofs.YtljahhgankcalaaW.PrintMore
open PHeapThere
set_option linter.unusedVariables false
set_option linter.unusedSimpArgs false

theorem Try.infoTuple : (Try.prog.info? 39).map (fun i => (i.zero, i.size, i.bytes)) = some (some (.agg #[.int .i64 0, .int .i64 0, .int .i64 0, .int .i64 0, .int .i64 0, .int .i64 0, .slice none 0 0]), 7, 72) := by kernel_rfl

/-- The least free slot. -/
def AH.least (A : AH) : Nat := A.slots.findIdx (fun t => t.f0 == 0)
def AH.roomy (A : AH) : AH := if A.least = A.slots.length then { A with slots := A.slots ++ [zTup] } else A

theorem nonfree_le (l : List ATup) : (l.filter (fun t => t.f0 != 0)).length ≤ l.length := List.length_filter_le _ _
theorem nonfree_all : ∀ (l : List ATup), (l.filter (fun t => t.f0 != 0)).length = l.length ↔ l.findIdx (fun t => t.f0 == 0) = l.length
  | [] => by simp
  | t :: l => by
    have ih := nonfree_all l
    have hl := nonfree_le l
    by_cases h : t.f0 = 0
    · have e1 : (t.f0 != 0) = false := by simp [h]
      have e2 : (t.f0 == 0) = true := by simp [h]
      rw [List.filter_cons, if_neg (by simp [e1]), List.findIdx_cons, e2, List.length_cons]
      simp
      omega
    · have e1 : (t.f0 != 0) = true := by simp [h]
      have e2 : (t.f0 == 0) = false := by simp [h]
      rw [List.filter_cons, if_pos e1, List.findIdx_cons, e2, List.length_cons, List.length_cons]
      simp only [cond_false]
      omega
theorem firstFree_least (l : List ATup) (h : l.findIdx (fun t => t.f0 == 0) < l.length) : firstFree l 0 = (l.findIdx (fun t => t.f0 == 0) : Nat) := by
  have h1 := firstFree_at l 0 (l.findIdx (fun t => t.f0 == 0)) h (fun j hj => by
    have := List.not_of_lt_findIdx hj
    simpa using this) (by simpa using List.findIdx_getElem (w := h))
  rw [h1]
  omega
theorem AH.Ok.least {A : AH} (hA : A.Ok) : A.many = (A.slots.length : Int) ↔ A.least = A.slots.length := by
  rw [hA.many]
  have := nonfree_all A.slots
  unfold AH.least
  omega
theorem AH.least_le (A : AH) : A.least ≤ A.slots.length := List.findIdx_le_length

theorem HeapAt.blk_slots {w w1 : World} {h : Nat} {A : AH} {F : Nat → Prop} {sv : Value} {rb gb : Nat} {rg : Int × Int → Option Value} {gg : Int → Option Int} (H : HeapAt w h A F sv rb gb rg gg)
    (hch : Chg w w1 (fun k => some k = sv.ownBlock)) : w1.heap[h]? = some (.cells #[sv, .map (some rb), .map (some gb), .int .i64 A.many] 106 (0, 0)) :=
  hch.obj H.blk (fun e => by
    obtain ⟨cells, hc⟩ := (R_block H.slots e.symm).2
    have hb := H.blk
    rw [hc] at hb
    simp at hb)
theorem chg_drewN_grown {w w1 : World} {n : Nat} {row : Option Nat} (hg : (w.drewN n).grownBy w1 row) : Chg w w1 (fun k => some k = row) := ⟨hg.os, hg.tape, hg.output, hg.size, hg.block⟩
/-- Other slots, in a row that may lie elsewhere. -/
theorem HeapAt.reslot {w w1 : World} {h : Nat} {A : AH} {F : Nat → Prop} {sv v1 : Value} {rb gb : Nat} {rg : Int × Int → Option Value} {gg : Int → Option Int} (H : HeapAt w h A F sv rb gb rg gg)
    (hch : Chg w w1 (fun k => some k = sv.ownBlock)) {l : List ATup} (hs : Kd.R kTup 39 w1 0 (fun k => F k ∨ w.heap.size ≤ k) v1 l) :
    HeapAt (w1.setCell ⟨h, 0, none⟩ v1) h { A with slots := l } (ext F w w1) v1 rb gb rg gg := by
  have hne : ∀ k, some k = sv.ownBlock → ∃ cells, w.heap[k]? = some (.cells cells 39 (0, 0)) := fun k hk => (R_block H.slots hk.symm).2
  have hb1 := hch.obj H.blk (fun e => by
    obtain ⟨cells, hc⟩ := hne h e
    have hb := H.blk
    rw [hc] at hb
    simp at hb)
  have hset : Chg w1 (w1.setCell ⟨h, 0, none⟩ v1) (fun k => k = h) := (Chg.refl w1 (fun k => k = h)).setCell (p := ⟨h, 0, none⟩) (.inl rfl) _
  have hmap : ∀ {α β : Type} {kv : α → Value} {ev : β → Value} {okk : α → Prop} {b : Nat} {f : α → Option β}, MapOf kv ev okk w b f → MapOf kv ev okk (w1.setCell ⟨h, 0, none⟩ v1) b f := fun hm => by
    have hm1 := hm.chg hch (fun e => by
      obtain ⟨cells, hc⟩ := hne _ e
      obtain ⟨es, cl, hb⟩ := hm.isMap
      rw [hc] at hb
      cases hb)
    refine hm1.chg hset (fun e => ?_)
    obtain ⟨es, cl, hb⟩ := hm1.isMap
    rw [e, hb1] at hb
    cases hb
  exact {
    blk := blk_put hb1 0 v1 rfl
    slots := by
      refine Kd.R_mono (Kd.R_bound (R_typ hs hb1 (by decide) hset)) (fun k hk => ?_)
      obtain ⟨h1, _, h3, _⟩ := hk
      rw [show (w1.setCell ⟨h, 0, none⟩ v1).heap.size = w1.heap.size from by simp [World.setCell]] at h3
      rcases h1 with h1 | h1
      · exact .inl h1
      · exact .inr ⟨h1, h3⟩
    rmap := hmap H.rmap
    gmap := hmap H.gmap
    rowv := fun p v hp => by
      obtain ⟨h1, h2⟩ := H.rowv p v hp
      have h3 := R_chg h1 hch (fun k q cells _ hq hk e => by
        obtain ⟨cells', hc⟩ := hne k e
        rw [hk] at hc
        simp [Kd.int, Kd.scalar] at hq
        subst hq
        injection hc with hc
        injection hc with _ hc
        exact absurd hc (by decide))
      exact ⟨Kd.R_mono (R_typ h3 hb1 (by intro q hq; simp [Kd.int, Kd.scalar] at hq; subst hq; decide) hset) (fun k hk => .inl hk), h2⟩
    rown := H.rown
    apart := H.apart
    givn := H.givn
    hF := .inl H.hF
    rF := .inl H.rF
    gF := .inl H.gF
    ne := H.ne
    bound := fun k hk => by
      rw [show (w1.setCell ⟨h, 0, none⟩ v1).heap.size = w1.heap.size from by simp [World.setCell]]
      rcases hk with hk | hk
      · exact Nat.lt_of_lt_of_le (H.bound k hk) hch.size
      · exact hk.2 }

set_option maxRecDepth 100000 in
theorem free_full (h : Nat) (A : AH) (F : Nat → Prop) (w : World) {sv : Value} {rb gb : Nat} {rg : Int × Int → Option Value} {gg : Int → Option Int} (H : HeapAt w h A F sv rb gb rg gg) (hm : A.many = (A.slots.length : Int)) (hl : A.slots.length < 2147483648) :
    Calls Try.prog 80 #[.pointer (some ⟨h, 0, none⟩)] w fun e w' => e = .returned (.int .i64 A.slots.length) ∧ HeapIs w' h { A with slots := A.slots ++ [zTup] } (ext F w w') ∧ Chg w w' F := by
  have HH := Aside0.mk H
  obtain ⟨a, c, rfl, hn⟩ := sv_slice H.slots
  have c0 := H.cell 0
  have c3 := H.cell 3
  have z0 := H.frozen 0
  have hlt : h < w.heap.size := H.bound h H.hF
  rw [hm] at c3
  have HL := Aside0.mk hl
  have b1 : ((A.slots.length : Int) == (A.slots.length : Int)) = true := beq_self_eq_true _
  simp at c0 c3
  clear H hm hl
  go_enter Try.func80, Try.ntmps80
  go_wp2
  go_quiet (fail)
  go_wp2_with (at_builtin; go_loud (refine Kd.R_append kTup (w0 := w) 0 rfl (.tmp 17) (.tmp 19) 104 39 (.agg #[.int .i64 0, .int .i64 0, .int .i64 0, .int .i64 0, .int .i64 0, .int .i64 0, .slice none 0 0]) 72 rfl Try.underlying104 Try.infoTuple rfl (by decide) (by omega) (.slice a A.slots.length c) A.slots zTup [.int .i64 0, .int .i64 0, .int .i64 0, .int .i64 0, .int .i64 0, .int .i64 0, .slice none 0 0] (fun k => F k ∨ w.heap.size ≤ k) (fun _ => False) rfl rfl (k32_mkM _ 0 _ zTup (Kd.R_nil _ _ _ _ _)) (fun _ h => h.elim) (fun k hk => .inr (by simpa using hk)) (Kd.R_drewN (Kd.R_mono HH.out.slots (fun k hk => .inl hk)) _) (pw_below_drewN (Below.refl 0 w) _) (Nat.zero_le _) (by have := HL.out; omega) ?_); intro v1 w1 ho hb hg hat; clear hb hat; have hch := chg_drewN_grown hg; clear hg; have hb1 := HH.out.blk_slots hch; replace hch := Aside0.mk hch; obtain ⟨a1, c1, e1⟩ := Kd.R_slice ho; simp only [List.length_append, List.length_cons, List.length_nil, Nat.zero_add] at e1; subst e1; replace ho := Aside0.mk ho; have k0 := blk_cell hb1 0; have z1 := blk_frozen hb1 0; have hb2 := Aside0.mk hb1; clear hb1; simp at k0)
  go_ret
  have hset : Chg w1 (w1.setCell ⟨h, 0, none⟩ (.slice a1 (A.slots.length + 1) c1)) (fun k => k = h) := (Chg.refl w1 (fun k => k = h)).setCell (p := ⟨h, 0, none⟩) (.inl rfl) _
  refine ⟨by simp, ⟨.slice a1 (A.slots.length + 1) c1, rb, gb, rg, gg, ?_⟩, ?_⟩
  · have h1 := HH.out.reslot hch.out ho.out
    have h2 : ext F w (w1.setCell ⟨h, 0, none⟩ (.slice a1 (A.slots.length + 1) c1)) = ext F w w1 := by funext k; simp [ext, World.setCell]
    rw [h2]
    exact h1
  · exact hch.out.trans hset (fun k _ hk => (R_block HH.out.slots (Eq.symm hk)).1) (fun k _ hk => by have e : k = h := hk; rw [e]; exact HH.out.hF)

set_option maxRecDepth 100000 in
theorem free_some (h : Nat) (A : AH) (F : Nat → Prop) (w : World) {sv : Value} {rb gb : Nat} {rg : Int × Int → Option Value} {gg : Int → Option Int} (H : HeapAt w h A F sv rb gb rg gg) (hm : A.many ≠ (A.slots.length : Int)) :
    Calls Try.prog 80 #[.pointer (some ⟨h, 0, none⟩)] w fun e w' => e = .returned (.int .i64 (firstFree A.slots 0)) ∧ Below w.heap.size w w' := by
  obtain ⟨a, c, rfl, hn⟩ := sv_slice H.slots
  have HR := Aside0.mk H.slots
  have c0 := H.cell 0
  have c3 := H.cell 3
  have b1 : (A.many == (A.slots.length : Int)) = false := beq_eq_false_iff_ne.2 hm
  simp at c0 c3
  clear H hm
  go_enter Try.func80, Try.ntmps80
  go_wp2
  go_quiet (fail)
  go_wp2_with (go_at_call 101; go_loud (refine (indexFree_calls _ A.slots F _ (Kd.R_drewN HR.out _)).mono ?_); rintro e w1 ⟨rfl, hb⟩; replace hb := Aside0.mk hb)
  go_ret
  exact ⟨rfl, ⟨hb.out.os, hb.out.tape, hb.out.output, hb.out.size, hb.out.block⟩⟩

theorem free_calls (h : Nat) (A : AH) (F : Nat → Prop) (w : World) (H : HeapIs w h A F) (hA : A.Ok) (hl : A.slots.length < 2147483648) :
    Calls Try.prog 80 #[.pointer (some ⟨h, 0, none⟩)] w fun e w' => e = .returned (.int .i64 A.least) ∧ HeapIs w' h A.roomy (ext F w w') ∧ Chg w w' F := by
  obtain ⟨sv, rb, gb, rg, gg, H⟩ := H
  by_cases hm : A.many = (A.slots.length : Int)
  · have hle := hA.least.1 hm
    refine (free_full h A F w H hm hl).mono ?_
    rintro e w' ⟨rfl, h1, h2⟩
    refine ⟨by rw [hle], ?_, h2⟩
    rw [show A.roomy = { A with slots := A.slots ++ [zTup] } from by simp [AH.roomy, hle]]
    exact h1
  · have hle : A.least ≠ A.slots.length := fun e => hm (hA.least.2 e)
    have hlt : A.least < A.slots.length := Nat.lt_of_le_of_ne A.least_le hle
    refine (free_some h A F w H hm).mono ?_
    rintro e w' ⟨rfl, hb⟩
    refine ⟨by rw [firstFree_least _ hlt]; rfl, ?_, Chg.of_below hb _⟩
    rw [show A.roomy = A from by simp [AH.roomy, hle]]
    exact ⟨sv, rb, gb, rg, gg, (H.chg (Chg.of_below hb (fun _ => False)) (fun _ _ h => h)).mono (fun k hk => .inl hk) (fun k hk => by
      rcases hk with hk | hk
      · exact Nat.lt_of_lt_of_le (H.bound k hk) hb.size
      · exact hk.2)⟩
end Go.Proofs.Ytljahhgankcalaa

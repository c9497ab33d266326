import Derived.Test.YtljahhgankcalaaG3
import Derived.Test.YtljahhgankcalaaDf
/-! (*Heap).Free. -/
namespace Go.Proofs.Ytljahhgankcalaa
open Go.RowKit Go.Maps Go.MapKept Go.WideMaps
open Go.Proofs.YtljahhgankcalaaW.PrintWords Go.Proofs.YtljahhgankcalaaW.PrintLast Go.Proofs.YtljahhgankcalaaW.PrintMore
open PHeapThere
set_option linter.unusedVariables false
set_option linter.unusedSimpArgs false

theorem upd_upd {α β : Type} [DecidableEq α] (g : α → Option β) (a : α) (u v : Option β) : upd (upd g a u) a v = upd g a v := by
  funext x
  unfold upd
  split <;> rfl

section
variable {w w1 w2 : World} {h : Nat} {A : AH} {F : Nat → Prop} {sv : Value} {rb gb : Nat} {rg : Int × Int → Option Value} {gg : Int → Option Int}
/-- A row's slots are struck. -/
theorem HeapAt.delRow (H : HeapAt w h A F sv rb gb rg gg) {p : Int × Int} {S : Nat → Prop} (hch : Chg w w1 S) (hS : ∀ k, S k → k < w.heap.size → k = rb ∨ ∃ u, rg p = some u ∧ u.ownBlock = some k)
    (hm : MapOf kvW id okW w1 rb (upd rg p none)) : HeapAt w1 h { A with rows := fun q => if q = p then [] else A.rows q } (ext F w w1) sv rb gb (upd rg p none) gg := by
  have hint : ∀ k u, rg p = some u → u.ownBlock = some k → ∃ cells, w.heap[k]? = some (.cells cells 3 (0, 0)) := fun k u hu hk => (R_block (H.rowv p u hu).1 hk).2
  have hcase : ∀ k, S k → k < w.heap.size → k = rb ∨ ∃ cells, w.heap[k]? = some (.cells cells 3 (0, 0)) := fun k hk hlt => by
    rcases hS k hk hlt with h1 | ⟨u, hu, hb⟩
    · exact .inl h1
    · exact .inr (hint k u hu hb)
  have hrb : ∃ es cl, w.heap[rb]? = some (.map es cl) := H.rmap.isMap
  have hbl := blk_lt H.blk
  refine {
    blk := hch.obj H.blk (fun hs => ?_)
    slots := Kd.R_mono (R_chg H.slots hch (fun k q cells _ hq hk hs => ?_)) (fun k hk => .inl hk)
    rmap := hm
    gmap := H.gmap.chg hch (fun hs => ?_)
    rowv := fun q u hq => ?_
    rown := fun q hq => ?_
    apart := fun a b u1 u2 k h1 h2 e1 e2 => ?_
    givn := H.givn
    hF := .inl H.hF
    rF := .inl H.rF
    gF := .inl H.gF
    ne := H.ne
    bound := fun k hk => ?_ }
  · rcases hcase h hs hbl with e | ⟨cells, hc⟩
    · obtain ⟨es, cl, hb⟩ := hrb
      have hh := H.blk
      rw [e, hb] at hh
      cases hh
    · have hh := H.blk
      rw [hc] at hh
      simp at hh
  · rcases hcase k hs (blk_lt hk) with e | ⟨cells', hc⟩
    · obtain ⟨es, cl, hb⟩ := hrb
      rw [e, hb] at hk
      cases hk
    · rw [hc] at hk
      injection hk with hk
      injection hk with _ hk
      subst hk
      revert hq
      decide
  · rcases hcase gb hs (H.gmap.lt) with e | ⟨cells', hc⟩
    · exact H.ne e.symm
    · obtain ⟨es, cl, hb⟩ := H.gmap.isMap
      rw [hc] at hb
      cases hb
  · by_cases hqp : q = p
    · subst hqp
      rw [upd_same] at hq
      cases hq
    · rw [upd_other _ _ hqp] at hq
      simp only [if_neg hqp]
      obtain ⟨h1, h2⟩ := H.rowv q u hq
      refine ⟨Kd.R_mono (R_chg (Kd.R_tight rfl h1) hch (fun k t cells hk _ hc hs => ?_)) (fun k hk => .inl (h1.1 k hk.symm)), h2⟩
      rcases hS k hs (blk_lt hc) with e | ⟨u', hu', hb⟩
      · obtain ⟨es, cl, hb⟩ := hrb
        rw [e, hb] at hc
        cases hc
      · exact hqp (H.apart q p u u' k hq hu' hk.symm hb)
  · by_cases hqp : q = p
    · subst hqp; simp
    · rw [upd_other _ _ hqp] at hq
      simp only [if_neg hqp]
      exact H.rown q hq
  · by_cases ha : a = p
    · subst ha; rw [upd_same] at h1; cases h1
    · by_cases hb : b = p
      · subst hb; rw [upd_same] at h2; cases h2
      · rw [upd_other _ _ ha] at h1
        rw [upd_other _ _ hb] at h2
        exact H.apart a b u1 u2 k h1 h2 e1 e2
  · rcases hk with hk | hk
    · exact Nat.lt_of_lt_of_le (H.bound k hk) hch.size
    · exact hk.2

theorem HeapAt.drew (H : HeapAt w h A F sv rb gb rg gg) : HeapAt w.drew h A F sv rb gb rg gg := H.move (fun _ _ => rfl) (Nat.le_refl _)
/-- A slot is emptied. -/
theorem HeapAt.zeroSlot (H : HeapAt w h A F sv rb gb rg gg) {i g cap : Nat} {cur : Array Value} (hi : i < A.slots.length) (hsv : sv = .slice (some ⟨g, 0, none⟩) A.slots.length cap) (hcap : A.slots.length ≤ cap)
    (hg : w.heap[g]? = some (.cells cur 39 (0, 0))) (hsz : cur.size = cap * 7) :
    HeapAt (w.setCells g (i * 7) [.int .i64 0, .int .i64 0, .int .i64 0, .int .i64 0, .int .i64 0, .int .i64 0, .slice none 0 0]) h { A with slots := A.slots.set i zTup } F sv rb gb rg gg := by
  have hch := chg_setCells w g (i * 7) [.int .i64 0, .int .i64 0, .int .i64 0, .int .i64 0, .int .i64 0, .int .i64 0, .slice none 0 0]
  exact H.slotwise hg hch (R_setCells (d := kTup) H.slots hi hsv hg hsz hcap (k32_mkM _ 0 _ zTup (Kd.R_nil _ _ _ _ _)))
end

/-- The closure that Free hands to DeleteFunc. -/
theorem freed_reads (s : Int) (b : Nat) (w : World) (S : Nat → Prop) (hc : w.cell? ⟨b, 0, none⟩ = some (.int .i64 s)) (hS : ¬ S b) : Reads 83 #[.pointer (some ⟨b, 0, none⟩)] (fun x => x == s) w S := fun W x hch => by
  have hc1 : W.cell? ⟨b, 0, none⟩ = some (.int .i64 s) := hch.cell_some hc hS
  show Calls Try.prog 83 #[.int .i64 x, .pointer (some ⟨b, 0, none⟩)] W _
  clear hch hS hc
  go_enter Try.func83, Try.ntmps83
  go_wp2
  repeat (go_quiet (fail); try go_wp2)
  go_ret
  first
    | exact ⟨rfl, 0, rfl⟩
    | exact ⟨rfl, _, rfl⟩

/-- What Free does. -/
def AH.free (A : AH) (s : Int) : Int × AH :=
  if A.there s then (0, { slots := A.slots.set s.toNat zTup, rows := fun q => if q = ((A.at s).f0, (A.at s).f1) then (A.rows q).filter (fun x => !(x == s)) else A.rows q, given := A.given, many := A.many - 1 })
  else (1, A)

theorem freed_no (h : Nat) (s : Int) (A : AH) (F : Nat → Prop) (w : World) (H : HeapIs w h A F) (hb : A.there s = false) :
    Calls Try.prog 41 #[.pointer (some ⟨h, 0, none⟩), .int .i64 s] w fun e w' => e = .returned (.int .i64 1) ∧ Below w.heap.size w w' := by
  have hi := refused_calls h s A F (w.alloc (.cells #[.int .i64 s] 3)) (H.below ((Below.refl _ w).alloc (Nat.le_refl _) _))
  rw [hb] at hi
  clear H hb
  go_enter Try.func41, Try.ntmps41
  go_wp2_with (go_at_call 81; refine hi.mono ?_; rintro e w' ⟨rfl, rfl⟩)
  go_ret
  exact ⟨rfl, (Below.refl _ w).alloc (Nat.le_refl _) _⟩
end Go.Proofs.Ytljahhgankcalaa

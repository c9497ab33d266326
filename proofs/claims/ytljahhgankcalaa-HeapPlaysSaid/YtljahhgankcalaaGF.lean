import Derived.Test.YtljahhgankcalaaG3
import Derived.Test.YtljahhgankcalaaDf
/-! (*Heap).Free. -/
namespace Go.Proofs.Ytljahhgankcalaa
open Go.RowKit Go.Maps Go.MapKept Go.WideMaps
open Go.Proofs.YtljahhgankcalaaW.PrintWords Go.Proofs.YtljahhgankcalaaW.PrintLast Go.Proofs.YtljahhgankcalaaW.PrintMore
open PHeapThere
set_option linter.unusedVariables false
set_option linter.unusedSimpArgs false

theorem upd_upd {α β : Type} [DecidableEq α] (g : α → Option β) (a : α) (u v : Option β) : upd (upd g a u) a v = upd g a v := by
  funext x
  unfold upd
  split <;> rfl

section
variable {w w1 w2 : World} {h : Nat} {A : AH} {F : Nat → Prop} {sv : Value} {rb gb : Nat} {rg : Int × Int → Option Value} {gg : Int → Option Int}
/-- A row's slots are struck. -/
theorem HeapAt.delRow (H : HeapAt w h A F sv rb gb rg gg) {p : Int × Int} {S : Nat → Prop} (hch : Chg w w1 S) (hS : ∀ k, S k → k < w.heap.size → k = rb ∨ ∃ u, rg p = some u ∧ u.ownBlock = some k)
    (hm : MapOf kvW id okW w1 rb (upd rg p none)) : HeapAt w1 h { A with rows := fun q => if q = p then [] else A.rows q } (ext F w w1) sv rb gb (upd rg p none) gg := by
  have hint : ∀ k u, rg p = some u → u.ownBlock = some k → ∃ cells, w.heap[k]? = some (.cells cells 3 (0, 0)) := fun k u hu hk => (R_block (H.rowv p u hu).1 hk).2
  have hcase : ∀ k, S k → k < w.heap.size → k = rb ∨ ∃ cells, w.heap[k]? = some (.cells cells 3 (0, 0)) := fun k hk hlt => by
    rcases hS k hk hlt with h1 | ⟨u, hu, hb⟩
    · exact .inl h1
    · exact .inr (hint k u hu hb)
  have hrb : ∃ es cl, w.heap[rb]? = some (.map es cl) := H.rmap.isMap
  have hbl := blk_lt H.blk
  refine {
    blk := hch.obj H.blk (fun hs => ?_)
    slots := Kd.R_mono (R_chg H.slots hch (fun k q cells _ hq hk hs => ?_)) (fun k hk => .inl hk)
    rmap := hm
    gmap := H.gmap.chg hch (fun hs => ?_)
    rowv := fun q u hq => ?_
    rown := fun q hq => ?_
    apart := fun a b u1 u2 k h1 h2 e1 e2 => ?_
    givn := H.givn
    hF := .inl H.hF
    rF := .inl H.rF
    gF := .inl H.gF
    ne := H.ne
    bound := fun k hk => ?_ }
  · rcases hcase h hs hbl with e | ⟨cells, hc⟩
    · obtain ⟨es, cl, hb⟩ := hrb
      have hh := H.blk
      rw [e, hb] at hh
      cases hh
    · have hh := H.blk
      rw [hc] at hh
      simp at hh
  · rcases hcase k hs (blk_lt hk) with e | ⟨cells', hc⟩
    · obtain ⟨es, cl, hb⟩ := hrb
      rw [e, hb] at hk
      cases hk
    · rw [hc] at hk
      injection hk with hk
      injection hk with _ hk
      subst hk
      revert hq
      decide
  · rcases hcase gb hs (H.gmap.lt) with e | ⟨cells', hc⟩
    · exact H.ne e.symm
    · obtain ⟨es, cl, hb⟩ := H.gmap.isMap
      rw [hc] at hb
      cases hb
  · by_cases hqp : q = p
    · subst hqp
      rw [upd_same] at hq
      cases hq
    · rw [upd_other _ _ hqp] at hq
      simp only [if_neg hqp]
      obtain ⟨h1, h2⟩ := H.rowv q u hq
      refine ⟨Kd.R_mono (R_chg (Kd.R_tight rfl h1) hch (fun k t cells hk _ hc hs => ?_)) (fun k hk => .inl (h1.1 k hk.symm)), h2⟩
      rcases hS k hs (blk_lt hc) with e | ⟨u', hu', hb⟩
      · obtain ⟨es, cl, hb⟩ := hrb
        rw [e, hb] at hc
        cases hc
      · exact hqp (H.apart q p u u' k hq hu' hk.symm hb)
  · by_cases hqp : q = p
    · subst hqp; simp
    · rw [upd_other _ _ hqp] at hq
      simp only [if_neg hqp]
      exact H.rown q hq
  · by_cases ha : a = p
    · subst ha; rw [upd_same] at h1; cases h1
    · by_cases hb : b = p
      · subst hb; rw [upd_same] at h2; cases h2
      · rw [upd_other _ _ ha] at h1
        rw [upd_other _ _ hb] at h2
        exact H.apart a b u1 u2 k h1 h2 e1 e2
  · rcases hk with hk | hk
    · exact Nat.lt_of_lt_of_le (H.bound k hk) hch.size
    · exact hk.2

theorem HeapAt.drew (H : HeapAt w h A F sv rb gb rg gg) : HeapAt w.drew h A F sv rb gb rg gg := H.move (fun _ _ => rfl) (Nat.le_refl _)
/-- A slot is emptied. -/
theorem HeapAt.zeroSlot (H : HeapAt w h A F sv rb gb rg gg) {i g cap : Nat} {cur : Array Value} (hi : i < A.slots.length) (hsv : sv = .slice (some ⟨g, 0, none⟩) A.slots.length cap) (hcap : A.slots.length ≤ cap)
    (hg : w.heap[g]? = some (.cells cur 39 (0, 0))) (hsz : cur.size = cap * 7) :
    HeapAt (w.setCells g (i * 7) [.int .i64 0, .int .i64 0, .int .i64 0, .int .i64 0, .int .i64 0, .int .i64 0, .slice none 0 0]) h { A with slots := A.slots.set i zTup } F sv rb gb rg gg := by
  have hch := chg_setCells w g (i * 7) [.int .i64 0, .int .i64 0, .int .i64 0, .int .i64 0, .int .i64 0, .int .i64 0, .slice none 0 0]
  exact H.slotwise hg hch (R_setCells (d := kTup) H.slots hi hsv hg hsz hcap (k32_mkM _ 0 _ zTup (Kd.R_nil _ _ _ _ _)))
end

/-- The closure that Free hands to DeleteFunc. -/
theorem freed_reads (s : Int) (b : Nat) (w : World) (S : Nat → Prop) (hc : w.cell? ⟨b, 0, none⟩ = some (.int .i64 s)) (hS : ¬ S b) : Reads 83 #[.pointer (some ⟨b, 0, none⟩)] (fun x => x == s) w S := fun W x hch => by
  have hc1 : W.cell? ⟨b, 0, none⟩ = some (.int .i64 s) := hch.cell_some hc hS
  show Calls Try.prog 83 #[.int .i64 x, .pointer (some ⟨b, 0, none⟩)] W _
  clear hch hS hc
  go_enter Try.func83, Try.ntmps83
  go_wp2
  repeat (go_quiet (fail); try go_wp2)
  go_ret
  first
    | exact ⟨rfl, 0, rfl⟩
    | exact ⟨rfl, _, rfl⟩

/-- What Free does. -/
def AH.free (A : AH) (s : Int) : Int × AH :=
  if A.there s then (0, { slots := A.slots.set s.toNat zTup, rows := fun q => if q = ((A.at s).f0, (A.at s).f1) then (A.rows q).filter (fun x => !(x == s)) else A.rows q, given := A.given, many := A.many - 1 })
  else (1, A)

theorem freed_no (h : Nat) (s : Int) (A : AH) (F : Nat → Prop) (w : World) (H : HeapIs w h A F) (hb : A.there s = false) :
    Calls Try.prog 41 #[.pointer (some ⟨h, 0, none⟩), .int .i64 s] w fun e w' => e = .returned (.int .i64 1) ∧ Below w.heap.size w w' := by
  have hi := refused_calls h s A F (w.alloc (.cells #[.int .i64 s] 3)) (H.below ((Below.refl _ w).alloc (Nat.le_refl _) _))
  rw [hb] at hi
  clear H hb
  go_enter Try.func41, Try.ntmps41
  go_wp2_with (go_at_call 81; refine hi.mono ?_; rintro e w' ⟨rfl, rfl⟩)
  go_ret
  exact ⟨rfl, (Below.refl _ w).alloc (Nat.le_refl _) _⟩
end Go.Proofs.Ytljahhgankcalaa

/-! (*Heap).Free, of a tuple that is there. -/
namespace Go.Proofs.Ytljahhgankcalaa
open Go.RowKit Go.Maps Go.MapKept Go.WideMaps
open Go.Proofs.YtljahhgankcalaaW.PrintWords Go.Proofs.YtljahhgankcalaaW.PrintLast Go.Proofs.YtljahhgankcalaaW.PrintMore
open PHeapThere
set_option linter.unusedVariables false
set_option linter.unusedSimpArgs false

set_option maxRecDepth 100000 in
set_option maxHeartbeats 2000000 in
theorem freed_yes (h : Nat) (i : Nat) (A : AH) (F : Nat → Prop) (w : World) (H : HeapIs w h A F) (hA : A.Ok) (hi : i < A.slots.length) (hb : A.there i = true) (hm0 : 1 ≤ A.many) (hm1 : A.many < 2147483648) :
    Calls Try.prog 41 #[.pointer (some ⟨h, 0, none⟩), .int .i64 i] w fun e w' => e = .returned (.int .i64 0) ∧ HeapIs w' h (A.free i).2 (ext F w w') ∧ Chg w w' F := by
  have hri := refused_calls h i A F (w.alloc (.cells #[.int .i64 i] 3)) (H.below ((Below.refl _ w).alloc (Nat.le_refl _) _))
  rw [hb] at hri
  have HH := Aside0.mk H
  have HA := Aside0.mk hA
  have hb' := Aside0.mk hb
  clear H hA hb
  go_enter Try.func41, Try.ntmps41
  go_wp2_with fail
  refine hri.mono ?_
  rintro e w' ⟨rfl, rfl⟩
  clear hri
  have H0 := HH.out.below ((Below.refl _ w).alloc (Nat.le_refl _) (.cells #[.int .i64 i] 3))
  have hs0 := blk_new w (.cells #[.int .i64 i] 3)
  have C0 : Chg w (w.alloc (.cells #[.int .i64 i] 3)) (fun _ => False) := (Chg.refl w _).alloc _
  have hsz0 : (w.alloc (.cells #[.int .i64 i] 3)).heap.size = w.heap.size + 1 := World.size_alloc _ _
  generalize w.alloc (.cells #[.int .i64 i] 3) = w0 at H0 hs0 C0 hsz0 ⊢
  obtain ⟨sv, rb, gb, rg, gg, H0⟩ := H0
  obtain ⟨g, cap, cur, u6, hsv, hn, hm, hgF, hg, hsz, h6, x0, x1, x2, x3, x4, x5, x6⟩ := slot_cells H0.slots hi
  obtain ⟨A6, c6, e6⟩ := Kd.R_slice h6
  subst e6
  have k0 := H0.cell 0
  have k1 := H0.cell 1
  rw [hsv] at k0
  have ks := blk_cell hs0 0
  have y0 := (blk_cell hg (i * 7)).trans x0
  have y1 := (blk_cell hg (i * 7 + 1)).trans x1
  have y2 := (blk_cell hg (i * 7 + 2)).trans x2
  have y3 := (blk_cell hg (i * 7 + 3)).trans x3
  have y4 := (blk_cell hg (i * 7 + 4)).trans x4
  have y5 := (blk_cell hg (i * 7 + 5)).trans x5
  have y6 := (blk_cell hg (i * 7 + 6)).trans x6
  simp at k0 k1 ks
  have b1 : (0 : Int) ≤ (i : Int) := by omega
  have b2 : (i : Int) < (A.slots.length : Int) := by omega
  have n0 := World.new_ne w0 _ k0
  have n1 := World.new_ne w0 _ ks
  have n2 := World.new_ne w0 _ y0
  have HSV := Aside0.mk hsv
  have HG := Aside0.mk hg
  have HN := Aside0.mk (And.intro hn (And.intro hm hsz))
  replace H0 := Aside0.mk H0
  replace C0 := Aside0.mk C0
  replace hs0 := Aside0.mk hs0
  obtain ⟨T, hT⟩ : ∃ T, T = A.slots[i] := ⟨_, rfl⟩
  rw [← hT] at y0 y1 y2 y3 y4 y5 y6
  replace hT := Aside0.mk hT
  clear hsv hg hn hm hsz x0 x1 x2 x3 x4 x5 x6 h6
  go_wp2_with fail
  go_region_held3 (fun w' => w'.cell? ⟨h, 0, none⟩ = some (.slice (some ⟨g, 0, none⟩) A.slots.length cap) ∧ w'.cell? ⟨w.heap.size, 0, none⟩ = some (.int .i64 i) ∧ w'.cell? ⟨g, i * 7, none⟩ = some (.int .i64 T.f0) ∧ w'.cell? ⟨g, i * 7 + 1, none⟩ = some (.int .i64 T.f1) ∧ w'.cell? ⟨g, i * 7 + 2, none⟩ = some (.int .i64 T.f2) ∧ w'.cell? ⟨g, i * 7 + 3, none⟩ = some (.int .i64 T.f3) ∧ w'.cell? ⟨g, i * 7 + 4, none⟩ = some (.int .i64 T.f4) ∧ w'.cell? ⟨g, i * 7 + 5, none⟩ = some (.int .i64 T.f5) ∧ w'.cell? ⟨g, i * 7 + 6, none⟩ = some (.slice A6 T.f6.length c6)) (go_keep) ((fail))
  go_wp2_with fail
  have C5 : Chg w0 (((w0.alloc (.cells #[.int .i64 T.f0, .int .i64 T.f1, .int .i64 T.f2, .int .i64 T.f3, .int .i64 T.f4, .int .i64 T.f5, .slice A6 T.f6.length c6] 39)).alloc (.cells #[.int .i64 T.f0, .int .i64 T.f1] 128)).drew) (fun _ => False) := (((Chg.refl w0 _).alloc _).alloc _).drew
  have hb7 : (((w0.alloc (.cells #[.int .i64 T.f0, .int .i64 T.f1, .int .i64 T.f2, .int .i64 T.f3, .int .i64 T.f4, .int .i64 T.f5, .slice A6 T.f6.length c6] 39)).alloc (.cells #[.int .i64 T.f0, .int .i64 T.f1] 128)).drew).heap[w.heap.size + 1 + 1]? = some (.cells #[.int .i64 T.f0, .int .i64 T.f1] 128 (0, 0)) := by
    have := blk_new (w0.alloc (.cells #[.int .i64 T.f0, .int .i64 T.f1, .int .i64 T.f2, .int .i64 T.f3, .int .i64 T.f4, .int .i64 T.f5, .slice A6 T.f6.length c6] 39)) (.cells #[.int .i64 T.f0, .int .i64 T.f1] 128)
    rw [World.size_alloc, hsz0] at this
    exact this
  generalize ((w0.alloc (.cells #[.int .i64 T.f0, .int .i64 T.f1, .int .i64 T.f2, .int .i64 T.f3, .int .i64 T.f4, .int .i64 T.f5, .slice A6 T.f6.length c6] 39)).alloc (.cells #[.int .i64 T.f0, .int .i64 T.f1] 128)).drew = w5 at C5 hb7 ⊢
  have H5 := H0.out.chg C5 (fun _ _ h => h)
  have hs5 := C5.obj hs0.out (fun h => h)
  have hg5 := C5.obj HG.out (fun h => h)
  have k1' := H5.cell 1
  have ks' := blk_cell hs5 0
  have d0 := blk_cell hb7 0
  have d1 := blk_cell hb7 1
  simp at k1' ks' d0 d1
  have hAt : A.at i = T := by rw [A.at_nat hi, hT.out]
  have hin : (i : Int) ∈ A.rows (T.f0, T.f1) := (HA.out.rows _ _).2 ⟨hb'.out, by rw [hAt]⟩
  obtain ⟨v0, hv0⟩ : ∃ v0, rg (T.f0, T.f1) = some v0 := by
    cases hq : rg (T.f0, T.f1) with
    | some v => exact ⟨v, rfl⟩
    | none => rw [H5.rown _ hq] at hin; cases hin
  have hR0 := (H5.rowv _ _ hv0).1
  have hokw := H5.rmap.good hv0
  obtain ⟨b0, hb0⟩ : ∃ b0, v0.ownBlock = some b0 := by
    obtain ⟨g', cap', hv', _⟩ := int_cells hR0 (i := 0) (List.length_pos_of_mem hin)
    exact ⟨g', by rw [hv']; rfl⟩
  obtain ⟨hb0F, cs0, hcs0⟩ := R_block hR0 hb0
  have ne1 : w.heap.size ≠ b0 := fun e => HH.out.bound _ hb0F |> fun hlt => by omega
  have ne2 : h ≠ b0 := fun e => by
    have hh := H5.blk
    rw [e, hcs0] at hh
    simp at hh
  have ne3 : w.heap.size + 1 + 1 ≠ b0 := fun e => HH.out.bound _ hb0F |> fun hlt => by omega
  have hlk := H5.rmap.drew.look keyWhere Try.underlying103 (Try.zeroRow _) false hokw
  rw [hv0] at hlk
  simp only [kvW, id] at hlk
  have heg : ∀ args w, (callFunc 83 args).run Try.prog w = .ok (.enter 83 args) w := enters_of Try.func83 (by kernel_rfl) rfl
  have hdel := deleteInt_calls 83 #[.pointer (some ⟨w.heap.size, 0, none⟩)] (fun x => x == (i : Int)) heg v0 _ F w5.drew (Kd.R_drew hR0) (freed_reads i w.heap.size _ _ ks' (by rw [hb0]; intro e; injection e with e; exact ne1 e))
  generalize hl : (A.rows (T.f0, T.f1)).filter (fun x => !(x == (i : Int))) = l at hdel
  have HNE : Aside0 (∀ k, k ≠ b0 → ¬ some k = v0.ownBlock) := ⟨fun k hk e => by rw [hb0] at e; injection e with e; exact hk e⟩
  have ne4 : rb ≠ b0 := fun e => by
    obtain ⟨es, cl, hm⟩ := H5.rmap.isMap
    rw [e, hcs0] at hm
    cases hm
  have H5' := Aside0.mk H5
  have C5' := Aside0.mk C5
  have HK := Aside0.mk (And.intro hv0 (And.intro hb0 (And.intro hcs0 (And.intro hR0 hokw))))
  have HL := Aside0.mk hl
  have HX := Aside0.mk (And.intro hs5 (And.intro hb7 (And.intro hg5 (And.intro hAt hin))))
  clear H5 C5 hv0 hb0 hcs0 hR0 hs5 hb7 hg5 hAt hin hl k0 k1 ks y0 y1 y2 y3 y4 y5 y6
  go_region_held3 (fun w' => w'.cell? ⟨h, 1, none⟩ = some (.map (some rb)) ∧ w'.cell? ⟨w.heap.size + 1 + 1, 0, none⟩ = some (.int .i64 T.f0) ∧ w'.cell? ⟨w.heap.size + 1 + 1, 1, none⟩ = some (.int .i64 T.f1)) (go_keep) ((go_at_call 82; refine hdel.mono ?_; rintro e W6 ⟨v1, rfl, hr6, ho6, hc6, hs6⟩; have hm6 := H5'.out.rmap.drew.chg hc6 (HNE.out rb ne4); have f1 := hc6.cell_some (p := ⟨h, 1, none⟩) k1' (HNE.out h ne2); have f2 := hc6.cell_some (p := ⟨w.heap.size + 1 + 1, 0, none⟩) d0 (HNE.out _ ne3); have f3 := hc6.cell_some (p := ⟨w.heap.size + 1 + 1, 1, none⟩) d1 (HNE.out _ ne3); obtain ⟨W7, hup, hm7, hc7, hs7⟩ := hm6.store keyWhere Try.underlying103 HK.out.2.2.2.2 v1; simp only [kvW, id] at hup; have g1 := hc7.cell_some (p := ⟨h, 1, none⟩) f1 (hm6.no_cell f1); have g2 := hc7.cell_some (p := ⟨w.heap.size + 1 + 1, 0, none⟩) f2 (hm6.no_cell f2); have g3 := hc7.cell_some (p := ⟨w.heap.size + 1 + 1, 1, none⟩) f3 (hm6.no_cell f3); replace hr6 := Aside0.mk hr6; replace ho6 := Aside0.mk ho6; replace hc6 := Aside0.mk hc6; replace hs6 := Aside0.mk hs6; replace hm6 := Aside0.mk hm6; replace hm7 := Aside0.mk hm7; replace hc7 := Aside0.mk hc7; replace hs7 := Aside0.mk hs7))
  all_goals
    obtain ⟨a1, c1, e1⟩ := Kd.R_slice hr6.out
    subst e1
    have hlk7 := hm7.out.drew.look keyWhere Try.underlying103 (Try.zeroRow _) false HK.out.2.2.2.2
    rw [upd_same] at hlk7
    simp only [kvW, id] at hlk7
    clear hup f1 f2 f3 hlk
    have hl9 : l.length ≤ 9223372036854775807 := by obtain ⟨_, _, _, _, h3⟩ := int_slice hr6.out; exact h3
    have hc56 : Chg w5 W6 (fun k => some k = v0.ownBlock) := ⟨hc6.out.os, hc6.out.tape, hc6.out.output, hc6.out.size, hc6.out.block⟩
    have hc57 := Aside0.mk ((hc56.trans (S := fun k => k = rb ∨ some k = v0.ownBlock) hc7.out (fun _ _ h => .inr h) (fun _ _ h => .inl h)))
    clear hc56
    have hS57 : Aside0 (∀ k, (k = rb ∨ some k = v0.ownBlock) → k < w5.heap.size → k = rb ∨ ∃ u, rg (T.f0, T.f1) = some u ∧ u.ownBlock = some k) := ⟨fun k hk _ => by
      rcases hk with hk | hk
      · exact .inl hk
      · exact .inr ⟨v0, HK.out.1, hk.symm⟩⟩
    have hgb0 : g ≠ b0 := fun e => by
      have h1 := HK.out.2.2.1
      have h2 := HX.out.2.2.1
      rw [← e, h2] at h1
      simp at h1
    have hgrb : g ≠ rb := fun e => by
      obtain ⟨es, cl, hm⟩ := H5'.out.rmap.isMap
      rw [← e, HX.out.2.2.1] at hm
      cases hm
    have hgh : g ≠ h := fun e => by
      have hh := H5'.out.blk
      rw [← e, HX.out.2.2.1] at hh
      simp at hh
    have hgw : g ≠ w.heap.size := fun e => by have := HH.out.bound g hgF; omega
    have hhg := Ne.symm hgh
    have hwg := Ne.symm hgw
    have hwrb : w.heap.size ≠ rb := fun e => by have := HH.out.bound rb H5'.out.rF; omega
    have hg7 := Aside0.mk (hc57.out.obj HX.out.2.2.1 (fun hs => by
      rcases hs with hs | hs
      · exact hgrb hs
      · exact HNE.out g hgb0 hs))
    have hs7' := Aside0.mk (hc57.out.obj HX.out.1 (fun hs => by
      rcases hs with hs | hs
      · exact hwrb hs
      · exact HNE.out _ ne1 hs))
    by_cases hle : l = []
    · subst hle
      have b8 : ((0 : Int) == 0) = true := rfl
      have hdl := hm7.out.drew.drew.del (ty := 0) keyWhere Try.underlying103 HK.out.2.2.2.2
      go_wp2_with fail
      go_region_held3 (fun w' => w'.cell? ⟨h, 1, none⟩ = some (.map (some rb)) ∧ w'.cell? ⟨w.heap.size + 1 + 1, 0, none⟩ = some (.int .i64 T.f0) ∧ w'.cell? ⟨w.heap.size + 1 + 1, 1, none⟩ = some (.int .i64 T.f1)) (go_keep) ((fail))
      go_wp2_with fail
      obtain ⟨W8, hdr, hm8, hc8, hs8'⟩ := hdl
      simp only [kvW] at hdr
      have q1 := hc8.cell_some (p := ⟨h, 1, none⟩) (show W7.drew.drew.cell? ⟨h, 1, none⟩ = _ from g1) ((hm7.out.drew.drew).no_cell (show W7.drew.drew.cell? ⟨h, 1, none⟩ = _ from g1))
      have q2 := hc8.cell_some (p := ⟨w.heap.size + 1 + 1, 0, none⟩) (show W7.drew.drew.cell? ⟨w.heap.size + 1 + 1, 0, none⟩ = _ from g2) ((hm7.out.drew.drew).no_cell (show W7.drew.drew.cell? ⟨w.heap.size + 1 + 1, 0, none⟩ = _ from g2))
      have q3 := hc8.cell_some (p := ⟨w.heap.size + 1 + 1, 1, none⟩) (show W7.drew.drew.cell? ⟨w.heap.size + 1 + 1, 1, none⟩ = _ from g3) ((hm7.out.drew.drew).no_cell (show W7.drew.drew.cell? ⟨w.heap.size + 1 + 1, 1, none⟩ = _ from g3))
      go_region_held3 (fun w' => w'.cell? ⟨h, 1, none⟩ = some (.map (some rb)) ∧ w'.cell? ⟨w.heap.size + 1 + 1, 0, none⟩ = some (.int .i64 T.f0) ∧ w'.cell? ⟨w.heap.size + 1 + 1, 1, none⟩ = some (.int .i64 T.f1)) (go_keep) ((fail))
      rw [upd_upd] at hm8
      have hc58 : Chg w5 W8 (fun k => k = rb ∨ some k = v0.ownBlock) := hc57.out.trans (S := fun k => k = rb ∨ some k = v0.ownBlock) ⟨hc8.os, hc8.tape, hc8.output, hc8.size, hc8.block⟩ (fun _ _ h => h) (fun _ _ h => .inl h)
      have H8 := H5'.out.delRow (p := (T.f0, T.f1)) hc58 hS57.out hm8
      have hsz8 : W8.heap.size = W7.heap.size := hs8'
      have hg8 : W8.heap[g]? = _ := (hc8.block g (blk_lt hg7.out) (fun e => hgrb e)).trans hg7.out
      have hs8 : W8.heap[w.heap.size]? = _ := (hc8.block _ (blk_lt hs7'.out) (fun e => hwrb e)).trans hs7'.out
      replace hc58 := Aside0.mk hc58
      rw [show ext F w5 W8 = ext F w5 W7 from by unfold ext; rw [hsz8]] at H8
      clear hm8 hc8 hs8'
      have HZ := H8
      have HZN : Aside0 (∀ k, ext F w5 W7 k → F k ∨ w.heap.size ≤ k) := ⟨fun k hk => by
        rcases hk with hk | hk
        · exact .inl hk
        · have z1 := C5'.out.size
          exact .inr (by have := hk.1; omega)⟩
      have r0 := HZ.cell 0
      have r3 := HZ.cell 3
      have rz := HZ.frozen 3
      have rs := blk_cell hs8 0
      rw [HSV.out] at r0
      have y0 := blk_cell hg8 (i * 7)
      have y1 := blk_cell hg8 (i * 7 + 1)
      have y2 := blk_cell hg8 (i * 7 + 2)
      have y3 := blk_cell hg8 (i * 7 + 3)
      have y4 := blk_cell hg8 (i * 7 + 4)
      have y5 := blk_cell hg8 (i * 7 + 5)
      have y6 := blk_cell hg8 (i * 7 + 6)
      have ysz := HN.out.2.2
      have ylt : i * 7 + 7 ≤ cur.size := by
        have := HN.out.1
        have h7 : (i + 1) * 7 ≤ cap * 7 := Nat.mul_le_mul_right _ (by omega)
        omega
      rw [Array.getElem?_eq_getElem (by omega)] at y0 y1 y2 y3 y4 y5 y6
      generalize cur[i * 7] = o0 at y0
      generalize cur[i * 7 + 1] = o1 at y1
      generalize cur[i * 7 + 2] = o2 at y2
      generalize cur[i * 7 + 3] = o3 at y3
      generalize cur[i * 7 + 4] = o4 at y4
      generalize cur[i * 7 + 5] = o5 at y5
      generalize cur[i * 7 + 6] = o6 at y6
      have yz : ∀ j, W8.frozen? ⟨g, j, none⟩ = false := fun j => blk_frozen hg8 j
      simp at r0 r3 rs
      replace HZ := Aside0.mk HZ
      replace hg8 := Aside0.mk hg8
      replace hs8 := Aside0.mk hs8
      replace ysz := Aside0.mk ysz
      clear ylt
      go_wp2_with fail
      go_region_held3 (fun w' => w'.cell? ⟨h, 0, none⟩ = some (.slice (some ⟨g, 0, none⟩) A.slots.length cap) ∧ w'.cell? ⟨w.heap.size, 0, none⟩ = some (.int .i64 i)) (go_keep) ((fail))
      go_wp2
      go_ret
      have hFr : (A.free i).2 = { slots := A.slots.set i zTup, rows := fun q => if q = (T.f0, T.f1) then [] else A.rows q, given := A.given, many := A.many - 1 } := by
        have h1 : A.free i = (0, { slots := A.slots.set (i : Int).toNat zTup, rows := fun q => if q = ((A.at i).f0, (A.at i).f1) then (A.rows q).filter (fun x => !(x == (i : Int))) else A.rows q, given := A.given, many := A.many - 1 }) := by
          unfold AH.free
          rw [if_pos hb'.out]
        rw [h1, HX.out.2.2.2.1, Int.toNat_natCast]
        show ({ slots := _, rows := _, given := _, many := _ } : AH) = _
        congr 1
        funext q
        by_cases hq : q = (T.f0, T.f1)
        · subst hq
          rw [if_pos rfl, if_pos rfl]
          exact HL.out
        · rw [if_neg hq, if_neg hq]
      have hZ := (HZ.out.zeroSlot (i := i) (g := g) (cap := cap) (cur := cur) hi HSV.out HN.out.1 hg8.out HN.out.2.2).setMany (A.many - 1)
      have hC8 : Chg w W8 (fun k => F k ∨ w.heap.size ≤ k) := ((C0.out.trans (S := fun k => F k ∨ w.heap.size ≤ k) C5'.out (fun _ _ h => h.elim) (fun _ _ h => h.elim)).trans (S := fun k => F k ∨ w.heap.size ≤ k) hc58.out (fun _ _ h => h) (fun k _ hs => by
        rcases hs with hs | hs
        · rw [hs]; exact .inl H5'.out.rF
        · rw [HK.out.2.1] at hs
          injection hs with hs
          rw [hs]
          exact .inl hb0F))
      have hC9 := hC8.trans (S := fun k => F k ∨ w.heap.size ≤ k) (chg_setCells W8 g (i * 7) [.int .i64 0, .int .i64 0, .int .i64 0, .int .i64 0, .int .i64 0, .int .i64 0, .slice none 0 0]) (fun _ _ h => h) (fun k _ (hk : k = g) => by rw [hk]; exact .inl hgF)
      have hC10 := hC9.setCell (p := ⟨h, 3, none⟩) (.inl (.inl HH.out.hF)) (.int .i64 (A.many - 1))
      have hZd := hZ.drew
      have hbd := hZd.bound
      have hCd := hC10.drew
      clear hZ hC10 hC9 hC8
      change _ ∧ HeapIs (((W8.setCells g (i * 7) [.int .i64 0, .int .i64 0, .int .i64 0, .int .i64 0, .int .i64 0, .int .i64 0, .slice none 0 0]).setCell ⟨h, 3, none⟩ (.int .i64 (A.many - 1))).drew) h _ (ext F w (((W8.setCells g (i * 7) [.int .i64 0, .int .i64 0, .int .i64 0, .int .i64 0, .int .i64 0, .int .i64 0, .slice none 0 0]).setCell ⟨h, 3, none⟩ (.int .i64 (A.many - 1))).drew)) ∧ Chg w (((W8.setCells g (i * 7) [.int .i64 0, .int .i64 0, .int .i64 0, .int .i64 0, .int .i64 0, .int .i64 0, .slice none 0 0]).setCell ⟨h, 3, none⟩ (.int .i64 (A.many - 1))).drew) F
      generalize ((W8.setCells g (i * 7) [.int .i64 0, .int .i64 0, .int .i64 0, .int .i64 0, .int .i64 0, .int .i64 0, .slice none 0 0]).setCell ⟨h, 3, none⟩ (.int .i64 (A.many - 1))).drew = WF at hZd hbd hCd ⊢
      refine ⟨by simp, ?_, ?_⟩
      · rw [hFr]
        refine ⟨sv, rb, gb, upd rg (T.f0, T.f1) none, gg, hZd.mono (fun k hk => ?_) (fun k hk => ?_)⟩
        · rcases HZN.out k hk with h1 | h1
          · exact .inl h1
          · exact .inr ⟨h1, hbd k hk⟩
        · rcases hk with hk | hk
          · exact Nat.lt_of_lt_of_le (HH.out.bound k hk) hCd.size
          · exact hk.2
      · exact hCd.mono (S1 := F) (fun k hk hs => by rcases hs with hs | hs; exact hs; omega)
    · have hpos : 0 < l.length := by cases l with | nil => exact absurd rfl hle | cons _ _ => simp
      have b8 : ((l.length : Int) == 0) = false := beq_eq_false_iff_ne.2 (by omega)
      go_wp2_with fail
      go_region_held3 (fun w' => w'.cell? ⟨h, 1, none⟩ = some (.map (some rb)) ∧ w'.cell? ⟨w.heap.size + 1 + 1, 0, none⟩ = some (.int .i64 T.f0) ∧ w'.cell? ⟨w.heap.size + 1 + 1, 1, none⟩ = some (.int .i64 T.f1)) (go_keep) ((fail))
      have H7 := H5'.out.setRow (p := (T.f0, T.f1)) (l := l) hle (v := .slice a1 l.length c1) hc57.out hS57.out hm7.out (Kd.R_mono (R_map hr6.out hm6.out hc7.out) (fun _ _ => trivial)) (fun b hb => .inr ⟨v0, HK.out.1, by rw [← ho6.out]; exact hb⟩)
      have H8 := H7.move (w1 := W7.drew) (fun _ _ => rfl) (Nat.le_refl _)
      have hg8 : W7.drew.heap[g]? = _ := hg7.out
      have hs8 : W7.drew.heap[w.heap.size]? = _ := hs7'.out
      have hc58 := Aside0.mk (show Chg w5 W7.drew (fun k => k = rb ∨ some k = v0.ownBlock) from hc57.out.drew)
      have hsz8 : W7.drew.heap.size = W7.heap.size := rfl
      clear H7 hlk7 g1 g2 g3
      generalize W7.drew = W8 at H8 hg8 hs8 hsz8 hc58 ⊢
      have HZ := H8
      have HZN : Aside0 (∀ k, ext F w5 W7 k → F k ∨ w.heap.size ≤ k) := ⟨fun k hk => by
        rcases hk with hk | hk
        · exact .inl hk
        · have z1 := C5'.out.size
          exact .inr (by have := hk.1; omega)⟩
      have r0 := HZ.cell 0
      have r3 := HZ.cell 3
      have rz := HZ.frozen 3
      have rs := blk_cell hs8 0
      rw [HSV.out] at r0
      have y0 := blk_cell hg8 (i * 7)
      have y1 := blk_cell hg8 (i * 7 + 1)
      have y2 := blk_cell hg8 (i * 7 + 2)
      have y3 := blk_cell hg8 (i * 7 + 3)
      have y4 := blk_cell hg8 (i * 7 + 4)
      have y5 := blk_cell hg8 (i * 7 + 5)
      have y6 := blk_cell hg8 (i * 7 + 6)
      have ysz := HN.out.2.2
      have ylt : i * 7 + 7 ≤ cur.size := by
        have := HN.out.1
        have h7 : (i + 1) * 7 ≤ cap * 7 := Nat.mul_le_mul_right _ (by omega)
        omega
      rw [Array.getElem?_eq_getElem (by omega)] at y0 y1 y2 y3 y4 y5 y6
      generalize cur[i * 7] = o0 at y0
      generalize cur[i * 7 + 1] = o1 at y1
      generalize cur[i * 7 + 2] = o2 at y2
      generalize cur[i * 7 + 3] = o3 at y3
      generalize cur[i * 7 + 4] = o4 at y4
      generalize cur[i * 7 + 5] = o5 at y5
      generalize cur[i * 7 + 6] = o6 at y6
      have yz : ∀ j, W8.frozen? ⟨g, j, none⟩ = false := fun j => blk_frozen hg8 j
      simp at r0 r3 rs
      replace HZ := Aside0.mk HZ
      replace hg8 := Aside0.mk hg8
      replace hs8 := Aside0.mk hs8
      replace ysz := Aside0.mk ysz
      clear ylt
      go_wp2_with fail
      go_region_held3 (fun w' => w'.cell? ⟨h, 0, none⟩ = some (.slice (some ⟨g, 0, none⟩) A.slots.length cap) ∧ w'.cell? ⟨w.heap.size, 0, none⟩ = some (.int .i64 i)) (go_keep) ((fail))
      go_wp2
      go_ret
      have hFr : (A.free i).2 = { slots := A.slots.set i zTup, rows := fun q => if q = (T.f0, T.f1) then l else A.rows q, given := A.given, many := A.many - 1 } := by
        have h1 : A.free i = (0, { slots := A.slots.set (i : Int).toNat zTup, rows := fun q => if q = ((A.at i).f0, (A.at i).f1) then (A.rows q).filter (fun x => !(x == (i : Int))) else A.rows q, given := A.given, many := A.many - 1 }) := by
          unfold AH.free
          rw [if_pos hb'.out]
        rw [h1, HX.out.2.2.2.1, Int.toNat_natCast]
        show ({ slots := _, rows := _, given := _, many := _ } : AH) = _
        congr 1
        funext q
        by_cases hq : q = (T.f0, T.f1)
        · subst hq
          rw [if_pos rfl, if_pos rfl]
          exact HL.out
        · rw [if_neg hq, if_neg hq]
      have hZ := (HZ.out.zeroSlot (i := i) (g := g) (cap := cap) (cur := cur) hi HSV.out HN.out.1 hg8.out HN.out.2.2).setMany (A.many - 1)
      have hC8 : Chg w W8 (fun k => F k ∨ w.heap.size ≤ k) := ((C0.out.trans (S := fun k => F k ∨ w.heap.size ≤ k) C5'.out (fun _ _ h => h.elim) (fun _ _ h => h.elim)).trans (S := fun k => F k ∨ w.heap.size ≤ k) hc58.out (fun _ _ h => h) (fun k _ hs => by
        rcases hs with hs | hs
        · rw [hs]; exact .inl H5'.out.rF
        · rw [HK.out.2.1] at hs
          injection hs with hs
          rw [hs]
          exact .inl hb0F))
      have hC9 := hC8.trans (S := fun k => F k ∨ w.heap.size ≤ k) (chg_setCells W8 g (i * 7) [.int .i64 0, .int .i64 0, .int .i64 0, .int .i64 0, .int .i64 0, .int .i64 0, .slice none 0 0]) (fun _ _ h => h) (fun k _ (hk : k = g) => by rw [hk]; exact .inl hgF)
      have hC10 := hC9.setCell (p := ⟨h, 3, none⟩) (.inl (.inl HH.out.hF)) (.int .i64 (A.many - 1))
      have hZd := hZ.drew
      have hbd := hZd.bound
      have hCd := hC10.drew
      clear hZ hC10 hC9 hC8
      change _ ∧ HeapIs (((W8.setCells g (i * 7) [.int .i64 0, .int .i64 0, .int .i64 0, .int .i64 0, .int .i64 0, .int .i64 0, .slice none 0 0]).setCell ⟨h, 3, none⟩ (.int .i64 (A.many - 1))).drew) h _ (ext F w (((W8.setCells g (i * 7) [.int .i64 0, .int .i64 0, .int .i64 0, .int .i64 0, .int .i64 0, .int .i64 0, .slice none 0 0]).setCell ⟨h, 3, none⟩ (.int .i64 (A.many - 1))).drew)) ∧ Chg w (((W8.setCells g (i * 7) [.int .i64 0, .int .i64 0, .int .i64 0, .int .i64 0, .int .i64 0, .int .i64 0, .slice none 0 0]).setCell ⟨h, 3, none⟩ (.int .i64 (A.many - 1))).drew) F
      generalize ((W8.setCells g (i * 7) [.int .i64 0, .int .i64 0, .int .i64 0, .int .i64 0, .int .i64 0, .int .i64 0, .slice none 0 0]).setCell ⟨h, 3, none⟩ (.int .i64 (A.many - 1))).drew = WF at hZd hbd hCd ⊢
      refine ⟨by simp, ?_, ?_⟩
      · rw [hFr]
        refine ⟨sv, rb, gb, upd rg (T.f0, T.f1) (some (.slice a1 l.length c1)), gg, hZd.mono (fun k hk => ?_) (fun k hk => ?_)⟩
        · rcases HZN.out k hk with h1 | h1
          · exact .inl h1
          · exact .inr ⟨h1, hbd k hk⟩
        · rcases hk with hk | hk
          · exact Nat.lt_of_lt_of_le (HH.out.bound k hk) hCd.size
          · exact hk.2
      · exact hCd.mono (S1 := F) (fun k hk hs => by rcases hs with hs | hs; exact hs; omega)
end Go.Proofs.Ytljahhgankcalaa

/-! (*Heap).Free, whatever it is given; At; Slots. -/
namespace Go.Proofs.Ytljahhgankcalaa
open Go.RowKit Go.Maps Go.MapKept Go.WideMaps
open Go.Proofs.YtljahhgankcalaaW.PrintWords Go.Proofs.YtljahhgankcalaaW.PrintLast Go.Proofs.YtljahhgankcalaaW.PrintMore
open PHeapThere
set_option linter.unusedVariables false
set_option linter.unusedSimpArgs false

theorem HeapIs.ext_below {w w' : World} {h : Nat} {A : AH} {F : Nat → Prop} (H : HeapIs w h A F) (hB : Below w.heap.size w w') : HeapIs w' h A (ext F w w') := by
  obtain ⟨sv, rb, gb, rg, gg, H⟩ := H
  exact ⟨sv, rb, gb, rg, gg, (H.chg (Chg.of_below hB (fun _ => False)) (fun _ _ h => h)).mono (fun k hk => .inl hk) (fun k hk => by
    rcases hk with hk | hk
    · exact Nat.lt_of_lt_of_le (H.bound k hk) hB.size
    · exact hk.2)⟩
theorem HeapIs.ext {w w' : World} {h : Nat} {A : AH} {F : Nat → Prop} (H : HeapIs w' h A F) (hs : w.heap.size ≤ w'.heap.size) : HeapIs w' h A (ext F w w') := by
  obtain ⟨sv, rb, gb, rg, gg, H⟩ := H
  exact ⟨sv, rb, gb, rg, gg, H.mono (fun k hk => .inl hk) (fun k hk => by
    rcases hk with hk | hk
    · exact H.bound k hk
    · exact hk.2)⟩

theorem AH.Ok.many_le {A : AH} (hA : A.Ok) : A.many ≤ A.slots.length := by
  rw [hA.many]
  have := nonfree_le A.slots
  omega
theorem filter_pos {α : Type} (p : α → Bool) {l : List α} {i : Nat} (hi : i < l.length) (h : p l[i] = true) : 1 ≤ (l.filter p).length :=
  List.length_pos_of_mem (List.mem_filter.2 ⟨List.getElem_mem hi, h⟩)

theorem freed_calls (h : Nat) (s : Int) (A : AH) (F : Nat → Prop) (w : World) (H : HeapIs w h A F) (hA : A.Ok) (hl : A.slots.length < 2147483648) :
    Calls Try.prog 41 #[.pointer (some ⟨h, 0, none⟩), .int .i64 s] w fun e w' => e = .returned (.int .i64 (A.free s).1) ∧ HeapIs w' h (A.free s).2 (ext F w w') ∧ Chg w w' F := by
  cases hb : A.there s with
  | false =>
    refine (freed_no h s A F w H hb).mono ?_
    rintro e w' ⟨rfl, hB⟩
    rw [show A.free s = (1, A) from by unfold AH.free; rw [hb]; rfl]
    exact ⟨rfl, H.ext_below hB, Chg.of_below hB _⟩
  | true =>
    obtain ⟨h0, h1, h2⟩ := (A.there_iff s).1 hb
    obtain ⟨i, rfl⟩ : ∃ i : Nat, s = i := ⟨s.toNat, by omega⟩
    have hi : i < A.slots.length := by omega
    have hm := hA.many_le
    have hm0 : 1 ≤ A.many := by
      rw [hA.many]
      have := filter_pos (fun t : ATup => t.f0 != 0) hi (by rw [A.at_nat hi] at h2; simp; omega)
      omega
    refine (freed_yes h i A F w H hA hi hb hm0 (by omega)).mono ?_
    rintro e w' ⟨rfl, h3, h4⟩
    refine ⟨?_, h3, h4⟩
    rw [show (A.free i).1 = 0 from by unfold AH.free; rw [hb]; rfl]

set_option maxRecDepth 100000 in
theorem at_no (h : Nat) (s : Int) (A : AH) (F : Nat → Prop) (w : World) (H : HeapIs w h A F) (hb : A.there s = false) :
    Calls Try.prog 17 #[.pointer (some ⟨h, 0, none⟩), .int .i64 s] w fun e w' => e = .returned (.tuple #[.agg #[.int .i64 0, .int .i64 0, .int .i64 0, .int .i64 0, .int .i64 0, .int .i64 0, .slice none 0 0], .bool false]) ∧ Below w.heap.size w w' := by
  have hi := is_calls h s A F _ (H.below ((Below.refl _ w).alloc (Nat.le_refl _) (.cells #[.int .i64 0, .int .i64 0, .int .i64 0, .int .i64 0, .int .i64 0, .int .i64 0, .slice none 0 0] 39)))
  rw [hb] at hi
  clear H hb
  go_enter Try.func17, Try.ntmps17
  go_wp2_with (go_at_call 58; refine hi.mono ?_; rintro e w' ⟨rfl, rfl⟩)
  refine bodyPost_ret (results_ct rfl _ _ w.heap.size 39 #[.int .i64 0, .int .i64 0, .int .i64 0, .int .i64 0, .int .i64 0, .int .i64 0, .slice none 0 0] (0, 0) _ rfl (blk_new w _) Try.underlying39 rfl (by kernel_rfl)) rfl ?_
  exact ⟨rfl, (Below.refl _ w).alloc (Nat.le_refl _) _⟩

set_option maxRecDepth 100000 in
set_option maxHeartbeats 400000 in
theorem at_yes (h : Nat) (i : Nat) (A : AH) (F : Nat → Prop) (w : World) (H : HeapIs w h A F) (hi : i < A.slots.length) (hb : A.there i = true) (hl : A.slots[i].f6.length < 3518437208883) :
    Calls Try.prog 17 #[.pointer (some ⟨h, 0, none⟩), .int .i64 i] w fun e w' => ∃ v, e = .returned (.tuple #[.agg #[.int .i64 A.slots[i].f0, .int .i64 A.slots[i].f1, .int .i64 A.slots[i].f2, .int .i64 A.slots[i].f3, .int .i64 A.slots[i].f4, .int .i64 A.slots[i].f5, v], .bool true]) ∧
      Kd.R kVal 91 w' w.heap.size (fun _ => True) v A.slots[i].f6 ∧ Below w.heap.size w w' := by
  have H0 := H.below ((Below.refl _ w).alloc (Nat.le_refl _) (.cells #[.int .i64 0, .int .i64 0, .int .i64 0, .int .i64 0, .int .i64 0, .int .i64 0, .slice none 0 0] 39))
  have hri := is_calls h i A F _ H0
  rw [hb] at hri
  obtain ⟨sv, rb, gb, rg, gg, H⟩ := H
  obtain ⟨g, cap, cur, u6, hsv, hn, hm, hgF, hg, hsz, h6, x0, x1, x2, x3, x4, x5, x6⟩ := slot_cells H.slots hi
  obtain ⟨A6, c6, e6⟩ := Kd.R_slice h6
  subst e6
  have k0 := H.cell 0
  rw [hsv] at k0
  have y0 := (blk_cell hg (i * 7)).trans x0
  have y1 := (blk_cell hg (i * 7 + 1)).trans x1
  have y2 := (blk_cell hg (i * 7 + 2)).trans x2
  have y3 := (blk_cell hg (i * 7 + 3)).trans x3
  have y4 := (blk_cell hg (i * 7 + 4)).trans x4
  have y5 := (blk_cell hg (i * 7 + 5)).trans x5
  have y6 := (blk_cell hg (i * 7 + 6)).trans x6
  simp at k0
  have hlt : h < w.heap.size := blk_lt H.blk
  have hgl : g < w.heap.size := blk_lt hg
  have HR := Aside0.mk h6
  have HLx := Aside0.mk hl
  generalize A.slots[i] = T at *
  have b1 : (0 : Int) ≤ (i : Int) := by omega
  have b2 : (i : Int) < (A.slots.length : Int) := by omega
  clear H H0 hsv hn hm hgF hg hsz h6 x0 x1 x2 x3 x4 x5 x6 hb hl
  go_enter Try.func17, Try.ntmps17
  go_wp2_with (go_at_call 58; refine hri.mono ?_; rintro e w' ⟨rfl, rfl⟩)
  refine (tclone_calls _ _ _ _ _ _ _ T.f6 _ _ (Kd.R_below HR.out ((Below.refl _ w).alloc (Nat.le_refl _) _)) HLx.out).mono ?_
  rintro e w1 ⟨v, rfl, ho, hB⟩
  obtain ⟨A7, c7, e7⟩ := Kd.R_slice ho
  subst e7
  have hb1 : w1.heap[w.heap.size]? = some (.cells #[.int .i64 0, .int .i64 0, .int .i64 0, .int .i64 0, .int .i64 0, .int .i64 0, .slice none 0 0] 39 (0, 0)) := (hB.block _ (by simp)).trans (blk_new w _)
  have HB1 := Aside0.mk hb1
  have HO := Aside0.mk ho
  have HB := Aside0.mk hB
  clear ho hB
  have l0 := (blk_cell hb1 0)
  have l1 := (blk_cell hb1 1)
  have l2 := (blk_cell hb1 2)
  have l3 := (blk_cell hb1 3)
  have l4 := (blk_cell hb1 4)
  have l5 := (blk_cell hb1 5)
  have l6 := (blk_cell hb1 6)
  have z2 : ∀ j, w1.frozen? ⟨w.heap.size, j, none⟩ = false := fun j => blk_frozen hb1 j
  simp at l0 l1 l2 l3 l4 l5 l6
  clear hb1 k0 y0 y1 y2 y3 y4 y5 y6
  go_wp2
  refine bodyPost_ret (results_ct rfl _ _ w.heap.size 39 #[.int .i64 T.f0, .int .i64 T.f1, .int .i64 T.f2, .int .i64 T.f3, .int .i64 T.f4, .int .i64 T.f5, .slice A7 T.f6.length c7] (0, 0) _ rfl
    (blk_set7 (x0 := .int .i64 0) (x1 := .int .i64 0) (x2 := .int .i64 0) (x3 := .int .i64 0) (x4 := .int .i64 0) (x5 := .int .i64 0) (x6 := .slice none 0 0) HB1.out) Try.underlying39 rfl (by kernel_rfl)) rfl ?_
  refine ⟨.slice A7 T.f6.length c7, rfl, ?_, ?_⟩
  · refine Kd.R_lower (Kd.R_mono (ok := fun k => k ≠ w.heap.size) ?_ (fun _ _ => trivial)) (base := w.heap.size + 1) (by omega)
    have h1 : Kd.R kVal 91 w1 (w.heap.size + 1) (fun k => k ≠ w.heap.size) (.slice A7 T.f6.length c7) T.f6 :=
      Kd.R_mono (Kd.R_bound (by simpa using HO.out)) (fun k hk => by have := hk.2.1; omega)
    exact Kd.R_far (p := ⟨w.heap.size, 6, none⟩) (Kd.R_far (p := ⟨w.heap.size, 5, none⟩) (Kd.R_far (p := ⟨w.heap.size, 4, none⟩) (Kd.R_far (p := ⟨w.heap.size, 3, none⟩) (Kd.R_far (p := ⟨w.heap.size, 2, none⟩) (Kd.R_far (p := ⟨w.heap.size, 1, none⟩)
      (Kd.R_far (p := ⟨w.heap.size, 0, none⟩) h1 (fun _ hk => hk) _) (fun _ hk => hk) _) (fun _ hk => hk) _) (fun _ hk => hk) _) (fun _ hk => hk) _) (fun _ hk => hk) _) (fun _ hk => hk) _
  · have hb : Below w.heap.size w w1 := ((Below.refl _ w).alloc (Nat.le_refl _) _).trans (HB.out.mono (by simp))
    repeat (refine Below.setCell ?_ (by simp) _)
    exact hb

/-- What At tells. -/
def AH.atE (A : AH) (s : Int) : ATup := if A.there s then A.at s else zTup

theorem at_calls (h : Nat) (s : Int) (A : AH) (F : Nat → Prop) (w : World) (H : HeapIs w h A F) (hl : (A.at s).f6.length < 3518437208883) :
    Calls Try.prog 17 #[.pointer (some ⟨h, 0, none⟩), .int .i64 s] w fun e w' => ∃ v, e = .returned (.tuple #[.agg #[.int .i64 (A.atE s).f0, .int .i64 (A.atE s).f1, .int .i64 (A.atE s).f2, .int .i64 (A.atE s).f3, .int .i64 (A.atE s).f4, .int .i64 (A.atE s).f5, v], .bool (A.there s)]) ∧
      Kd.R kVal 91 w' w.heap.size (fun _ => True) v (A.atE s).f6 ∧ Below w.heap.size w w' := by
  cases hb : A.there s with
  | false =>
    refine (at_no h s A F w H hb).mono ?_
    rintro e w' ⟨rfl, hB⟩
    rw [show A.atE s = zTup from by unfold AH.atE; rw [hb]; rfl]
    exact ⟨_, rfl, Kd.R_nil _ _ _ _ _, hB⟩
  | true =>
    obtain ⟨h0, h1, h2⟩ := (A.there_iff s).1 hb
    obtain ⟨i, rfl⟩ : ∃ i : Nat, s = i := ⟨s.toNat, by omega⟩
    have hi : i < A.slots.length := by omega
    rw [show A.atE i = A.slots[i] from by unfold AH.atE; rw [hb, if_pos rfl, A.at_nat hi]]
    rw [A.at_nat hi] at hl
    exact at_yes h i A F w H hi hb hl

set_option maxRecDepth 100000 in
theorem cloneInts_nil (c : Nat) (w : World) :
    Calls Try.prog 79 #[.slice none 0 c] w fun e w' => e = .returned (.slice none 0 0) ∧ w' = w := by
  have hq := Lib.run_eql_slice_nil (P := Try.prog) w 53 3 none 0 c 0 0 Try.underlying53
  go_enter Try.func79, Try.ntmps79
  go_wp2
  go_ret
  exact ⟨rfl, rfl⟩

set_option maxRecDepth 100000 in
theorem cloneInts_some (a : Addr) (c : Nat) (xs : List Int) (w : World) (hr : Kd.C kInt w (some a) xs.length xs) (hc : xs.length ≤ c) (hl : xs.length < 17592186044000) :
    Calls Try.prog 79 #[.slice (some a) xs.length c] w fun e w' => ∃ v, e = .returned v ∧ Kd.R kInt 3 w' w.heap.size (fun _ => True) v xs ∧ Below w.heap.size w w' := by
  have HR := Aside0.mk hr
  have HC := Aside0.mk hc
  have HL := Aside0.mk hl
  clear hr hc hl
  have hq := Lib.run_eql_slice_nil (P := Try.prog) w 53 3 (some a) xs.length c 0 0 Try.underlying53
  go_enter Try.func79, Try.ntmps79
  go_wp2_with (at_builtin; refine Kd.R_append_rows kInt (w0 := w) w.heap.size rfl (.tmp 5) (.tmp 6) 53 3 (.int .i64 0) 8 rfl Try.underlying53 Try.infoInt rfl (by decide) (by omega) (.slice (some ⟨w.heap.size, 0, none⟩) 0 0) [] xs _ _ _ (fun _ => True) (fun _ => False) rfl rfl (R_empty kInt 3 w w.heap.size (Nat.le_refl _) (fun _ => True) trivial) (Kd.C_below HR.out ((Below.refl _ _).alloc (Nat.le_refl _) _)) (fun _ _ h => h) (fun _ h => h.elim) (fun _ _ => trivial) ((Below.refl _ _).alloc (Nat.le_refl _) _) (by simp) (by have := HL.out; simp; omega) ?_; intro v1 w1 ho hb hg hat; replace ho := Aside0.mk ho)
  go_ret
  exact ⟨v1, rfl, by simpa using ho.out, hb⟩

theorem cloneInts (v : Value) (xs : List Int) (w : World) (base : Nat) (ok : Nat → Prop) (hr : Kd.R kInt 3 w base ok v xs) (hl : xs.length < 17592186044000) :
    Calls Try.prog 79 #[v] w fun e w' => ∃ v1, e = .returned v1 ∧ Kd.R kInt 3 w' w.heap.size (fun _ => True) v1 xs ∧ Below w.heap.size w w' := by
  obtain ⟨a, c, rfl, hc, h2⟩ := Kd.R_reads hr
  cases a with
  | some a => exact cloneInts_some a c xs w h2 hc hl
  | none =>
    have h0 : xs.length = 0 := by
      rcases Nat.eq_zero_or_pos xs.length with h | h
      · exact h
      · obtain ⟨ad, he, _⟩ := h2.2.2 h
        cases he
    obtain rfl := List.length_eq_zero_iff.1 h0
    refine (cloneInts_nil c w).mono ?_
    rintro e w' ⟨rfl, rfl⟩
    exact ⟨_, rfl, Kd.R_nil _ _ _ _ _, Below.refl _ _⟩

theorem slots_calls (h : Nat) (no id : Int) (A : AH) (F : Nat → Prop) (w : World) (H : HeapIs w h A F) (ho : okW (no, id)) (hl : (A.rows (no, id)).length < 17592186044000) :
    Calls Try.prog 37 #[.pointer (some ⟨h, 0, none⟩), .int .i64 no, .int .i64 id] w fun e w' => ∃ v, e = .returned v ∧ Kd.R kInt 3 w' w.heap.size (fun _ => True) v (A.rows (no, id)) ∧ Below w.heap.size w w' := by
  obtain ⟨sv, rb, gb, rg, gg, H⟩ := H
  have k1 := H.cell 1
  simp at k1
  have hlk := H.rmap.look keyWhere Try.underlying103 (Try.zeroRow _) false ho
  obtain ⟨v0, hv0⟩ : ∃ v0, v0 = (rg (no, id)).getD (.slice none 0 0) := ⟨_, rfl⟩
  have hR : Kd.R kInt 3 w 0 F v0 (A.rows (no, id)) := by
    cases hg : rg (no, id) with
    | none => rw [hv0, hg, H.rown _ hg]; exact Kd.R_nil _ _ _ _ _
    | some u => rw [hv0, hg]; exact (H.rowv _ _ hg).1
  have hlk2 : (Instr.lookup 103 (.map (some rb)) (.agg #[.int .i64 no, .int .i64 id]) false).run Try.prog w = .ok v0 w := by
    have : (Instr.lookup 103 (.map (some rb)) (kvW (no, id)) false).run Try.prog w = .ok v0 w := by
      rw [hlk, hv0]
      cases rg (no, id) <;> rfl
    exact this
  have hcl := cloneInts v0 _ w 0 F hR hl
  clear H hlk hv0 hR
  go_enter Try.func37, Try.ntmps37
  go_wp2_with (go_at_call 79; refine hcl.mono ?_; rintro e w1 ⟨v, rfl, hr, hB⟩; replace hr := Aside0.mk hr; replace hB := Aside0.mk hB)
  go_ret
  exact ⟨v, rfl, hr.out, hB.out⟩
end Go.Proofs.Ytljahhgankcalaa

/-! A law's step, done. -/
namespace Go.Proofs.Ytljahhgankcalaa
open Go.RowKit Go.Maps Go.MapKept Go.WideMaps
open Go.Proofs.YtljahhgankcalaaW.PrintWords Go.Proofs.YtljahhgankcalaaW.PrintLast Go.Proofs.YtljahhgankcalaaW.PrintMore
open PHeapThere
set_option linter.unusedVariables false
set_option linter.unusedSimpArgs false

abbrev AStep := S34
abbrev kStep : Kd AStep := k34
abbrev zStep : AStep := z34

/-- What a step tells, and leaves. -/
def AH.step (A : AH) (s : AStep) : Int × Int × AH :=
  if s.f0 = 0 then A.putE s.f1
  else if s.f0 = 1 then (0, (A.kill s.f2 s.f3 s.f4).1, (A.kill s.f2 s.f3 s.f4).2)
  else if s.f0 = 2 then (0, (A.free s.f2).1, (A.free s.f2).2)
  else ((A.next s.f3).1, 0, (A.next s.f3).2)

def stepCells (s : AStep) (A7 : Option Addr) (c7 : Nat) : Array Value :=
  #[.int .u8 s.f0, .int .i64 s.f1.f0, .int .i64 s.f1.f1, .int .i64 s.f1.f2, .int .i64 s.f1.f3, .int .i64 s.f1.f4, .int .i64 s.f1.f5, .slice A7 s.f1.f6.length c7, .int .i64 s.f2, .int .i64 s.f3, .int .i64 s.f4]

theorem ext_trans {F : Nat → Prop} {w w1 w2 : World} {h : Nat} {A : AH} (h1 : w.heap.size ≤ w1.heap.size) (h2 : w1.heap.size ≤ w2.heap.size) (H : HeapIs w2 h A (ext F w1 w2)) : HeapIs w2 h A (ext F w w2) := by
  obtain ⟨sv, rb, gb, rg, gg, H⟩ := H
  exact ⟨sv, rb, gb, rg, gg, H.mono (fun k hk => by
    rcases hk with hk | hk
    · exact .inl hk
    · exact .inr ⟨by omega, hk.2⟩) (fun k hk => by
    rcases hk with hk | hk
    · exact H.bound k (.inl hk)
    · exact hk.2)⟩
theorem Chg.after_below {w w1 w2 : World} {S : Nat → Prop} (hb : Below w.heap.size w w1) (hc : Chg w1 w2 S) : Chg w w2 S :=
  (Chg.of_below hb S).trans hc (fun _ _ h => h) (fun _ _ h => h)

set_option maxRecDepth 100000 in
set_option maxHeartbeats 1000000 in
theorem do_calls (h : Nat) (s : AStep) (A7 : Option Addr) (c7 : Nat) (A : AH) (F : Nat → Prop) (w : World) (H : HeapIs w h A F) (hA : A.Ok) (hl : A.slots.length < 2147483648)
    (hr : Kd.C kVal w A7 s.f1.f6.length s.f1.f6) (hc : s.f1.f6.length ≤ c7) (hx : s.f1.f6.length < 3518437208883) :
    Calls Try.prog 16 #[.agg (stepCells s A7 c7), .pointer (some ⟨h, 0, none⟩)] w fun e w' => e = .returned (.tuple #[.int .i64 (A.step s).1, .int .i64 (A.step s).2.1]) ∧ HeapIs w' h (A.step s).2.2 (ext F w w') ∧ Chg w w' F := by
  obtain ⟨kk, T, sl, xa, xb⟩ := s
  simp only [stepCells] at *
  have hB1 : Below w.heap.size w (w.alloc (.cells #[.int .u8 kk, .int .i64 T.f0, .int .i64 T.f1, .int .i64 T.f2, .int .i64 T.f3, .int .i64 T.f4, .int .i64 T.f5, .slice A7 T.f6.length c7, .int .i64 sl, .int .i64 xa, .int .i64 xb] 34)) := (Below.refl _ w).alloc (Nat.le_refl _) _
  have H1 := H.below hB1
  have hR1 := Kd.C_below hr hB1
  have hbd := H.bound
  have hsz : (w.alloc (.cells #[.int .u8 kk, .int .i64 T.f0, .int .i64 T.f1, .int .i64 T.f2, .int .i64 T.f3, .int .i64 T.f4, .int .i64 T.f5, .slice A7 T.f6.length c7, .int .i64 sl, .int .i64 xa, .int .i64 xb] 34)).heap.size = w.heap.size + 1 := World.size_alloc _ _
  have HA := Aside0.mk hA
  have HL := Aside0.mk hl
  have HX := Aside0.mk hx
  have HBD := Aside0.mk hbd
  clear H hA hl hbd hr
  unfold AH.step
  by_cases c0 : kk = 0
  · simp only [if_pos c0]
    have b0 : (kk == 0) = true := beq_iff_eq.2 c0
    have hg := covenantlaw11_given.calls T.f0 T.f1 T.f2 T.f3 T.f4 T.f5 A7 c7 T.f6 T.f0 T.f1 T.f2 T.f3 T.f4 T.f5 T.f6 _ hR1 hc (by unfold covenantlaw11_given.f; simp [hx])
    replace H1 := Aside0.mk H1
    replace hB1 := Aside0.mk hB1
    replace hsz := Aside0.mk hsz
    clear hc hx hR1 c0
    go_enter Try.func16, Try.ntmps16
    go_wp2_with fail
    refine hg.mono ?_
    rintro e w1 ⟨v6, rfl, ho, hb⟩
    obtain ⟨A6, c6, e6⟩ := Kd.R_slice ho
    subst e6
    have hs1 : w.heap.size + 1 ≤ w1.heap.size := by have := hb.size; rw [hsz.out] at this; exact this
    have hput := put_calls h T _ (fun k => w.heap.size ≤ k) A F w1 (H1.out.below hb) HA.out HL.out (Kd.R_lower (Kd.R_mono (Kd.R_bound ho) (fun k hk => by have := hk.2.1; rw [hsz.out] at this; omega)) (Nat.zero_le _)) HX.out (fun k hk hf => by have := HBD.out k hf; omega)
    have hb1 := Aside0.mk (hB1.out.trans (hb.mono (by rw [hsz.out]; omega)))
    clear ho hb hg
    go_wp2_with fail
    refine hput.mono ?_
    rintro e w2 ⟨rfl, h2, h3⟩
    have hfin := Aside0.mk (And.intro (ext_trans (w := w) (Nat.le_of_succ_le hs1) h3.size h2) (Chg.after_below hb1.out h3))
    clear h2 h3 hput
    go_wp2
    go_ret2
    exact ⟨by simp, hfin.out.1, hfin.out.2⟩
  · simp only [if_neg c0]
    have b0 : (kk == 0) = false := beq_eq_false_iff_ne.2 c0
    by_cases c1 : kk = 1
    · simp only [if_pos c1]
      have b1 : (kk == 1) = true := beq_iff_eq.2 c1
      have hk := kill_calls h sl xa xb A F _ H1
      generalize A.kill sl xa xb = r at *
      obtain ⟨r1, r2⟩ := r
      have hbd := H1.bound
      replace H1 := Aside0.mk H1
      replace hB1 := Aside0.mk hB1
      replace hsz := Aside0.mk hsz
      clear hc hx hR1 c0 c1 hbd
      go_enter Try.func16, Try.ntmps16
      go_wp2_with fail
      refine hk.mono ?_
      rintro e w2 ⟨rfl, h2, h3⟩
      replace h2 := Aside0.mk h2
      replace h3 := Aside0.mk h3
      clear hk
      go_wp2
      go_ret2
      exact ⟨by simp, h2.out.ext (Nat.le_trans hB1.out.size h3.out.size), Chg.after_below hB1.out h3.out⟩
    · simp only [if_neg c1]
      have b1 : (kk == 1) = false := beq_eq_false_iff_ne.2 c1
      by_cases c2 : kk = 2
      · simp only [if_pos c2]
        have b2 : (kk == 2) = true := beq_iff_eq.2 c2
        have hk := freed_calls h sl A F _ H1 HA.out HL.out
        generalize A.free sl = r at *
        obtain ⟨r1, r2⟩ := r
        replace H1 := Aside0.mk H1
        replace hB1 := Aside0.mk hB1
        replace hsz := Aside0.mk hsz
        clear hc hx hR1 c0 c1 c2
        go_enter Try.func16, Try.ntmps16
        go_wp2_with fail
        refine hk.mono ?_
        rintro e w2 ⟨rfl, h2, h3⟩
        replace h2 := Aside0.mk h2
        replace h3 := Aside0.mk h3
        clear hk
        go_wp2
        go_ret2
        exact ⟨by simp, ext_trans hB1.out.size h3.out.size h2.out, Chg.after_below hB1.out h3.out⟩
      · simp only [if_neg c2]
        have b2 : (kk == 2) = false := beq_eq_false_iff_ne.2 c2
        have hk := next_calls h xa A F _ H1 HA.out
        generalize A.next xa = r at *
        obtain ⟨r1, r2⟩ := r
        replace H1 := Aside0.mk H1
        replace hB1 := Aside0.mk hB1
        replace hsz := Aside0.mk hsz
        clear hc hx hR1 c0 c1 c2
        go_enter Try.func16, Try.ntmps16
        go_wp2_with fail
        refine hk.mono ?_
        rintro e w2 ⟨rfl, h2, h3⟩
        replace h2 := Aside0.mk h2
        replace h3 := Aside0.mk h3
        clear hk
        go_wp2
        go_ret2
        exact ⟨by simp, h2.out.ext (Nat.le_trans hB1.out.size h3.out.size), Chg.after_below hB1.out h3.out⟩
end Go.Proofs.Ytljahhgankcalaa

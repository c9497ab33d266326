import Derived.Test.YtljahhgankcalaaHf
/-! (*Heap).free. -/
namespace Go.Proofs.Ytljahhgankcalaa
open Go.RowKit Go.Maps Go.MapKept Go.WideMaps
open Go.Proofs.YtljahhgankcalaaW.PrintWords Go.Proofs.YtljahhgankcalaaW.PrintLast Go.Proofs.YtljahhgankcalaaW.PrintMore
open PHeapThere
set_option linter.unusedVariables false
set_option linter.unusedSimpArgs false

theorem Try.infoTuple : (Try.prog.info? 39).map (fun i => (i.zero, i.size, i.bytes)) = some (some (.agg #[.int .i64 0, .int .i64 0, .int .i64 0, .int .i64 0, .int .i64 0, .int .i64 0, .slice none 0 0]), 7, 72) := by kernel_rfl

/-- The least free slot. -/
def AH.least (A : AH) : Nat := A.slots.findIdx (fun t => t.f0 == 0)
def AH.roomy (A : AH) : AH := if A.least = A.slots.length then { A with slots := A.slots ++ [zTup] } else A

theorem nonfree_le (l : List ATup) : (l.filter (fun t => t.f0 != 0)).length ≤ l.length := List.length_filter_le _ _
theorem nonfree_all : ∀ (l : List ATup), (l.filter (fun t => t.f0 != 0)).length = l.length ↔ l.findIdx (fun t => t.f0 == 0) = l.length
  | [] => by simp
  | t :: l => by
    have ih := nonfree_all l
    have hl := nonfree_le l
    by_cases h : t.f0 = 0
    · have e1 : (t.f0 != 0) = false := by simp [h]
      have e2 : (t.f0 == 0) = true := by simp [h]
      rw [List.filter_cons, if_neg (by simp [e1]), List.findIdx_cons, e2, List.length_cons]
      simp
      omega
    · have e1 : (t.f0 != 0) = true := by simp [h]
      have e2 : (t.f0 == 0) = false := by simp [h]
      rw [List.filter_cons, if_pos e1, List.findIdx_cons, e2, List.length_cons, List.length_cons]
      simp only [cond_false]
      omega
theorem firstFree_least (l : List ATup) (h : l.findIdx (fun t => t.f0 == 0) < l.length) : firstFree l 0 = (l.findIdx (fun t => t.f0 == 0) : Nat) := by
  have h1 := firstFree_at l 0 (l.findIdx (fun t => t.f0 == 0)) h (fun j hj => by
    have := List.not_of_lt_findIdx hj
    simpa using this) (by simpa using List.findIdx_getElem (w := h))
  rw [h1]
  omega
theorem AH.Ok.least {A : AH} (hA : A.Ok) : A.many = (A.slots.length : Int) ↔ A.least = A.slots.length := by
  rw [hA.many]
  have := nonfree_all A.slots
  unfold AH.least
  omega
theorem AH.least_le (A : AH) : A.least ≤ A.slots.length := List.findIdx_le_length

theorem HeapAt.blk_slots {w w1 : World} {h : Nat} {A : AH} {F : Nat → Prop} {sv : Value} {rb gb : Nat} {rg : Int × Int → Option Value} {gg : Int → Option Int} (H : HeapAt w h A F sv rb gb rg gg)
    (hch : Chg w w1 (fun k => some k = sv.ownBlock)) : w1.heap[h]? = some (.cells #[sv, .map (some rb), .map (some gb), .int .i64 A.many] 106 (0, 0)) :=
  hch.obj H.blk (fun e => by
    obtain ⟨cells, hc⟩ := (R_block H.slots e.symm).2
    have hb := H.blk
    rw [hc] at hb
    simp at hb)
theorem chg_drewN_grown {w w1 : World} {n : Nat} {row : Option Nat} (hg : (w.drewN n).grownBy w1 row) : Chg w w1 (fun k => some k = row) := ⟨hg.os, hg.tape, hg.output, hg.size, hg.block⟩
/-- Other slots, in a row that may lie elsewhere. -/
theorem HeapAt.reslot {w w1 : World} {h : Nat} {A : AH} {F : Nat → Prop} {sv v1 : Value} {rb gb : Nat} {rg : Int × Int → Option Value} {gg : Int → Option Int} (H : HeapAt w h A F sv rb gb rg gg)
    (hch : Chg w w1 (fun k => some k = sv.ownBlock)) {l : List ATup} (hs : Kd.R kTup 39 w1 0 (fun k => F k ∨ w.heap.size ≤ k) v1 l) :
    HeapAt (w1.setCell ⟨h, 0, none⟩ v1) h { A with slots := l } (ext F w w1) v1 rb gb rg gg := by
  have hne : ∀ k, some k = sv.ownBlock → ∃ cells, w.heap[k]? = some (.cells cells 39 (0, 0)) := fun k hk => (R_block H.slots hk.symm).2
  have hb1 := hch.obj H.blk (fun e => by
    obtain ⟨cells, hc⟩ := hne h e
    have hb := H.blk
    rw [hc] at hb
    simp at hb)
  have hset : Chg w1 (w1.setCell ⟨h, 0, none⟩ v1) (fun k => k = h) := (Chg.refl w1 (fun k => k = h)).setCell (p := ⟨h, 0, none⟩) (.inl rfl) _
  have hmap : ∀ {α β : Type} {kv : α → Value} {ev : β → Value} {okk : α → Prop} {b : Nat} {f : α → Option β}, MapOf kv ev okk w b f → MapOf kv ev okk (w1.setCell ⟨h, 0, none⟩ v1) b f := fun hm => by
    have hm1 := hm.chg hch (fun e => by
      obtain ⟨cells, hc⟩ := hne _ e
      obtain ⟨es, cl, hb⟩ := hm.isMap
      rw [hc] at hb
      cases hb)
    refine hm1.chg hset (fun e => ?_)
    obtain ⟨es, cl, hb⟩ := hm1.isMap
    rw [e, hb1] at hb
    cases hb
  exact {
    blk := blk_put hb1 0 v1 rfl
    slots := by
      refine Kd.R_mono (Kd.R_bound (R_typ hs hb1 (by decide) hset)) (fun k hk => ?_)
      obtain ⟨h1, _, h3, _⟩ := hk
      rw [show (w1.setCell ⟨h, 0, none⟩ v1).heap.size = w1.heap.size from by simp [World.setCell]] at h3
      rcases h1 with h1 | h1
      · exact .inl h1
      · exact .inr ⟨h1, h3⟩
    rmap := hmap H.rmap
    gmap := hmap H.gmap
    rowv := fun p v hp => by
      obtain ⟨h1, h2⟩ := H.rowv p v hp
      have h3 := R_chg h1 hch (fun k q cells _ hq hk e => by
        obtain ⟨cells', hc⟩ := hne k e
        rw [hk] at hc
        simp [Kd.int, Kd.scalar] at hq
        subst hq
        injection hc with hc
        injection hc with _ hc
        exact absurd hc (by decide))
      exact ⟨Kd.R_mono (R_typ h3 hb1 (by intro q hq; simp [Kd.int, Kd.scalar] at hq; subst hq; decide) hset) (fun k hk => .inl hk), h2⟩
    rown := H.rown
    apart := H.apart
    givn := H.givn
    hF := .inl H.hF
    rF := .inl H.rF
    gF := .inl H.gF
    ne := H.ne
    bound := fun k hk => by
      rw [show (w1.setCell ⟨h, 0, none⟩ v1).heap.size = w1.heap.size from by simp [World.setCell]]
      rcases hk with hk | hk
      · exact Nat.lt_of_lt_of_le (H.bound k hk) hch.size
      · exact hk.2 }

set_option maxRecDepth 100000 in
theorem free_full (h : Nat) (A : AH) (F : Nat → Prop) (w : World) {sv : Value} {rb gb : Nat} {rg : Int × Int → Option Value} {gg : Int → Option Int} (H : HeapAt w h A F sv rb gb rg gg) (hm : A.many = (A.slots.length : Int)) (hl : A.slots.length < 2147483648) :
    Calls Try.prog 80 #[.pointer (some ⟨h, 0, none⟩)] w fun e w' => e = .returned (.int .i64 A.slots.length) ∧ HeapIs w' h { A with slots := A.slots ++ [zTup] } (ext F w w') ∧ Chg w w' F := by
  have HH := Aside0.mk H
  obtain ⟨a, c, rfl, hn⟩ := sv_slice H.slots
  have c0 := H.cell 0
  have c3 := H.cell 3
  have z0 := H.frozen 0
  have hlt : h < w.heap.size := H.bound h H.hF
  rw [hm] at c3
  have HL := Aside0.mk hl
  have b1 : ((A.slots.length : Int) == (A.slots.length : Int)) = true := beq_self_eq_true _
  simp at c0 c3
  clear H hm hl
  go_enter Try.func80, Try.ntmps80
  go_wp2
  go_quiet (fail)
  go_wp2_with (at_builtin; go_loud (refine Kd.R_append kTup (w0 := w) 0 rfl (.tmp 17) (.tmp 19) 104 39 (.agg #[.int .i64 0, .int .i64 0, .int .i64 0, .int .i64 0, .int .i64 0, .int .i64 0, .slice none 0 0]) 72 rfl Try.underlying104 Try.infoTuple rfl (by decide) (by omega) (.slice a A.slots.length c) A.slots zTup [.int .i64 0, .int .i64 0, .int .i64 0, .int .i64 0, .int .i64 0, .int .i64 0, .slice none 0 0] (fun k => F k ∨ w.heap.size ≤ k) (fun _ => False) rfl rfl (k32_mkM _ 0 _ zTup (Kd.R_nil _ _ _ _ _)) (fun _ h => h.elim) (fun k hk => .inr (by simpa using hk)) (Kd.R_drewN (Kd.R_mono HH.out.slots (fun k hk => .inl hk)) _) (pw_below_drewN (Below.refl 0 w) _) (Nat.zero_le _) (by have := HL.out; omega) ?_); intro v1 w1 ho hb hg hat; clear hb hat; have hch := chg_drewN_grown hg; clear hg; have hb1 := HH.out.blk_slots hch; replace hch := Aside0.mk hch; obtain ⟨a1, c1, e1⟩ := Kd.R_slice ho; simp only [List.length_append, List.length_cons, List.length_nil, Nat.zero_add] at e1; subst e1; replace ho := Aside0.mk ho; have k0 := blk_cell hb1 0; have z1 := blk_frozen hb1 0; have hb2 := Aside0.mk hb1; clear hb1; simp at k0)
  go_ret
  have hset : Chg w1 (w1.setCell ⟨h, 0, none⟩ (.slice a1 (A.slots.length + 1) c1)) (fun k => k = h) := (Chg.refl w1 (fun k => k = h)).setCell (p := ⟨h, 0, none⟩) (.inl rfl) _
  refine ⟨by simp, ⟨.slice a1 (A.slots.length + 1) c1, rb, gb, rg, gg, ?_⟩, ?_⟩
  · have h1 := HH.out.reslot hch.out ho.out
    have h2 : ext F w (w1.setCell ⟨h, 0, none⟩ (.slice a1 (A.slots.length + 1) c1)) = ext F w w1 := by funext k; simp [ext, World.setCell]
    rw [h2]
    exact h1
  · exact hch.out.trans hset (fun k _ hk => (R_block HH.out.slots (Eq.symm hk)).1) (fun k _ hk => by have e : k = h := hk; rw [e]; exact HH.out.hF)

set_option maxRecDepth 100000 in
theorem free_some (h : Nat) (A : AH) (F : Nat → Prop) (w : World) {sv : Value} {rb gb : Nat} {rg : Int × Int → Option Value} {gg : Int → Option Int} (H : HeapAt w h A F sv rb gb rg gg) (hm : A.many ≠ (A.slots.length : Int)) :
    Calls Try.prog 80 #[.pointer (some ⟨h, 0, none⟩)] w fun e w' => e = .returned (.int .i64 (firstFree A.slots 0)) ∧ Below w.heap.size w w' := by
  obtain ⟨a, c, rfl, hn⟩ := sv_slice H.slots
  have HR := Aside0.mk H.slots
  have c0 := H.cell 0
  have c3 := H.cell 3
  have b1 : (A.many == (A.slots.length : Int)) = false := beq_eq_false_iff_ne.2 hm
  simp at c0 c3
  clear H hm
  go_enter Try.func80, Try.ntmps80
  go_wp2
  go_quiet (fail)
  go_wp2_with (go_at_call 101; go_loud (refine (indexFree_calls _ A.slots F _ (Kd.R_drewN HR.out _)).mono ?_); rintro e w1 ⟨rfl, hb⟩; replace hb := Aside0.mk hb)
  go_ret
  exact ⟨rfl, ⟨hb.out.os, hb.out.tape, hb.out.output, hb.out.size, hb.out.block⟩⟩

theorem free_calls (h : Nat) (A : AH) (F : Nat → Prop) (w : World) (H : HeapIs w h A F) (hA : A.Ok) (hl : A.slots.length < 2147483648) :
    Calls Try.prog 80 #[.pointer (some ⟨h, 0, none⟩)] w fun e w' => e = .returned (.int .i64 A.least) ∧ HeapIs w' h A.roomy (ext F w w') ∧ Chg w w' F := by
  obtain ⟨sv, rb, gb, rg, gg, H⟩ := H
  by_cases hm : A.many = (A.slots.length : Int)
  · have hle := hA.least.1 hm
    refine (free_full h A F w H hm hl).mono ?_
    rintro e w' ⟨rfl, h1, h2⟩
    refine ⟨by rw [hle], ?_, h2⟩
    rw [show A.roomy = { A with slots := A.slots ++ [zTup] } from by simp [AH.roomy, hle]]
    exact h1
  · have hle : A.least ≠ A.slots.length := fun e => hm (hA.least.2 e)
    have hlt : A.least < A.slots.length := Nat.lt_of_le_of_ne A.least_le hle
    refine (free_some h A F w H hm).mono ?_
    rintro e w' ⟨rfl, hb⟩
    refine ⟨by rw [firstFree_least _ hlt]; rfl, ?_, Chg.of_below hb _⟩
    rw [show A.roomy = A from by simp [AH.roomy, hle]]
    exact ⟨sv, rb, gb, rg, gg, (H.chg (Chg.of_below hb (fun _ => False)) (fun _ _ h => h)).mono (fun k hk => .inl hk) (fun k hk => by
      rcases hk with hk | hk
      · exact Nat.lt_of_lt_of_le (H.bound k hk) hb.size
      · exact hk.2)⟩
end Go.Proofs.Ytljahhgankcalaa

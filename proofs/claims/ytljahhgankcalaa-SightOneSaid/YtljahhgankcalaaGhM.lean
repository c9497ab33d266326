import Derived.Test.YtljahhgankcalaaGfM
import Derived.Test.YtljahhgankcalaaOp
/-! covenantlaw12: what SightDead and SightFresh share: long; the steps opened; the plain laws. -/
namespace Go.Proofs.Ytljahhgankcalaa
open Go.RowKit Go.Maps Go.MapKept Go.WideMaps Go.Shelf
open Go.Proofs.YtljahhgankcalaaW.PrintWords Go.Proofs.YtljahhgankcalaaW.PrintLast Go.Proofs.YtljahhgankcalaaW.PrintMore
set_option linter.unusedVariables false
set_option linter.unusedSimpArgs false

theorem long_calls (A : Option Addr) (n c : Nat) (w : World) : Calls Try.prog 28 #[.slice A n c] w fun e w' => e = .returned (.bool (decide (120 < n))) ∧ w' = w := by
  have h1 : decide ((120 : Int) < (n : Int)) = decide (120 < n) := by
    by_cases h : 120 < n
    · rw [decide_eq_true h, decide_eq_true (by omega)]
    · rw [decide_eq_false h, decide_eq_false (by omega)]
  rw [← h1]
  clear h1
  go_enter Try.func28, Try.ntmps28
  go_wp2
  go_ret
  exact ⟨by simp, rfl⟩

/-- The cells of a step that was handed in. -/
theorem cells12 {w : World} {A : Option Addr} {n : Nat} {xs : List Step12} (h : Kd.C kStep12 w A n xs) (i : Nat) (hi : (i : Int) < n) : ∃ ad s, A = some ad ∧
    ∀ w1, Below w.heap.size w w1 → w1.cell? (ad.add (i * 5)) = some (.int .u8 s.f0) ∧ w1.cell? ⟨(ad.add (i * 5)).block, (ad.add (i * 5)).off + 1, none⟩ = some (.int .i64 s.f1) ∧ w1.cell? ⟨(ad.add (i * 5)).block, (ad.add (i * 5)).off + 2, none⟩ = some (.int .i64 s.f2) ∧
      w1.cell? ⟨(ad.add (i * 5)).block, (ad.add (i * 5)).off + 3, none⟩ = some (.int .i64 s.f3) ∧ w1.cell? ⟨(ad.add (i * 5)).block, (ad.add (i * 5)).off + 4, none⟩ = some (.int .i64 (s : Step12).f4) := by
  obtain ⟨ad, e1, x0, x1, x2, x3, x4⟩ := PSightDead.at_T74 h i (by omega) hi
  simp only [Int.toNat_natCast] at x0 x1 x2 x3 x4
  have mv : ∀ (w1 : World) (p : Addr) (v : Value), Below w.heap.size w w1 → w.cell? p = some v → w1.cell? p = some v := fun w1 p v hb hp => (hb.cell (p := p) (World.block_lt_of_cell? w _ hp)).trans hp
  exact ⟨ad, _, e1, fun w1 hb => ⟨mv w1 _ _ hb x0, mv w1 _ _ hb x1, mv w1 _ _ hb x2, mv w1 _ _ hb x3, mv w1 _ _ hb x4⟩⟩

set_option maxRecDepth 100000 in
theorem op_step12 (w : World) : Op Try.prog w 74 kStep12 (fun x => (Lit.int .u8 x.f0).wf = true ∧ (Lit.int .i64 x.f1).wf = true ∧ (Lit.int .i64 x.f2).wf = true ∧ (Lit.int .i64 x.f3).wf = true ∧ (Lit.int .i64 x.f4).wf = true) :=
  Op.iso (fun a => ⟨a.1, a.2.1, a.2.2.1, a.2.2.2.1, a.2.2.2.2⟩) (fun _ => rfl)
    (Op.struct Try.underlying74 (by kernel_rfl)
      (OpF.cons (Op.int Try.underlying5) rfl (by kernel_rfl) (OpF.cons (Op.int Try.underlying3) rfl (by kernel_rfl) (OpF.cons (Op.int Try.underlying3) rfl (by kernel_rfl) (OpF.cons (Op.int Try.underlying3) rfl (by kernel_rfl) (OpF.one (Op.int Try.underlying3) rfl (by kernel_rfl)))))))
set_option maxRecDepth 100000 in
theorem op_steps12 (w : World) : Op Try.prog w 71 (Kd.slice 74 kStep12) (fun _ => True) :=
  (Op.slice (B := 40) _ Try.underlying71 (by kernel_rfl) (by kernel_rfl) (op_step12 w)).weaken (fun _ _ => trivial)

/-- A version that is there is of a row that a map can be asked for. -/
theorem there_okW {w : World} {h : Nat} {A : AH} {F : Nat → Prop} (H : HeapIs w h A F) (hA : A.Ok) {s : Int} (hs : A.there s = true) : okW ((A.at s).f0, (A.at s).f1) := by
  obtain ⟨sv, rb, gb, rg, gg, H⟩ := H
  have hm : s ∈ A.rows ((A.at s).f0, (A.at s).f1) := (hA.rows _ s).2 ⟨hs, rfl⟩
  cases hr : rg ((A.at s).f0, (A.at s).f1) with
  | none =>
    rw [H.rown _ hr] at hm
    cases hm
  | some v => exact H.rmap.good hr

theorem Sg.start (w : World) {w1 w2 : World} {h : Nat} (h1 : HeapIs w1 h AH.empty (ext (fun _ => False) w w1)) (b1 : Below w.heap.size w w1) (t2 : TabIs w2 w1.heap.size TT.empty (fun k => k = w1.heap.size)) (b2 : Below w1.heap.size w1 w2) :
    Sg w w2 h w1.heap.size AH.empty TT.empty 0 := by
  have hs1 := b1.size
  refine ⟨ext (fun _ => False) w w1, fun k => k = w1.heap.size, ⟨h1.below b2, t2, ?_, ?_, ?_, b1.trans (b2.mono hs1), AH.empty_ok, ?_, by simp [AH.empty], AH.empty_lim (by decide), by simp [TT.empty], by simp [TT.empty]⟩⟩
  · rintro k (hk | hk) e
    · exact hk
    · have := hk.2
      omega
  · rintro k (hk | hk)
    · exact hk.elim
    · exact hk.1
  · rintro k hk
    have : k = w1.heap.size := hk
    omega
  · exact ⟨fun i hi => by simp [TT.empty] at hi, by simp [TT.empty]⟩

/-! ### the plain laws -/
theorem TT.old_more {T : TT} {a b id : Int} (h : T.old a id = true) (hab : a ≤ b) : T.old b id = true := by
  unfold TT.old at h ⊢
  simp only [Bool.and_eq_true, decide_eq_true_eq] at h ⊢
  omega
theorem AH.dead_more {A : AH} {T : TT} {a b slot : Int} (h : A.dead T a slot = true) (hab : a ≤ b) : A.dead T b slot = true := by
  unfold AH.dead at h ⊢
  simp only [Bool.and_eq_true, Bool.or_eq_true] at h ⊢
  obtain ⟨h1, h2⟩ := h
  refine ⟨h1, ?_⟩
  rcases h2 with h2 | ⟨h2, h3⟩
  · exact .inl h2
  · exact .inr ⟨h2, TT.old_more h3 hab⟩
theorem TT.own_none (T : TT) (id : Int) : T.own 0 id = false := by simp [TT.own]
theorem TT.sees_none (T : TT) (a id : Int) : T.sees a 0 id = T.old a id := by simp [TT.sees, T.own_none]
theorem AH.own_none (A : AH) (T : TT) (no id : Int) : A.ownRow T 0 no id = false := by
  unfold AH.ownRow
  rw [List.any_eq_false]
  intro s _
  simp [touched, T.own_none]
theorem AH.dead_unseen {A : AH} {T : TT} {a b slot : Int} (h : A.dead T a slot = true) (hab : a ≤ b) (no id : Int) : A.seen T b 0 no id ≠ some slot := by
  intro e
  unfold AH.seen AH.seenBy at e
  rw [A.own_none, if_neg (by simp)] at e
  have h1 := List.find?_some e
  have hd := AH.dead_more h hab
  unfold shown at h1
  unfold AH.dead at hd
  simp only [T.sees_none, Bool.and_eq_true, Bool.or_eq_true, Bool.not_eq_true', decide_eq_true_eq] at h1 hd
  obtain ⟨h2, h3⟩ := h1
  obtain ⟨_, h4⟩ := hd
  rcases h4 with h4 | ⟨h4, h5⟩
  · have : T.done (A.at slot).f2 = 0 := by unfold TT.done; rw [h4]; rfl
    unfold TT.old at h2
    rw [this] at h2
    simp at h2
  · rw [h5] at h3
    simp [h4] at h3
end Go.Proofs.Ytljahhgankcalaa

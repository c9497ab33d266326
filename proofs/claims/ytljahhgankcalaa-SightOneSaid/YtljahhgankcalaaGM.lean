import Derived.Test.YtljahhgankcalaaG8
import Derived.Test.YtljahhgankcalaaG7
import Derived.Test.YtljahhgankcalaaG9
import Derived.BigQuiet
/-! A heap and a table among blocks newer than a law's start: each step. -/
namespace Go.Proofs.Ytljahhgankcalaa
open Go.RowKit Go.Maps Go.MapKept Go.WideMaps Go.Shelf
open Go.Proofs.YtljahhgankcalaaW.PrintWords Go.Proofs.YtljahhgankcalaaW.PrintLast Go.Proofs.YtljahhgankcalaaW.PrintMore
set_option linter.unusedVariables false
set_option linter.unusedSimpArgs false

abbrev Step12 := PSightDead.S74
abbrev kStep12 : Kd Step12 := PSightDead.k74
abbrev zStep12 : Step12 := PSightDead.z74
abbrev zVal : AVal := PHeapThere.z91

/-- After k steps: the heap at h and the table at x, each of blocks of its own that are newer than w0. -/
structure SgAt (w0 w : World) (h x : Nat) (A : AH) (T : TT) (F Fx : Nat → Prop) (k : Nat) : Prop where
  heap : HeapIs w h A F
  tab : TabIs w x T Fx
  dis : ∀ b, F b → ¬ Fx b
  lowF : ∀ b, F b → w0.heap.size ≤ b
  lowX : ∀ b, Fx b → w0.heap.size ≤ b
  bel : Below w0.heap.size w0 w
  ok : A.Ok
  tok : T.Ok
  len : A.slots.length ≤ k
  lim : A.Lim 2
  tlen : T.all.length ≤ k
  tlast : T.last ≤ k
def Sg (w0 w : World) (h x : Nat) (A : AH) (T : TT) (k : Nat) : Prop := ∃ F Fx, SgAt w0 w h x A T F Fx k
theorem AH.Lim.low {A : AH} (h : A.Lim 2) : A.Low := fun s => by
  have := h s.toNat
  unfold AH.at
  omega
section
variable {w0 w w' : World} {h x : Nat} {A A' : AH} {T T' : TT} {F Fx : Nat → Prop} {k : Nat}
theorem SgAt.look (H : SgAt w0 w h x A T F Fx k) (hk : k < 2147483648) : Look w h x A T F Fx :=
  ⟨H.heap, H.ok, H.lim.low, H.tab, H.tok, fun p => by have := H.ok.rows_len p; have := H.len; omega⟩
theorem SgAt.below (H : SgAt w0 w h x A T F Fx k) (hb : Below w.heap.size w w') : SgAt w0 w' h x A T F Fx k :=
  ⟨H.heap.below hb, H.tab.below hb, H.dis, H.lowF, H.lowX, H.bel.trans (hb.mono H.bel.size), H.ok, H.tok, H.len, H.lim, H.tlen, H.tlast⟩
theorem SgAt.other {S : Nat → Prop} (H : SgAt w0 w h x A T F Fx k) (hc : Chg w w' S) (h1 : ∀ b, S b → ¬ F b ∧ ¬ Fx b ∧ w0.heap.size ≤ b) : SgAt w0 w' h x A T F Fx k :=
  ⟨H.heap.chg hc (fun b hb e => (h1 b e).1 hb), H.tab.chg hc (fun b hb e => (h1 b e).2.1 hb), H.dis, H.lowF, H.lowX, H.bel.trans (hc.below H.bel.size (fun b e => (h1 b e).2.2)), H.ok, H.tok, H.len, H.lim, H.tlen, H.tlast⟩
theorem SgAt.more (H : SgAt w0 w h x A T F Fx k) {m : Nat} (hm : k ≤ m) : SgAt w0 w h x A T F Fx m :=
  ⟨H.heap, H.tab, H.dis, H.lowF, H.lowX, H.bel, H.ok, H.tok, by have := H.len; omega, H.lim, by have := H.tlen; omega, by have := H.tlast; omega⟩
theorem Sg.below (H : Sg w0 w h x A T k) (hb : Below w.heap.size w w') : Sg w0 w' h x A T k := by
  obtain ⟨F, Fx, H⟩ := H
  exact ⟨F, Fx, H.below hb⟩
theorem Sg.drew (H : Sg w0 w h x A T k) : Sg w0 w.drew h x A T k := H.below (Below.refl _ _).drew
theorem Sg.bel (H : Sg w0 w h x A T k) : Below w0.heap.size w0 w := by
  obtain ⟨F, Fx, H⟩ := H
  exact H.bel
/-- The heap has changed. -/
theorem SgAt.heaped (H : SgAt w0 w h x A T F Fx k) (h1 : HeapIs w' h A' (ext F w w')) (h2 : Chg w w' F) (hO : A'.Ok) (hl : A'.slots.length ≤ k + 1) (hm : A'.Lim 2) : SgAt w0 w' h x A' T (ext F w w') Fx (k + 1) := by
  have hs := H.bel.size
  refine ⟨h1, H.tab.chg h2 (fun b hb e => H.dis b e hb), fun b hb e => ?_, fun b hb => ?_, H.lowX, H.bel.trans (h2.below hs H.lowF), hO, H.tok, hl, hm, by have := H.tlen; omega, by have := H.tlast; omega⟩
  · rcases hb with hb | hb
    · exact H.dis b hb e
    · have := H.tab.bound b e
      have := hb.1
      omega
  · rcases hb with hb | hb
    · exact H.lowF b hb
    · have := hb.1
      omega
/-- The table has changed. -/
theorem SgAt.tabbed (H : SgAt w0 w h x A T F Fx k) (h1 : TabIs w' x T' (ext Fx w w')) (h2 : Chg w w' Fx) (hO : T'.Ok) (hl : T'.all.length ≤ k + 1) (hm : T'.last ≤ k + 1) : SgAt w0 w' h x A T' F (ext Fx w w') (k + 1) := by
  have hs := H.bel.size
  refine ⟨H.heap.chg h2 (fun b hb e => H.dis b hb e), h1, fun b hb e => ?_, H.lowF, fun b hb => ?_, H.bel.trans (h2.below hs H.lowX), H.ok, hO, by have := H.len; omega, H.lim, hl, hm⟩
  · rcases e with e | e
    · exact H.dis b hb e
    · have := H.heap.bound b hb
      have := e.1
      omega
  · rcases hb with hb | hb
    · exact H.lowX b hb
    · have := hb.1
      omega
theorem AH.putE_facts (hO : A.Ok) (hm : A.Lim 2) (t : ATup) (ht : t.f6.length < 2) : (A.putE t).2.2.Ok ∧ (A.putE t).2.2.slots.length ≤ A.slots.length + 1 ∧ (A.putE t).2.2.Lim 2 := by
  have hs : A.step ⟨0, t, 0, 0, 0⟩ = A.putE t := by unfold AH.step; rw [if_pos rfl]
  rw [← hs]
  exact ⟨hO.step _, A.step_len _, hm.step (by decide) _ ht⟩
theorem AH.kill_facts (hO : A.Ok) (hm : A.Lim 2) (s y c : Int) : (A.kill s y c).2.Ok ∧ (A.kill s y c).2.slots.length ≤ A.slots.length + 1 ∧ (A.kill s y c).2.Lim 2 := by
  have hs : (A.step ⟨1, zTup, s, y, c⟩).2.2 = (A.kill s y c).2 := by unfold AH.step; rw [if_neg (show ¬ (1 : Int) = 0 by decide), if_pos rfl]
  rw [← hs]
  exact ⟨hO.step _, A.step_len _, hm.step (by decide) _ (show 0 < 2 by decide)⟩
theorem AH.free_facts (hO : A.Ok) (hm : A.Lim 2) (s : Int) : (A.free s).2.Ok ∧ (A.free s).2.slots.length ≤ A.slots.length + 1 ∧ (A.free s).2.Lim 2 := by
  have hs : (A.step ⟨2, zTup, s, 0, 0⟩).2.2 = (A.free s).2 := by unfold AH.step; rw [if_neg (show ¬ (2 : Int) = 0 by decide), if_neg (show ¬ (2 : Int) = 1 by decide), if_pos rfl]
  rw [← hs]
  exact ⟨hO.step _, A.step_len _, hm.step (by decide) _ (show 0 < 2 by decide)⟩

theorem Sg.put (H : Sg w0 w h x A T k) (hk : k < 2147483648) (t : ATup) (v6 : Value) {w1 : World} (hB : Below w.heap.size w w1) (hr : Kd.R kVal 91 w1 w.heap.size (fun _ => True) v6 t.f6) (hx : t.f6.length < 2) :
    Calls Try.prog 38 #[.pointer (some ⟨h, 0, none⟩), .agg #[.int .i64 t.f0, .int .i64 t.f1, .int .i64 t.f2, .int .i64 t.f3, .int .i64 t.f4, .int .i64 t.f5, v6]] w1 fun e w' =>
      e = .returned (.tuple #[.int .i64 (A.putE t).1, .int .i64 (A.putE t).2.1]) ∧ Sg w0 w' h x (A.putE t).2.2 T (k + 1) := by
  obtain ⟨F, Fx, H⟩ := H
  have hbd := H.heap.bound
  have hr2 := Kd.R_lower (Kd.R_mono (Kd.R_bound hr) (ok' := fun b => w.heap.size ≤ b) (fun b hb => hb.2.1)) (Nat.zero_le w.heap.size)
  refine (put_calls h t v6 (fun b => w.heap.size ≤ b) A F w1 (H.heap.below hB) H.ok (by have := H.len; omega) hr2 (by omega) (fun b hb e => by have := hbd b e; omega)).mono ?_
  rintro e w' ⟨rfl, h1, h2⟩
  obtain ⟨f1, f2, f3⟩ := AH.putE_facts H.ok H.lim t hx
  exact ⟨rfl, _, _, (H.below hB).heaped h1 h2 f1 (by have := H.len; omega) f3⟩
theorem Sg.kill (H : Sg w0 w h x A T k) (s y c : Int) :
    Calls Try.prog 40 #[.pointer (some ⟨h, 0, none⟩), .int .i64 s, .int .i64 y, .int .i64 c] w fun e w' => e = .returned (.int .i64 (A.kill s y c).1) ∧ Sg w0 w' h x (A.kill s y c).2 T (k + 1) := by
  obtain ⟨F, Fx, H⟩ := H
  refine (kill_calls h s y c A F w H.heap).mono ?_
  rintro e w' ⟨rfl, h1, h2⟩
  obtain ⟨f1, f2, f3⟩ := AH.kill_facts H.ok H.lim s y c
  exact ⟨rfl, _, _, H.heaped (h1.ext h2.size) h2 f1 (by have := H.len; omega) f3⟩
theorem Sg.free (H : Sg w0 w h x A T k) (hk : k < 2147483648) (s : Int) :
    Calls Try.prog 41 #[.pointer (some ⟨h, 0, none⟩), .int .i64 s] w fun e w' => e = .returned (.int .i64 (A.free s).1) ∧ Sg w0 w' h x (A.free s).2 T (k + 1) := by
  obtain ⟨F, Fx, H⟩ := H
  refine (freed_calls h s A F w H.heap H.ok (by have := H.len; omega)).mono ?_
  rintro e w' ⟨rfl, h1, h2⟩
  obtain ⟨f1, f2, f3⟩ := AH.free_facts H.ok H.lim s
  exact ⟨rfl, _, _, H.heaped h1 h2 f1 (by have := H.len; omega) f3⟩
theorem Sg.begin (H : Sg w0 w h x A T k) (hk : k < 2147483648) (p : Int) :
    Calls Try.prog 23 #[.pointer (some ⟨x, 0, none⟩), .int .i64 p] w fun e w' => e = .returned (.tuple #[.int .i64 (T.begin p).1, .int .i64 (T.begin p).2.1]) ∧ Sg w0 w' h x A (T.begin p).2.2 (k + 1) := by
  obtain ⟨F, Fx, H⟩ := H
  refine (begin_calls x T Fx w H.tab H.tok (by have := H.tlen; omega) p).mono ?_
  rintro e w' ⟨rfl, h1, h2⟩
  have hl : (T.begin p).2.2.all.length ≤ T.all.length + 1 ∧ (T.begin p).2.2.last = T.last := by
    unfold TT.begin
    split
    · simp
    · split <;> simp
  exact ⟨rfl, _, _, H.tabbed h1 h2 (H.tok.begin p) (by have := H.tlen; omega) (by have := H.tlast; omega)⟩
theorem ext_tab {w w' : World} {T : TT} {x : Nat} {Fx : Nat → Prop} (H : TabIs w' x T Fx) (hs : w.heap.size ≤ w'.heap.size) : TabIs w' x T (ext Fx w w') :=
  H.mono (fun b hb => .inl hb) (fun b hb => by
    rcases hb with hb | hb
    · exact H.bound b hb
    · exact hb.2)
theorem TT.commit_len (hO : T.Ok) (id : Int) : (T.commit id).2.all.length = T.all.length ∧ (T.commit id).2.last ≤ T.last + 1 := by
  have hs := T.endd_same hO id 1 2
  have hl := hs.len
  have h2 := hs.2
  unfold TT.commit
  split
  · split
    · unfold TT.num
      simp only [List.length_set]
      exact ⟨hl, by omega⟩
    · exact ⟨hl, by simp only; omega⟩
  · exact ⟨hl, by omega⟩
theorem Sg.commit (H : Sg w0 w h x A T k) (hk : k < 2147483648) (id : Int) :
    Calls Try.prog 24 #[.pointer (some ⟨x, 0, none⟩), .int .i64 id] w fun e w' => e = .returned (.int .i64 (T.commit id).1) ∧ Sg w0 w' h x A (T.commit id).2 (k + 1) := by
  obtain ⟨F, Fx, H⟩ := H
  refine (commit_calls x T Fx w H.tab H.tok (by have := H.tlen; omega) (by have := H.tlast; omega) id).mono ?_
  rintro e w' ⟨rfl, h1, h2⟩
  have hl := T.commit_len H.tok id
  exact ⟨rfl, _, _, H.tabbed (ext_tab h1 h2.size) h2 (H.tok.commit id) (by have := H.tlen; omega) (by have := H.tlast; omega)⟩
theorem Sg.abort (H : Sg w0 w h x A T k) (hk : k < 2147483648) (id : Int) :
    Calls Try.prog 25 #[.pointer (some ⟨x, 0, none⟩), .int .i64 id] w fun e w' => e = .returned (.int .i64 (T.abort id).1) ∧ Sg w0 w' h x A (T.abort id).2 (k + 1) := by
  obtain ⟨F, Fx, H⟩ := H
  refine (abort_calls x T Fx w H.tab H.tok (by have := H.tlen; omega) id).mono ?_
  rintro e w' ⟨rfl, h1, h2⟩
  have hs := T.endd_same H.tok id 2 3
  exact ⟨rfl, _, _, H.tabbed (ext_tab h1 h2.size) h2 (H.tok.abort id) (by have := H.tlen; have := hs.len; unfold TT.abort; omega) (by have := H.tlast; have := hs.2; unfold TT.abort; omega)⟩
end

/-- A row of one value that was made just now. -/
theorem R_val1 (W : World) (kd n : Int) : Kd.R kVal 91 (W.alloc (.cells #[.int .u8 kd, .int .i64 n, .int .i64 0, .string ⟨#[]⟩] 91)) W.heap.size (fun _ => True) (.slice (some ⟨W.heap.size, 0, none⟩) 1 1) [⟨kd, n, 0, ⟨#[]⟩⟩] :=
  ⟨fun _ _ => trivial, [.int .u8 kd, .int .i64 n, .int .i64 0, .string ⟨#[]⟩], ⟨rfl, .inr ⟨W.heap.size, 1, _, rfl, Nat.le_refl _, blk_new W _, Nat.le_refl _, by unfold maxLen; omega, rfl, rfl⟩⟩, (Reps.none _ _).snoc (PHeapThere.k91_mkM _ _ _ ⟨kd, n, 0, ⟨#[]⟩⟩) rfl⟩
end Go.Proofs.Ytljahhgankcalaa

/-! covenantlaw12: Step.do. Printed by gengb.py. -/
namespace Go.Proofs.Ytljahhgankcalaa
open Go.RowKit Go.Maps Go.MapKept Go.WideMaps Go.Shelf
open Go.Proofs.YtljahhgankcalaaW.PrintWords Go.Proofs.YtljahhgankcalaaW.PrintLast Go.Proofs.YtljahhgankcalaaW.PrintMore
set_option linter.unusedVariables false
set_option linter.unusedSimpArgs false

def valOf (n : Int) : AVal := ⟨1, n, 0, ⟨#[]⟩⟩
/-- What a step does. -/
def step12 (A : AH) (T : TT) (s : Step12) : AH × TT :=
  if s.f0 = 0 then (A, (T.begin s.f1).2.2)
  else if s.f0 = 1 then (A, (T.commit s.f1).2)
  else if s.f0 = 2 then (A, (T.abort s.f1).2)
  else if s.f0 = 3 then ((A.putE ⟨s.f2, s.f3, s.f1, 0, 0, 0, [valOf s.f1]⟩).2.2, T)
  else if s.f0 = 4 then ((A.kill s.f4 s.f1 0).2, T)
  else ((A.free s.f4).2, T)

set_option maxRecDepth 100000 in
set_option maxHeartbeats 1000000 in
theorem do12_calls (w0 w : World) (h x : Nat) (A : AH) (T : TT) (k : Nat) (s : Step12) (H : Sg w0 w h x A T k) (hk : k < 2147483648) :
    Calls Try.prog 29 #[.agg #[.int .u8 s.f0, .int .i64 s.f1, .int .i64 s.f2, .int .i64 s.f3, .int .i64 s.f4], .pointer (some ⟨h, 0, none⟩), .pointer (some ⟨x, 0, none⟩)] w fun e w' => (∃ v, e = .returned v) ∧ Sg w0 w' h x (step12 A T s).1 (step12 A T s).2 (k + 1) := by
  obtain ⟨kd, id, no, row, sl⟩ := s
  have hB : Below w.heap.size w (w.alloc (.cells #[.int .u8 kd, .int .i64 id, .int .i64 no, .int .i64 row, .int .i64 sl] 74)) := (Below.refl _ w).alloc (Nat.le_refl _) _
  have hb := blk_new w (.cells #[.int .u8 kd, .int .i64 id, .int .i64 no, .int .i64 row, .int .i64 sl] 74)
  have H1 := H.below hB
  obtain ⟨w1, hw1⟩ : ∃ w1, w.alloc (.cells #[.int .u8 kd, .int .i64 id, .int .i64 no, .int .i64 row, .int .i64 sl] 74) = w1 := ⟨_, rfl⟩
  rw [hw1] at hb H1
  have q0 := blk_cell hb 0
  have q1 := blk_cell hb 1
  have q2 := blk_cell hb 2
  have q3 := blk_cell hb 3
  have q4 := blk_cell hb 4
  simp at q0 q1 q2 q3 q4
  clear H hB hb
  unfold step12
  by_cases c0 : kd = 0
  · simp only [if_pos c0]
    have b0 : (kd == 0) = true := beq_iff_eq.2 c0
    have hc := H1.begin hk id
    clear H1 c0
    go_enter Try.func29, Try.ntmps29
    go_wp2_with fail
    refine hc.mono ?_
    clear hc hw1 q0 q1 q2 q3 q4
    rintro e w2 ⟨rfl, h2⟩
    replace h2 := Aside0.mk h2
    go_wp2
    go_end0
    exact ⟨⟨_, rfl⟩, h2.out⟩
  simp only [if_neg c0]
  have b0 : (kd == 0) = false := beq_eq_false_iff_ne.2 c0
  clear c0
  by_cases c1 : kd = 1
  · simp only [if_pos c1]
    have b1 : (kd == 1) = true := beq_iff_eq.2 c1
    have hc := H1.commit hk id
    clear H1 c1
    go_enter Try.func29, Try.ntmps29
    go_wp2_with fail
    refine hc.mono ?_
    clear hc hw1 q0 q1 q2 q3 q4
    rintro e w2 ⟨rfl, h2⟩
    replace h2 := Aside0.mk h2
    go_wp2
    go_end0
    exact ⟨⟨_, rfl⟩, h2.out⟩
  simp only [if_neg c1]
  have b1 : (kd == 1) = false := beq_eq_false_iff_ne.2 c1
  clear c1
  by_cases c2 : kd = 2
  · simp only [if_pos c2]
    have b2 : (kd == 2) = true := beq_iff_eq.2 c2
    have hc := H1.abort hk id
    clear H1 c2
    go_enter Try.func29, Try.ntmps29
    go_wp2_with fail
    refine hc.mono ?_
    clear hc hw1 q0 q1 q2 q3 q4
    rintro e w2 ⟨rfl, h2⟩
    replace h2 := Aside0.mk h2
    go_wp2
    go_end0
    exact ⟨⟨_, rfl⟩, h2.out⟩
  simp only [if_neg c2]
  have b2 : (kd == 2) = false := beq_eq_false_iff_ne.2 c2
  clear c2
  by_cases c3 : kd = 3
  · simp only [if_pos c3]
    have b3 : (kd == 3) = true := beq_iff_eq.2 c3
    have hr := R_val1 w1 1 id
    have hc := H1.put hk ⟨no, row, id, 0, 0, 0, [valOf id]⟩ _ ((Below.refl _ w1).alloc (Nat.le_refl _) _) hr (show 1 < 2 by decide)
    clear hr
    clear H1 c3
    go_enter Try.func29, Try.ntmps29
    go_wp2_with fail
    refine hc.mono ?_
    clear hc hw1 q0 q1 q2 q3 q4
    rintro e w2 ⟨rfl, h2⟩
    replace h2 := Aside0.mk h2
    go_wp2
    go_end0
    exact ⟨⟨_, rfl⟩, h2.out⟩
  simp only [if_neg c3]
  have b3 : (kd == 3) = false := beq_eq_false_iff_ne.2 c3
  clear c3
  by_cases c4 : kd = 4
  · simp only [if_pos c4]
    have b4 : (kd == 4) = true := beq_iff_eq.2 c4
    have hc := H1.kill sl id 0
    clear H1 c4
    go_enter Try.func29, Try.ntmps29
    go_wp2_with fail
    refine hc.mono ?_
    clear hc hw1 q0 q1 q2 q3 q4
    rintro e w2 ⟨rfl, h2⟩
    replace h2 := Aside0.mk h2
    go_wp2
    go_end0
    exact ⟨⟨_, rfl⟩, h2.out⟩
  simp only [if_neg c4]
  have b4 : (kd == 4) = false := beq_eq_false_iff_ne.2 c4
  clear c4
  have hc := H1.free hk sl
  clear H1
  go_enter Try.func29, Try.ntmps29
  go_wp2_with fail
  refine hc.mono ?_
  clear hc hw1 q0 q1 q2 q3 q4
  rintro e w2 ⟨rfl, h2⟩
  replace h2 := Aside0.mk h2
  go_wp2
  go_end0
  exact ⟨⟨_, rfl⟩, h2.out⟩
end Go.Proofs.Ytljahhgankcalaa

/-! covenantlaw12: the writer's seen. -/
namespace Go.Proofs.Ytljahhgankcalaa
open Go.RowKit Go.Maps Go.MapKept Go.WideMaps Go.Shelf
open Go.Proofs.YtljahhgankcalaaW.PrintWords Go.Proofs.YtljahhgankcalaaW.PrintLast Go.Proofs.YtljahhgankcalaaW.PrintMore
set_option linter.unusedVariables false
set_option linter.unusedSimpArgs false

/-- A writer: its heap and its table. -/
def Wr (w : World) (b h x : Nat) : Prop := w.heap[b]? = some (.cells #[.pointer (some ⟨h, 0, none⟩), .pointer (some ⟨x, 0, none⟩), .slice none 0 0] 49 (0, 0))
theorem Wr.c0 {w : World} {b h x : Nat} (H : Wr w b h x) : w.cell? ⟨b, 0, none⟩ = some (.pointer (some ⟨h, 0, none⟩)) := by rw [blk_cell H 0]; rfl
theorem Wr.c1 {w : World} {b h x : Nat} (H : Wr w b h x) : w.cell? ⟨b, 1, none⟩ = some (.pointer (some ⟨x, 0, none⟩)) := by rw [blk_cell H 1]; rfl
/-- What a row says to who looks: -1: none. -/
def AH.says (A : AH) (T : TT) (at' me id : Int) : Int :=
  match A.seen T at' me 1 id with
  | none => -1
  | some s => if A.there s = true ∧ (A.at s).f6.length = 1 then ((A.at s).f6.getD 0 zVal).f1 else -2

theorem rd_val0 (v : AVal) : PHeapThere.rd_T91 [v] 0 = v := rfl

set_option maxRecDepth 100000 in
set_option maxHeartbeats 4000000 in
theorem wseen_calls (b h x : Nat) (at' me id : Int) (A : AH) (T : TT) (F Fx : Nat → Prop) (w : World) (L : Look w h x A T F Fx) (hw : Wr w b h x) (ho : okI id) :
    Calls Try.prog 27 #[.pointer (some ⟨b, 0, none⟩), .agg #[.int .i64 at', .int .i64 me], .int .i64 id] w fun e w' => e = .returned (.int .i64 (A.says T at' me id)) ∧ Below w.heap.size w w' := by
  have hB : Below w.heap.size w (w.alloc (.cells #[.int .i64 at', .int .i64 me] 52)) := (Below.refl _ w).alloc (Nat.le_refl _) _
  have hv := blk_new w (.cells #[.int .i64 at', .int .i64 me] 52)
  obtain ⟨w1, hw1⟩ : ∃ w1, w.alloc (.cells #[.int .i64 at', .int .i64 me] 52) = w1 := ⟨_, rfl⟩
  rw [hw1] at hB hv
  have L1 := L.below hB
  have hwr : Wr w1 b h x := blk_below hw hB
  have hseen := Aside0.mk (fun W (hb : Below w1.heap.size w1 W) => (L1.below hb).seen at' me 1 id ⟨okI_of (a := 1) (by decide) (by decide), ho⟩)
  have hat := Aside0.mk (fun W (hb : Below w1.heap.size w1 W) (s : Int) => at_calls h s A F W (L1.below hb).heap (L1.lim s))
  have c0 := hwr.c0
  have c1 := hwr.c1
  have v0 := blk_cell hv 0
  have v1 := blk_cell hv 1
  simp at v0 v1
  have mv : ∀ W, Below w1.heap.size w1 W → W.cell? ⟨b, 0, none⟩ = some (.pointer (some ⟨h, 0, none⟩)) ∧ W.cell? ⟨b, 1, none⟩ = some (.pointer (some ⟨x, 0, none⟩)) ∧ W.cell? ⟨w.heap.size, 0, none⟩ = some (.int .i64 at') ∧ W.cell? ⟨w.heap.size, 1, none⟩ = some (.int .i64 me) := fun W hb =>
    ⟨(show Wr W b h x from blk_below hwr hb).c0, (show Wr W b h x from blk_below hwr hb).c1, blk_cell (blk_below hv hb) 0, blk_cell (blk_below hv hb) 1⟩
  replace mv := Aside0.mk mv
  have HX := Aside0.mk (And.intro hB hw1)
  unfold AH.says
  clear L L1 hB hv hwr hw hw1
  generalize A.seen T at' me 1 id = r at hseen ⊢
  cases r with
  | none =>
    simp only [Option.getD_none, Option.isSome_none] at hseen
    go_enter Try.func27, Try.ntmps27
    go_upto_region 1 with (fail)
    rw [HX.out.2]
    go_region_held3 (fun w' => w'.cell? ⟨b, 0, none⟩ = some (.pointer (some ⟨h, 0, none⟩)) ∧ w'.cell? ⟨b, 1, none⟩ = some (.pointer (some ⟨x, 0, none⟩)) ∧ w'.cell? ⟨w.heap.size, 0, none⟩ = some (.int .i64 at') ∧ w'.cell? ⟨w.heap.size, 1, none⟩ = some (.int .i64 me)) (go_keep) ((go_at_call 32; refine (hseen.out _ (Below.refl _ _).drew).mono ?_; rintro e w2 ⟨rfl, hb⟩; replace hb : Below w1.heap.size w1 w2 := ⟨hb.os, hb.tape, hb.output, hb.size, hb.block⟩; obtain ⟨r0, r1, r2, r3⟩ := mv.out w2 hb; replace hb := Aside0.mk hb))
    go_wp2
    go_ret
    exact ⟨rfl, HX.out.1.trans (hb.out.mono HX.out.1.size)⟩
  | some s =>
    simp only [Option.getD_some, Option.isSome_some] at hseen
    dsimp only
    cases h1 : A.there s with
    | false =>
      have hat1 := Aside0.mk (fun W hb => hat.out W hb s)
      rw [show A.atE s = zTup from by unfold AH.atE; rw [h1]; rfl, h1] at hat1
      simp only [Bool.false_eq_true, false_and, if_false]
      clear hat
      go_enter Try.func27, Try.ntmps27
      go_upto_region 1 with (fail)
      rw [HX.out.2]
      go_region_held3 (fun w' => w'.cell? ⟨b, 0, none⟩ = some (.pointer (some ⟨h, 0, none⟩)) ∧ w'.cell? ⟨b, 1, none⟩ = some (.pointer (some ⟨x, 0, none⟩)) ∧ w'.cell? ⟨w.heap.size, 0, none⟩ = some (.int .i64 at') ∧ w'.cell? ⟨w.heap.size, 1, none⟩ = some (.int .i64 me)) (go_keep) ((go_at_call 32; refine (hseen.out _ (Below.refl _ _).drew).mono ?_; rintro e w2 ⟨rfl, hb⟩; replace hb : Below w1.heap.size w1 w2 := ⟨hb.os, hb.tape, hb.output, hb.size, hb.block⟩; obtain ⟨r0, r1, r2, r3⟩ := mv.out w2 hb; replace hb := Aside0.mk hb))
      have hat1 := hat1.out w2 hb.out
      clear hseen r2 r3
      go_wp2_with fail
      refine hat1.mono ?_
      clear hat1 r1
      rintro e w3 ⟨v3, rfl, hv3, hb3⟩
      obtain ⟨a3, c3, e3⟩ := Kd.R_slice hv3
      subst e3
      rw [show zTup.f6.length = 0 from rfl] at *
      have b3 := hb3.alloc hb3.size (.cells #[.int .i64 zTup.f0, .int .i64 zTup.f1, .int .i64 zTup.f2, .int .i64 zTup.f3, .int .i64 zTup.f4, .int .i64 zTup.f5, .slice a3 0 c3] 39)
      have bX := blk_new w3 (.cells #[.int .i64 zTup.f0, .int .i64 zTup.f1, .int .i64 zTup.f2, .int .i64 zTup.f3, .int .i64 zTup.f4, .int .i64 zTup.f5, .slice a3 0 c3] 39)
      obtain ⟨w4, hw4⟩ : ∃ w4, w3.alloc (.cells #[.int .i64 zTup.f0, .int .i64 zTup.f1, .int .i64 zTup.f2, .int .i64 zTup.f3, .int .i64 zTup.f4, .int .i64 zTup.f5, .slice a3 0 c3] 39) = w4 := ⟨_, rfl⟩
      rw [hw4] at b3 bX
      have q6 := blk_cell bX 6
      simp at q6 hw4
      replace b3 := Aside0.mk (hb.out.trans (b3.mono hb.out.size))
      clear hv3 hb3 bX
      go_wp2
      all_goals
        go_ret
        exact ⟨rfl, HX.out.1.trans (b3.out.mono HX.out.1.size)⟩
    | true =>
      have hat1 := Aside0.mk (fun W hb => hat.out W hb s)
      rw [show A.atE s = A.at s from by unfold AH.atE; rw [if_pos h1], h1] at hat1
      generalize A.at s = t at hat1 ⊢
      clear hat
      by_cases h2 : t.f6.length = 1
      · rw [if_pos ⟨rfl, h2⟩]
        obtain ⟨vv, hvv⟩ : ∃ vv, t.f6 = [vv] := by
          match ht : t.f6, h2 with
          | [vv], _ => exact ⟨vv, rfl⟩
        rw [hvv] at hat1 ⊢
        clear h2 hvv
        go_enter Try.func27, Try.ntmps27
        go_upto_region 1 with (fail)
        rw [HX.out.2]
        go_region_held3 (fun w' => w'.cell? ⟨b, 0, none⟩ = some (.pointer (some ⟨h, 0, none⟩)) ∧ w'.cell? ⟨b, 1, none⟩ = some (.pointer (some ⟨x, 0, none⟩)) ∧ w'.cell? ⟨w.heap.size, 0, none⟩ = some (.int .i64 at') ∧ w'.cell? ⟨w.heap.size, 1, none⟩ = some (.int .i64 me)) (go_keep) ((go_at_call 32; refine (hseen.out _ (Below.refl _ _).drew).mono ?_; rintro e w2 ⟨rfl, hb⟩; replace hb : Below w1.heap.size w1 w2 := ⟨hb.os, hb.tape, hb.output, hb.size, hb.block⟩; obtain ⟨r0, r1, r2, r3⟩ := mv.out w2 hb; replace hb := Aside0.mk hb))
        have hat1 := hat1.out w2 hb.out
        clear hseen r2 r3
        go_wp2_with fail
        refine hat1.mono ?_
        clear hat1 r1
        rintro e w3 ⟨v3, rfl, hv3, hb3⟩
        obtain ⟨a3, c3, e3⟩ := Kd.R_slice hv3
        subst e3
        rw [show [vv].length = 1 from rfl] at *
        obtain ⟨g3, cap3, ev3, _⟩ := Kd.R_form hv3 (by simp)
        injection ev3 with ev1 ev2 ev3
        subst ev1
        clear ev2
        obtain ⟨ad, ea, _, y1, _⟩ := PHeapThere.at_T91 (Kd.R_reads' hv3).2.2 0 (by omega) (show (0 : Int) < ((1 : Nat) : Int) by decide)
        injection ea with ea
        subst ea
        replace y1 : w3.cell? ⟨g3, 1, none⟩ = some (.int .i64 vv.f1) := y1
        clear ev3
        have b3 := hb3.alloc hb3.size (.cells #[.int .i64 t.f0, .int .i64 t.f1, .int .i64 t.f2, .int .i64 t.f3, .int .i64 t.f4, .int .i64 t.f5, .slice (some ⟨g3, 0, none⟩) 1 c3] 39)
        have bX := blk_new w3 (.cells #[.int .i64 t.f0, .int .i64 t.f1, .int .i64 t.f2, .int .i64 t.f3, .int .i64 t.f4, .int .i64 t.f5, .slice (some ⟨g3, 0, none⟩) 1 c3] 39)
        have y4 := (((Below.refl _ w3).alloc (Nat.le_refl _) (.cells #[.int .i64 t.f0, .int .i64 t.f1, .int .i64 t.f2, .int .i64 t.f3, .int .i64 t.f4, .int .i64 t.f5, .slice (some ⟨g3, 0, none⟩) 1 c3] 39)).cell (World.block_lt_of_cell? w3 _ y1)).trans y1
        obtain ⟨w4, hw4⟩ : ∃ w4, w3.alloc (.cells #[.int .i64 t.f0, .int .i64 t.f1, .int .i64 t.f2, .int .i64 t.f3, .int .i64 t.f4, .int .i64 t.f5, .slice (some ⟨g3, 0, none⟩) 1 c3] 39) = w4 := ⟨_, rfl⟩
        rw [hw4] at b3 bX y4
        have q6 := blk_cell bX 6
        replace q6 : w4.cell? ⟨w3.heap.size, 6, none⟩ = some (.slice (some ⟨g3, 0, none⟩) 1 c3) := q6
        replace b3 := Aside0.mk (hb.out.trans (b3.mono hb.out.size))
        clear hv3 hb3 bX y1
        go_wp2
        all_goals
          go_ret
          exact ⟨rfl, HX.out.1.trans (b3.out.mono HX.out.1.size)⟩
      · rw [if_neg (fun h => h2 h.2)]
        have d2 : ((t.f6.length : Int) == 1) = false := beq_eq_false_iff_ne.2 (by omega)
        have d3 : ((t.f6.length : Int) != 1) = true := by rw [bne, d2]; rfl
        have d4 : (t.f6.length == 1) = false := beq_eq_false_iff_ne.2 h2
        have d5 : (t.f6.length != 1) = true := by rw [bne, d4]; rfl
        have d6 : ¬ (t.f6.length : Int) = 1 := by omega
        go_enter Try.func27, Try.ntmps27
        go_upto_region 1 with (fail)
        rw [HX.out.2]
        go_region_held3 (fun w' => w'.cell? ⟨b, 0, none⟩ = some (.pointer (some ⟨h, 0, none⟩)) ∧ w'.cell? ⟨b, 1, none⟩ = some (.pointer (some ⟨x, 0, none⟩)) ∧ w'.cell? ⟨w.heap.size, 0, none⟩ = some (.int .i64 at') ∧ w'.cell? ⟨w.heap.size, 1, none⟩ = some (.int .i64 me)) (go_keep) ((go_at_call 32; refine (hseen.out _ (Below.refl _ _).drew).mono ?_; rintro e w2 ⟨rfl, hb⟩; replace hb : Below w1.heap.size w1 w2 := ⟨hb.os, hb.tape, hb.output, hb.size, hb.block⟩; obtain ⟨r0, r1, r2, r3⟩ := mv.out w2 hb; replace hb := Aside0.mk hb))
        have hat1 := hat1.out w2 hb.out
        clear hseen r2 r3
        go_wp2_with fail
        refine hat1.mono ?_
        clear hat1 r1
        rintro e w3 ⟨v3, rfl, hv3, hb3⟩
        obtain ⟨a3, c3, e3⟩ := Kd.R_slice hv3
        subst e3
        have b3 := hb3.alloc hb3.size (.cells #[.int .i64 t.f0, .int .i64 t.f1, .int .i64 t.f2, .int .i64 t.f3, .int .i64 t.f4, .int .i64 t.f5, .slice a3 t.f6.length c3] 39)
        have bX := blk_new w3 (.cells #[.int .i64 t.f0, .int .i64 t.f1, .int .i64 t.f2, .int .i64 t.f3, .int .i64 t.f4, .int .i64 t.f5, .slice a3 t.f6.length c3] 39)
        obtain ⟨w4, hw4⟩ : ∃ w4, w3.alloc (.cells #[.int .i64 t.f0, .int .i64 t.f1, .int .i64 t.f2, .int .i64 t.f3, .int .i64 t.f4, .int .i64 t.f5, .slice a3 t.f6.length c3] 39) = w4 := ⟨_, rfl⟩
        rw [hw4] at b3 bX
        have q6 := blk_cell bX 6
        simp at q6 hw4
        replace b3 := Aside0.mk (hb.out.trans (b3.mono hb.out.size))
        clear hv3 hb3 bX
        go_wp2
        all_goals
          go_ret
          exact ⟨rfl, HX.out.1.trans (b3.out.mono HX.out.1.size)⟩
end Go.Proofs.Ytljahhgankcalaa

/-! covenantlaw12: a writer's heap and table, step by step. -/
namespace Go.Proofs.Ytljahhgankcalaa
open Go.RowKit Go.Maps Go.MapKept Go.WideMaps Go.Shelf
open Go.Proofs.YtljahhgankcalaaW.PrintWords Go.Proofs.YtljahhgankcalaaW.PrintLast Go.Proofs.YtljahhgankcalaaW.PrintMore
set_option linter.unusedVariables false
set_option linter.unusedSimpArgs false

/-- Blocks K of others: as they are in wk. -/
def Kp (F Fx : Nat → Prop) (b : Nat) (w0 w wk : World) (K : Nat → Prop) : Prop := ∀ g, K g → ¬ F g ∧ ¬ Fx g ∧ g ≠ b ∧ w0.heap.size ≤ g ∧ g < w.heap.size ∧ w.heap[g]? = wk.heap[g]?
/-- After k steps: a writer at b of the heap at h and the table at x; K: blocks that none of them is. -/
def SgW (w0 w : World) (b h x : Nat) (A : AH) (T : TT) (k : Nat) (K : Nat → Prop := fun _ => False) (wk : World := w0) : Prop := ∃ F Fx, SgAt w0 w h x A T F Fx k ∧ Wr w b h x ∧ ¬ F b ∧ ¬ Fx b ∧ w0.heap.size ≤ b ∧ Kp F Fx b w0 w wk K
section
variable {w0 w w' : World} {b h x : Nat} {A A' : AH} {T T' : TT} {F Fx K : Nat → Prop} {wk : World} {k : Nat}
theorem Kp.below (H : Kp F Fx b w0 w wk K) (hb : Below w.heap.size w w') : Kp F Fx b w0 w' wk K := fun g hg => by
  obtain ⟨h1, h2, h3, h4, h5, h6⟩ := H g hg
  exact ⟨h1, h2, h3, h4, Nat.lt_of_lt_of_le h5 hb.size, (hb.block g h5).trans h6⟩
theorem Kp.heaped (H : Kp F Fx b w0 w wk K) (hc : Chg w w' F) : Kp (ext F w w') Fx b w0 w' wk K := fun g hg => by
  obtain ⟨h1, h2, h3, h4, h5, h6⟩ := H g hg
  exact ⟨fun e => by
    rcases e with e | e
    · exact h1 e
    · have := e.1; omega, h2, h3, h4, Nat.lt_of_lt_of_le h5 hc.size, (hc.block g h5 h1).trans h6⟩
theorem Kp.tabbed (H : Kp F Fx b w0 w wk K) (hc : Chg w w' Fx) : Kp F (ext Fx w w') b w0 w' wk K := fun g hg => by
  obtain ⟨h1, h2, h3, h4, h5, h6⟩ := H g hg
  exact ⟨h1, fun e => by
    rcases e with e | e
    · exact h2 e
    · have := e.1; omega, h3, h4, Nat.lt_of_lt_of_le h5 hc.size, (hc.block g h5 h2).trans h6⟩
theorem SgW.below (H : SgW w0 w b h x A T k K wk) (hb : Below w.heap.size w w') : SgW w0 w' b h x A T k K wk := by
  obtain ⟨F, Fx, H, hw, h1, h2, h3, h4⟩ := H
  exact ⟨F, Fx, H.below hb, blk_below hw hb, h1, h2, h3, h4.below hb⟩
theorem SgW.drew (H : SgW w0 w b h x A T k K wk) : SgW w0 w.drew b h x A T k K wk := H.below (Below.refl _ _).drew
theorem SgW.wr (H : SgW w0 w b h x A T k K wk) : Wr w b h x := by
  obtain ⟨F, Fx, H, hw, _⟩ := H
  exact hw
theorem SgW.bel (H : SgW w0 w b h x A T k K wk) : Below w0.heap.size w0 w := by
  obtain ⟨F, Fx, H, hw, _⟩ := H
  exact H.bel
theorem SgW.look (H : SgW w0 w b h x A T k K wk) (hk : k < 2147483648) : ∃ F Fx, Look w h x A T F Fx := by
  obtain ⟨F, Fx, H, hw, _⟩ := H
  exact ⟨F, Fx, H.look hk⟩
theorem SgW.ok (H : SgW w0 w b h x A T k K wk) : A.Ok ∧ T.Ok := by
  obtain ⟨F, Fx, H, hw, _⟩ := H
  exact ⟨H.ok, H.tok⟩
theorem SgW.more (H : SgW w0 w b h x A T k K wk) {m : Nat} (hm : k ≤ m) : SgW w0 w b h x A T m K wk := by
  obtain ⟨F, Fx, H, hw⟩ := H
  exact ⟨F, Fx, H.more hm, hw⟩
theorem ext_old {F : Nat → Prop} {w w' : World} {b : Nat} (hb : b < w.heap.size) (h : ¬ F b) : ¬ ext F w w' b := fun e => by
  rcases e with e | e
  · exact h e
  · have := e.1
    omega
theorem SgW.put (H : SgW w0 w b h x A T k K wk) (hk : k < 2147483648) (t : ATup) (v6 : Value) {w1 : World} (hB : Below w.heap.size w w1) (hr : Kd.R kVal 91 w1 w.heap.size (fun _ => True) v6 t.f6) (hx : t.f6.length < 2) :
    Calls Try.prog 38 #[.pointer (some ⟨h, 0, none⟩), .agg #[.int .i64 t.f0, .int .i64 t.f1, .int .i64 t.f2, .int .i64 t.f3, .int .i64 t.f4, .int .i64 t.f5, v6]] w1 fun e w' =>
      e = .returned (.tuple #[.int .i64 (A.putE t).1, .int .i64 (A.putE t).2.1]) ∧ SgW w0 w' b h x (A.putE t).2.2 T (k + 1) K wk := by
  obtain ⟨F, Fx, H, hw, n1, n2, n3, n4⟩ := H
  have hbd := H.heap.bound
  have hr2 := Kd.R_lower (Kd.R_mono (Kd.R_bound hr) (ok' := fun b => w.heap.size ≤ b) (fun b hb => hb.2.1)) (Nat.zero_le w.heap.size)
  refine (put_calls h t v6 (fun b => w.heap.size ≤ b) A F w1 (H.heap.below hB) H.ok (by have := H.len; omega) hr2 (by omega) (fun b hb e => by have := hbd b e; omega)).mono ?_
  rintro e w' ⟨rfl, h1, h2⟩
  obtain ⟨f1, f2, f3⟩ := AH.putE_facts H.ok H.lim t hx
  have hw1 := blk_below hw hB
  exact ⟨rfl, _, _, (H.below hB).heaped h1 h2 f1 (by have := H.len; omega) f3, h2.obj hw1 n1, ext_old (blk_lt hw1) n1, n2, n3, (n4.below hB).heaped h2⟩
theorem SgW.kill (H : SgW w0 w b h x A T k K wk) (s y c : Int) :
    Calls Try.prog 40 #[.pointer (some ⟨h, 0, none⟩), .int .i64 s, .int .i64 y, .int .i64 c] w fun e w' => e = .returned (.int .i64 (A.kill s y c).1) ∧ SgW w0 w' b h x (A.kill s y c).2 T (k + 1) K wk := by
  obtain ⟨F, Fx, H, hw, n1, n2, n3, n4⟩ := H
  refine (kill_calls h s y c A F w H.heap).mono ?_
  rintro e w' ⟨rfl, h1, h2⟩
  obtain ⟨f1, f2, f3⟩ := AH.kill_facts H.ok H.lim s y c
  exact ⟨rfl, _, _, H.heaped (h1.ext h2.size) h2 f1 (by have := H.len; omega) f3, h2.obj hw n1, ext_old (blk_lt hw) n1, n2, n3, n4.heaped h2⟩
theorem SgW.begin (H : SgW w0 w b h x A T k K wk) (hk : k < 2147483648) (p : Int) :
    Calls Try.prog 23 #[.pointer (some ⟨x, 0, none⟩), .int .i64 p] w fun e w' => e = .returned (.tuple #[.int .i64 (T.begin p).1, .int .i64 (T.begin p).2.1]) ∧ SgW w0 w' b h x A (T.begin p).2.2 (k + 1) K wk := by
  obtain ⟨F, Fx, H, hw, n1, n2, n3, n4⟩ := H
  refine (begin_calls x T Fx w H.tab H.tok (by have := H.tlen; omega) p).mono ?_
  rintro e w' ⟨rfl, h1, h2⟩
  have hl : (T.begin p).2.2.all.length ≤ T.all.length + 1 ∧ (T.begin p).2.2.last = T.last := by
    unfold TT.begin
    split
    · simp
    · split <;> simp
  exact ⟨rfl, _, _, H.tabbed h1 h2 (H.tok.begin p) (by have := H.tlen; omega) (by have := H.tlast; omega), h2.obj hw n2, n1, ext_old (blk_lt hw) n2, n3, n4.tabbed h2⟩
theorem SgW.commit (H : SgW w0 w b h x A T k K wk) (hk : k < 2147483648) (id : Int) :
    Calls Try.prog 24 #[.pointer (some ⟨x, 0, none⟩), .int .i64 id] w fun e w' => e = .returned (.int .i64 (T.commit id).1) ∧ SgW w0 w' b h x A (T.commit id).2 (k + 1) K wk := by
  obtain ⟨F, Fx, H, hw, n1, n2, n3, n4⟩ := H
  refine (commit_calls x T Fx w H.tab H.tok (by have := H.tlen; omega) (by have := H.tlast; omega) id).mono ?_
  rintro e w' ⟨rfl, h1, h2⟩
  have hl := T.commit_len H.tok id
  exact ⟨rfl, _, _, H.tabbed (ext_tab h1 h2.size) h2 (H.tok.commit id) (by have := H.tlen; omega) (by have := H.tlast; omega), h2.obj hw n2, n1, ext_old (blk_lt hw) n2, n3, n4.tabbed h2⟩
theorem SgW.abort (H : SgW w0 w b h x A T k K wk) (hk : k < 2147483648) (id : Int) :
    Calls Try.prog 25 #[.pointer (some ⟨x, 0, none⟩), .int .i64 id] w fun e w' => e = .returned (.int .i64 (T.abort id).1) ∧ SgW w0 w' b h x A (T.abort id).2 (k + 1) K wk := by
  obtain ⟨F, Fx, H, hw, n1, n2, n3, n4⟩ := H
  refine (abort_calls x T Fx w H.tab H.tok (by have := H.tlen; omega) id).mono ?_
  rintro e w' ⟨rfl, h1, h2⟩
  have hs := T.endd_same H.tok id 2 3
  exact ⟨rfl, _, _, H.tabbed (ext_tab h1 h2.size) h2 (H.tok.abort id) (by have := H.tlen; have := hs.len; unfold TT.abort; omega) (by have := H.tlast; have := hs.2; unfold TT.abort; omega), h2.obj hw n2, n1, ext_old (blk_lt hw) n2, n3, n4.tabbed h2⟩
end

/-- Another transaction has a row, and is not committed. -/
def TT.blocks (T : TT) (top by' : Int) : Bool := decide (by' ≠ 0) && (T.counts by' && (!(T.top by' == top) && (T.number (T.top by') == 0)))
def AH.blocked (A : AH) (T : TT) (top id : Int) : Bool := (A.rows (1, id)).any (fun s => T.blocks top (A.at s).f2 || T.blocks top (A.at s).f4)
/-- What a row's writing comes to, and the heap behind it. -/
def AH.writes (A : AH) (T : TT) (top sub id n : Int) : Bool × AH :=
  if A.blocked T top id = true then (false, A)
  else match A.seen T T.last top 1 id with
  | none => if n < 0 then (false, A) else (decide ((A.putE ⟨1, id, sub, 0, 0, 0, [valOf n]⟩).2.1 = 0), (A.putE ⟨1, id, sub, 0, 0, 0, [valOf n]⟩).2.2)
  | some s => if (A.kill s sub 0).1 = 0 then (if n < 0 then (true, (A.kill s sub 0).2) else (decide (((A.kill s sub 0).2.putE ⟨1, id, sub, 0, 0, 0, [valOf n]⟩).2.1 = 0), ((A.kill s sub 0).2.putE ⟨1, id, sub, 0, 0, 0, [valOf n]⟩).2.2))
    else (false, (A.kill s sub 0).2)
end Go.Proofs.Ytljahhgankcalaa

import Derived.Test.YtljahhgankcalaaG4
import Derived.BigQuiet
/-! snap: done, Own, old, either, Sees. Printed by gensight.py. -/
namespace Go.Proofs.Ytljahhgankcalaa
open Go.RowKit Go.Maps Go.MapKept Go.WideMaps Go.Shelf
open Go.Proofs.YtljahhgankcalaaW.PrintWords Go.Proofs.YtljahhgankcalaaW.PrintLast Go.Proofs.YtljahhgankcalaaW.PrintMore
set_option linter.unusedVariables false
set_option linter.unusedSimpArgs false

def TT.done (T : TT) (id : Int) : Int := if T.counts id then T.number (T.top id) else 0
def TT.own (T : TT) (me id : Int) : Bool := decide (me ≠ 0) && T.counts id && (T.top id == me)
def TT.old (T : TT) (at' id : Int) : Bool := decide (0 < T.done id) && decide (T.done id ≤ at')
def TT.sees (T : TT) (at' me id : Int) : Bool := T.own me id || T.old at' id

theorem done_calls (x : Nat) (T : TT) (F : Nat → Prop) (w : World) (H : TabIs w x T F) (hOk : T.Ok) (id : Int) :
    Calls Try.prog 106 #[.pointer (some ⟨x, 0, none⟩), .int .i64 id] w fun e w' => e = .returned (.int .i64 (T.done id)) ∧ Below w.heap.size w w' := by
  have hcn := counts_calls x T F w H hOk id
  have htop := Aside0.mk (fun W (hb : Below w.heap.size w W) => top_calls x T F W (H.below hb) hOk id)
  have hnum := Aside0.mk (fun W (hb : Below w.heap.size w W) => number_calls x T F W (H.below hb) hOk (T.top id))
  unfold TT.done
  clear H
  cases hb : T.counts id with
  | false =>
    rw [hb] at hcn
    clear hb
    go_enter Try.func106, Try.ntmps106
    go_wp2_with (go_at_call 65; refine hcn.mono ?_; clear hcn; rintro e w1 ⟨rfl, b1⟩)
    go_ret
    exact ⟨by simp, b1⟩
  | true =>
    rw [hb] at hcn
    clear hb
    go_enter Try.func106, Try.ntmps106
    go_wp2_with fail
    refine hcn.mono ?_
    clear hcn
    rintro e w1 ⟨rfl, b1⟩
    replace b1 := Aside0.mk b1
    go_wp2_with fail
    refine (htop.out w1 b1.out).mono ?_
    rintro e w2 ⟨rfl, b2⟩
    have b3 := Aside0.mk (b1.out.trans (b2.mono b1.out.size))
    clear b2
    go_wp2_with fail
    refine (hnum.out w2 b3.out).mono ?_
    rintro e w3 ⟨rfl, b4⟩
    have b5 := Aside0.mk (b3.out.trans (b4.mono b3.out.size))
    clear b4
    go_wp2
    go_ret
    exact ⟨by simp, b5.out⟩

theorem vold_calls (x : Nat) (at' me : Int) (T : TT) (F : Nat → Prop) (w : World) (H : TabIs w x T F) (hOk : T.Ok) (id : Int) :
    Calls Try.prog 96 #[.agg #[.int .i64 at', .int .i64 me], .pointer (some ⟨x, 0, none⟩), .int .i64 id] w fun e w' => e = .returned (.bool (T.old at' id)) ∧ Below w.heap.size w w' := by
  have B0 : Below w.heap.size w (w.alloc (.cells #[.int .i64 at', .int .i64 me] 52)) := (Below.refl _ w).alloc (Nat.le_refl _) _
  have hdn := done_calls x T F _ (H.below B0) hOk id
  have c0 : (w.alloc (.cells #[.int .i64 at', .int .i64 me] 52)).cell? ⟨w.heap.size, 0, none⟩ = some (.int .i64 at') := by
    rw [blk_cell (blk_new w (.cells #[.int .i64 at', .int .i64 me] 52)) 0]
    rfl
  unfold TT.old
  clear H
  generalize T.done id = d at hdn
  cases h1 : decide (0 < d) <;> cases h2 : decide (d ≤ at')
  all_goals
    go_enter Try.func96, Try.ntmps96
    go_wp2_with (go_at_call 106; go_loud (refine hdn.mono ?_; clear hdn; rintro e w1 ⟨rfl, b1⟩; have c1 := (b1.cell (p := ⟨w.heap.size, 0, none⟩) (by simp)).trans c0))
    go_ret
    exact ⟨rfl, B0.trans (b1.mono B0.size)⟩

set_option maxRecDepth 100000 in
set_option maxHeartbeats 4000000 in
theorem vown_calls (x : Nat) (at' me : Int) (T : TT) (F : Nat → Prop) (w : World) (H : TabIs w x T F) (hOk : T.Ok) (id : Int) :
    Calls Try.prog 69 #[.agg #[.int .i64 at', .int .i64 me], .pointer (some ⟨x, 0, none⟩), .int .i64 id] w fun e w' => e = .returned (.bool (T.own me id)) ∧ Below w.heap.size w w' := by
  have B0 : Below w.heap.size w (w.alloc (.cells #[.int .i64 at', .int .i64 me] 52)) := (Below.refl _ w).alloc (Nat.le_refl _) _
  have hblk := blk_new w (.cells #[.int .i64 at', .int .i64 me] 52)
  obtain ⟨w1, hw1⟩ : ∃ w1, w.alloc (.cells #[.int .i64 at', .int .i64 me] 52) = w1 := ⟨_, rfl⟩
  have hcn := Aside0.mk (fun W (hb : Below w1.heap.size w1 W) => counts_calls x T F W ((H.below (hw1 ▸ B0)).below hb) hOk id)
  have htop := Aside0.mk (fun W (hb : Below w1.heap.size w1 W) => top_calls x T F W ((H.below (hw1 ▸ B0)).below hb) hOk id)
  have c0 := blk_cell hblk 0
  have c1 := blk_cell hblk 1
  rw [hw1] at c0 c1 B0
  simp at c0 c1
  have hlt : w.heap.size < w1.heap.size := by rw [← hw1]; simp
  have HX := Aside0.mk (And.intro hw1 B0)
  unfold TT.own
  clear H hblk hw1 B0
  have mv : ∀ (W W' : World), Below w1.heap.size W W' → W.cell? ⟨w.heap.size, 0, none⟩ = some (.int .i64 at') ∧ W.cell? ⟨w.heap.size, 1, none⟩ = some (.int .i64 me) → W'.cell? ⟨w.heap.size, 0, none⟩ = some (.int .i64 at') ∧ W'.cell? ⟨w.heap.size, 1, none⟩ = some (.int .i64 me) :=
    fun W W' hb h => ⟨(hb.cell (p := ⟨w.heap.size, 0, none⟩) hlt).trans h.1, (hb.cell (p := ⟨w.heap.size, 1, none⟩) hlt).trans h.2⟩
  replace mv := Aside0.mk mv
  have cc := Aside0.mk (And.intro c0 c1)
  have HLT := Aside0.mk hlt
  clear hlt
  by_cases hme : me = 0
  · have hne : (me != 0) = false := by rw [hme]; rfl
    rw [decide_eq_false (fun h => h hme)]
    clear hme
    go_enter Try.func69, Try.ntmps69
    go_upto_region 1 with (fail)
    rw [HX.out.1]
    refine wp_region_held_drew (S := fun w' => w'.cell? ⟨w.heap.size, 0, none⟩ = some (.int .i64 at') ∧ w'.cell? ⟨w.heap.size, 1, none⟩ = some (.int .i64 me)) (by kernel_rfl) ?_ (fun hHeld => ?_)
    · go_keep
    refine wpAnyH_take (i := 0) (v := ?_) rfl (by kernel_rfl) (by kernel_rfl) (by kernel_rfl) (fun _ _ _ h => h) (Or.inl ⟨by rfl, ?_⟩) (by assumption) ?_
    rotate_left
    · intro w hSw
      try dsimp only at hSw
      go_simp
      try with_reducible rfl
    try simp only [Act.put, List.getElem_toArray, List.getElem_cons_zero, List.getElem_cons_succ, List.setIfInBounds_toArray, List.set_cons_zero, List.set_cons_succ]
    refine wpAnyH_take (i := 1) (v := ?_) rfl (by kernel_rfl) (by kernel_rfl) (by kernel_rfl) (fun _ _ _ h => h) (Or.inl ⟨by rfl, ?_⟩) (by assumption) ?_
    rotate_left
    · intro w hSw
      try dsimp only at hSw
      go_simp
      try with_reducible rfl
    try simp only [Act.put, List.getElem_toArray, List.getElem_cons_zero, List.getElem_cons_succ, List.setIfInBounds_toArray, List.set_cons_zero, List.set_cons_succ]
    refine wpAnyH_take (i := 2) (v := ?_) rfl (by kernel_rfl) (by kernel_rfl) (by kernel_rfl) (fun _ _ _ h => h) (Or.inl ⟨by rfl, ?_⟩) (by assumption) ?_
    rotate_left
    · intro w hSw
      try dsimp only at hSw
      go_simp
      try with_reducible rfl
    try simp only [Act.put, List.getElem_toArray, List.getElem_cons_zero, List.getElem_cons_succ, List.setIfInBounds_toArray, List.set_cons_zero, List.set_cons_succ]
    refine wpAnyH_take (i := 3) (v := ?_) rfl (by kernel_rfl) (by kernel_rfl) (by kernel_rfl) (fun _ _ _ h => h) (Or.inl ⟨by rfl, ?_⟩) (by assumption) ?_
    rotate_left
    · intro w hSw
      try dsimp only at hSw
      go_simp
      try with_reducible rfl
    try simp only [Act.put, List.getElem_toArray, List.getElem_cons_zero, List.getElem_cons_succ, List.setIfInBounds_toArray, List.set_cons_zero, List.set_cons_succ]
    refine wpAnyH_take (i := 4) (v := _) rfl (by kernel_rfl) (by kernel_rfl) (by kernel_rfl) (fun _ _ _ h => h) (Or.inr ⟨by rfl, rfl⟩) (by assumption) ?_
    try simp only [Act.put, List.getElem_toArray, List.getElem_cons_zero, List.getElem_cons_succ, List.setIfInBounds_toArray, List.set_cons_zero, List.set_cons_succ]
    refine wpAnyH_take (i := 5) (v := _) rfl (by kernel_rfl) (by kernel_rfl) (by kernel_rfl) (fun _ _ _ h => h) (Or.inr ⟨by rfl, rfl⟩) (by assumption) ?_
    try simp only [Act.put, List.getElem_toArray, List.getElem_cons_zero, List.getElem_cons_succ, List.setIfInBounds_toArray, List.set_cons_zero, List.set_cons_succ]
    refine wpAnyH_take (i := 6) (v := _) rfl (by kernel_rfl) (by kernel_rfl) (by kernel_rfl) (fun _ _ _ h => h) (Or.inr ⟨by rfl, rfl⟩) (by assumption) ?_
    try simp only [Act.put, List.getElem_toArray, List.getElem_cons_zero, List.getElem_cons_succ, List.setIfInBounds_toArray, List.set_cons_zero, List.set_cons_succ]
    refine wpAnyH_take (i := 7) (v := ?_) rfl (by kernel_rfl) (by kernel_rfl) (by kernel_rfl) (fun _ _ _ h => h) (Or.inl ⟨by rfl, ?_⟩) (by assumption) ?_
    rotate_left
    · intro w hSw
      try dsimp only at hSw
      go_simp
      try with_reducible rfl
    try simp only [Act.put, List.getElem_toArray, List.getElem_cons_zero, List.getElem_cons_succ, List.setIfInBounds_toArray, List.set_cons_zero, List.set_cons_succ]
    refine wpAnyH_take (i := 8) (v := ?_) rfl (by kernel_rfl) (by kernel_rfl) (by kernel_rfl) (fun _ _ _ h => h) (Or.inl ⟨by rfl, ?_⟩) (by assumption) ?_
    rotate_left
    · intro w hSw
      try dsimp only at hSw
      go_simp
      try with_reducible rfl
    try simp only [Act.put, List.getElem_toArray, List.getElem_cons_zero, List.getElem_cons_succ, List.setIfInBounds_toArray, List.set_cons_zero, List.set_cons_succ]
    refine wpAnyH_take (i := 9) (v := _) rfl (by kernel_rfl) (by kernel_rfl) (by kernel_rfl) (fun _ _ _ h => h) (Or.inr ⟨by rfl, rfl⟩) (by assumption) ?_
    try simp only [Act.put, List.getElem_toArray, List.getElem_cons_zero, List.getElem_cons_succ, List.setIfInBounds_toArray, List.set_cons_zero, List.set_cons_succ]
    refine wpAnyH_take (i := 10) (v := _) rfl (by kernel_rfl) (by kernel_rfl) (by kernel_rfl) (fun _ _ _ h => h) (Or.inr ⟨by rfl, rfl⟩) (by assumption) ?_
    try simp only [Act.put, List.getElem_toArray, List.getElem_cons_zero, List.getElem_cons_succ, List.setIfInBounds_toArray, List.set_cons_zero, List.set_cons_succ]
    refine wpAnyH_take (i := 11) (v := _) rfl (by kernel_rfl) (by kernel_rfl) (by kernel_rfl) (fun _ _ _ h => h) (Or.inr ⟨by rfl, rfl⟩) (by assumption) ?_
    try simp only [Act.put, List.getElem_toArray, List.getElem_cons_zero, List.getElem_cons_succ, List.setIfInBounds_toArray, List.set_cons_zero, List.set_cons_succ]
    refine wpAnyH_take (i := 12) (v := _) rfl (by kernel_rfl) (by kernel_rfl) (by kernel_rfl) (fun _ _ _ h => h) (Or.inr ⟨by rfl, rfl⟩) (by assumption) ?_
    try simp only [Act.put, List.getElem_toArray, List.getElem_cons_zero, List.getElem_cons_succ, List.setIfInBounds_toArray, List.set_cons_zero, List.set_cons_succ]
    refine wpAnyH_take (i := 13) (v := _) rfl (by kernel_rfl) (by kernel_rfl) (by kernel_rfl) (fun _ _ _ h => h) (Or.inr ⟨by rfl, rfl⟩) (by assumption) ?_
    try simp only [Act.put, List.getElem_toArray, List.getElem_cons_zero, List.getElem_cons_succ, List.setIfInBounds_toArray, List.set_cons_zero, List.set_cons_succ]
    refine wpAnyH_take (i := 14) (v := _) rfl (by kernel_rfl) (by kernel_rfl) (by kernel_rfl) (fun _ _ _ h => h) (Or.inr ⟨by rfl, rfl⟩) (by assumption) ?_
    try simp only [Act.put, List.getElem_toArray, List.getElem_cons_zero, List.getElem_cons_succ, List.setIfInBounds_toArray, List.set_cons_zero, List.set_cons_succ]
    refine wpAnyH_take (i := 15) (v := ?_) rfl (by kernel_rfl) (by kernel_rfl) (by kernel_rfl) (fun _ _ _ h => h) (Or.inl ⟨by rfl, ?_⟩) (by assumption) ?_
    rotate_left
    · intro w hSw
      try dsimp only at hSw
      go_simp
      try with_reducible rfl
    try simp only [Act.put, List.getElem_toArray, List.getElem_cons_zero, List.getElem_cons_succ, List.setIfInBounds_toArray, List.set_cons_zero, List.set_cons_succ]
    refine wpAnyH_take (i := 16) (v := ?_) rfl (by kernel_rfl) (by kernel_rfl) (by kernel_rfl) (fun _ _ _ h => h) (Or.inl ⟨by rfl, ?_⟩) (by assumption) ?_
    rotate_left
    · intro w hSw
      try dsimp only at hSw
      go_simp
      try with_reducible rfl
    try simp only [Act.put, List.getElem_toArray, List.getElem_cons_zero, List.getElem_cons_succ, List.setIfInBounds_toArray, List.set_cons_zero, List.set_cons_succ]
    refine wpAnyH_done (by kernel_rfl) ?_ _
    go_wp2
    go_ret
    exact ⟨by simp, HX.out.2.drew⟩
  · have hne : (me != 0) = true := by rw [bne, beq_eq_false_iff_ne.2 hme]; rfl
    rw [decide_eq_true hme]
    have HME := Aside0.mk hme
    clear hme
    cases hc : T.counts id with
    | false =>
      rw [hc] at hcn
      clear hc
      go_enter Try.func69, Try.ntmps69
      go_upto_region 1 with (fail)
      rw [HX.out.1]
      refine wp_region_held_drew (S := fun w' => w'.cell? ⟨w.heap.size, 0, none⟩ = some (.int .i64 at') ∧ w'.cell? ⟨w.heap.size, 1, none⟩ = some (.int .i64 me)) (by kernel_rfl) ?_ (fun hHeld => ?_)
      · go_keep
      refine wpAnyH_take (i := 0) (v := ?_) rfl (by kernel_rfl) (by kernel_rfl) (by kernel_rfl) (fun _ _ _ h => h) (Or.inl ⟨by rfl, ?_⟩) (by assumption) ?_
      rotate_left
      · intro w hSw
        try dsimp only at hSw
        go_simp
        try with_reducible rfl
      try simp only [Act.put, List.getElem_toArray, List.getElem_cons_zero, List.getElem_cons_succ, List.setIfInBounds_toArray, List.set_cons_zero, List.set_cons_succ]
      refine wpAnyH_take (i := 1) (v := ?_) rfl (by kernel_rfl) (by kernel_rfl) (by kernel_rfl) (fun _ _ _ h => h) (Or.inl ⟨by rfl, ?_⟩) (by assumption) ?_
      rotate_left
      · intro w hSw
        try dsimp only at hSw
        go_simp
        try with_reducible rfl
      try simp only [Act.put, List.getElem_toArray, List.getElem_cons_zero, List.getElem_cons_succ, List.setIfInBounds_toArray, List.set_cons_zero, List.set_cons_succ]
      refine wpAnyH_take (i := 2) (v := ?_) rfl (by kernel_rfl) (by kernel_rfl) (by kernel_rfl) (fun _ _ _ h => h) (Or.inl ⟨by rfl, ?_⟩) (by assumption) ?_
      rotate_left
      · intro w hSw
        try dsimp only at hSw
        go_simp
        try with_reducible rfl
      try simp only [Act.put, List.getElem_toArray, List.getElem_cons_zero, List.getElem_cons_succ, List.setIfInBounds_toArray, List.set_cons_zero, List.set_cons_succ]
      refine wpAnyH_take (i := 3) (v := ?_) rfl (by kernel_rfl) (by kernel_rfl) (by kernel_rfl) (fun _ _ _ h => h) (Or.inl ⟨by rfl, ?_⟩) (by assumption) ?_
      rotate_left
      · intro w hSw
        try dsimp only at hSw
        go_simp
        try with_reducible rfl
      try simp only [Act.put, List.getElem_toArray, List.getElem_cons_zero, List.getElem_cons_succ, List.setIfInBounds_toArray, List.set_cons_zero, List.set_cons_succ]
      refine wpAnyH_take (i := 4) (v := ?_) rfl (by kernel_rfl) (by kernel_rfl) (by kernel_rfl) (fun _ _ _ h => h) (Or.inl ⟨by rfl, ?_⟩) (by assumption) ?_
      rotate_left
      · intro w hSw
        try dsimp only at hSw
        go_simp
        try with_reducible rfl
      try simp only [Act.put, List.getElem_toArray, List.getElem_cons_zero, List.getElem_cons_succ, List.setIfInBounds_toArray, List.set_cons_zero, List.set_cons_succ]
      refine wpAnyH_take (i := 5) (v := ?_) rfl (by kernel_rfl) (by kernel_rfl) (by kernel_rfl) (fun _ _ _ h => h) (Or.inl ⟨by rfl, ?_⟩) (by assumption) ?_
      rotate_left
      · intro w hSw
        try dsimp only at hSw
        go_simp
        try with_reducible rfl
      try simp only [Act.put, List.getElem_toArray, List.getElem_cons_zero, List.getElem_cons_succ, List.setIfInBounds_toArray, List.set_cons_zero, List.set_cons_succ]
      refine wpAnyH_ready (rs := [6]) (by kernel_rfl) (by simp) ?_
      refine AllReadyH.cons rfl (fun K hK => ?_) AllReadyH.nil
      go_simp
      (go_at_call 65; refine (hcn.out _ (Below.refl _ _).drew).mono ?_; rintro e w2 ⟨rfl, hb2⟩; replace hb2 : Below w1.heap.size w1 w2 := ⟨hb2.os, hb2.tape, hb2.output, hb2.size, hb2.block⟩; obtain ⟨r0, r1⟩ := mv.out w1 w2 hb2 cc.out; replace hb2 := Aside0.mk hb2)
      refine hK.out _ _ ?_ (fun hHeld => ?_)
      · go_keep
      clear hK K
      try simp only [Act.put, List.getElem_toArray, List.getElem_cons_zero, List.getElem_cons_succ, List.setIfInBounds_toArray, List.set_cons_zero, List.set_cons_succ]
      refine wpAnyH_take (i := 7) (v := ?_) rfl (by kernel_rfl) (by kernel_rfl) (by kernel_rfl) (fun _ _ _ h => h) (Or.inl ⟨by rfl, ?_⟩) (by assumption) ?_
      rotate_left
      · intro w hSw
        try dsimp only at hSw
        go_simp
        try with_reducible rfl
      try simp only [Act.put, List.getElem_toArray, List.getElem_cons_zero, List.getElem_cons_succ, List.setIfInBounds_toArray, List.set_cons_zero, List.set_cons_succ]
      refine wpAnyH_take (i := 8) (v := ?_) rfl (by kernel_rfl) (by kernel_rfl) (by kernel_rfl) (fun _ _ _ h => h) (Or.inl ⟨by rfl, ?_⟩) (by assumption) ?_
      rotate_left
      · intro w hSw
        try dsimp only at hSw
        go_simp
        try with_reducible rfl
      try simp only [Act.put, List.getElem_toArray, List.getElem_cons_zero, List.getElem_cons_succ, List.setIfInBounds_toArray, List.set_cons_zero, List.set_cons_succ]
      refine wpAnyH_take (i := 9) (v := _) rfl (by kernel_rfl) (by kernel_rfl) (by kernel_rfl) (fun _ _ _ h => h) (Or.inr ⟨by rfl, rfl⟩) (by assumption) ?_
      try simp only [Act.put, List.getElem_toArray, List.getElem_cons_zero, List.getElem_cons_succ, List.setIfInBounds_toArray, List.set_cons_zero, List.set_cons_succ]
      refine wpAnyH_take (i := 10) (v := _) rfl (by kernel_rfl) (by kernel_rfl) (by kernel_rfl) (fun _ _ _ h => h) (Or.inr ⟨by rfl, rfl⟩) (by assumption) ?_
      try simp only [Act.put, List.getElem_toArray, List.getElem_cons_zero, List.getElem_cons_succ, List.setIfInBounds_toArray, List.set_cons_zero, List.set_cons_succ]
      refine wpAnyH_take (i := 11) (v := _) rfl (by kernel_rfl) (by kernel_rfl) (by kernel_rfl) (fun _ _ _ h => h) (Or.inr ⟨by rfl, rfl⟩) (by assumption) ?_
      try simp only [Act.put, List.getElem_toArray, List.getElem_cons_zero, List.getElem_cons_succ, List.setIfInBounds_toArray, List.set_cons_zero, List.set_cons_succ]
      refine wpAnyH_take (i := 12) (v := _) rfl (by kernel_rfl) (by kernel_rfl) (by kernel_rfl) (fun _ _ _ h => h) (Or.inr ⟨by rfl, rfl⟩) (by assumption) ?_
      try simp only [Act.put, List.getElem_toArray, List.getElem_cons_zero, List.getElem_cons_succ, List.setIfInBounds_toArray, List.set_cons_zero, List.set_cons_succ]
      refine wpAnyH_take (i := 13) (v := _) rfl (by kernel_rfl) (by kernel_rfl) (by kernel_rfl) (fun _ _ _ h => h) (Or.inr ⟨by rfl, rfl⟩) (by assumption) ?_
      try simp only [Act.put, List.getElem_toArray, List.getElem_cons_zero, List.getElem_cons_succ, List.setIfInBounds_toArray, List.set_cons_zero, List.set_cons_succ]
      refine wpAnyH_take (i := 14) (v := _) rfl (by kernel_rfl) (by kernel_rfl) (by kernel_rfl) (fun _ _ _ h => h) (Or.inr ⟨by rfl, rfl⟩) (by assumption) ?_
      try simp only [Act.put, List.getElem_toArray, List.getElem_cons_zero, List.getElem_cons_succ, List.setIfInBounds_toArray, List.set_cons_zero, List.set_cons_succ]
      refine wpAnyH_take (i := 15) (v := ?_) rfl (by kernel_rfl) (by kernel_rfl) (by kernel_rfl) (fun _ _ _ h => h) (Or.inl ⟨by rfl, ?_⟩) (by assumption) ?_
      rotate_left
      · intro w hSw
        try dsimp only at hSw
        go_simp
        try with_reducible rfl
      try simp only [Act.put, List.getElem_toArray, List.getElem_cons_zero, List.getElem_cons_succ, List.setIfInBounds_toArray, List.set_cons_zero, List.set_cons_succ]
      refine wpAnyH_take (i := 16) (v := ?_) rfl (by kernel_rfl) (by kernel_rfl) (by kernel_rfl) (fun _ _ _ h => h) (Or.inl ⟨by rfl, ?_⟩) (by assumption) ?_
      rotate_left
      · intro w hSw
        try dsimp only at hSw
        go_simp
        try with_reducible rfl
      try simp only [Act.put, List.getElem_toArray, List.getElem_cons_zero, List.getElem_cons_succ, List.setIfInBounds_toArray, List.set_cons_zero, List.set_cons_succ]
      refine wpAnyH_done (by kernel_rfl) ?_ _
      go_wp2
      go_ret
      exact ⟨by simp, HX.out.2.trans (hb2.out.mono HX.out.2.size)⟩
    | true =>
      rw [hc] at hcn
      clear hc
      go_enter Try.func69, Try.ntmps69
      go_upto_region 1 with (fail)
      rw [HX.out.1]
      refine wp_region_held_drew (S := fun w' => w'.cell? ⟨w.heap.size, 0, none⟩ = some (.int .i64 at') ∧ w'.cell? ⟨w.heap.size, 1, none⟩ = some (.int .i64 me)) (by kernel_rfl) ?_ (fun hHeld => ?_)
      · go_keep
      refine wpAnyH_take (i := 0) (v := ?_) rfl (by kernel_rfl) (by kernel_rfl) (by kernel_rfl) (fun _ _ _ h => h) (Or.inl ⟨by rfl, ?_⟩) (by assumption) ?_
      rotate_left
      · intro w hSw
        try dsimp only at hSw
        go_simp
        try with_reducible rfl
      try simp only [Act.put, List.getElem_toArray, List.getElem_cons_zero, List.getElem_cons_succ, List.setIfInBounds_toArray, List.set_cons_zero, List.set_cons_succ]
      refine wpAnyH_take (i := 1) (v := ?_) rfl (by kernel_rfl) (by kernel_rfl) (by kernel_rfl) (fun _ _ _ h => h) (Or.inl ⟨by rfl, ?_⟩) (by assumption) ?_
      rotate_left
      · intro w hSw
        try dsimp only at hSw
        go_simp
        try with_reducible rfl
      try simp only [Act.put, List.getElem_toArray, List.getElem_cons_zero, List.getElem_cons_succ, List.setIfInBounds_toArray, List.set_cons_zero, List.set_cons_succ]
      refine wpAnyH_take (i := 2) (v := ?_) rfl (by kernel_rfl) (by kernel_rfl) (by kernel_rfl) (fun _ _ _ h => h) (Or.inl ⟨by rfl, ?_⟩) (by assumption) ?_
      rotate_left
      · intro w hSw
        try dsimp only at hSw
        go_simp
        try with_reducible rfl
      try simp only [Act.put, List.getElem_toArray, List.getElem_cons_zero, List.getElem_cons_succ, List.setIfInBounds_toArray, List.set_cons_zero, List.set_cons_succ]
      refine wpAnyH_take (i := 3) (v := ?_) rfl (by kernel_rfl) (by kernel_rfl) (by kernel_rfl) (fun _ _ _ h => h) (Or.inl ⟨by rfl, ?_⟩) (by assumption) ?_
      rotate_left
      · intro w hSw
        try dsimp only at hSw
        go_simp
        try with_reducible rfl
      try simp only [Act.put, List.getElem_toArray, List.getElem_cons_zero, List.getElem_cons_succ, List.setIfInBounds_toArray, List.set_cons_zero, List.set_cons_succ]
      refine wpAnyH_take (i := 4) (v := ?_) rfl (by kernel_rfl) (by kernel_rfl) (by kernel_rfl) (fun _ _ _ h => h) (Or.inl ⟨by rfl, ?_⟩) (by assumption) ?_
      rotate_left
      · intro w hSw
        try dsimp only at hSw
        go_simp
        try with_reducible rfl
      try simp only [Act.put, List.getElem_toArray, List.getElem_cons_zero, List.getElem_cons_succ, List.setIfInBounds_toArray, List.set_cons_zero, List.set_cons_succ]
      refine wpAnyH_take (i := 5) (v := ?_) rfl (by kernel_rfl) (by kernel_rfl) (by kernel_rfl) (fun _ _ _ h => h) (Or.inl ⟨by rfl, ?_⟩) (by assumption) ?_
      rotate_left
      · intro w hSw
        try dsimp only at hSw
        go_simp
        try with_reducible rfl
      try simp only [Act.put, List.getElem_toArray, List.getElem_cons_zero, List.getElem_cons_succ, List.setIfInBounds_toArray, List.set_cons_zero, List.set_cons_succ]
      refine wpAnyH_ready (rs := [6]) (by kernel_rfl) (by simp) ?_
      refine AllReadyH.cons rfl (fun K hK => ?_) AllReadyH.nil
      go_simp
      (go_at_call 65; refine (hcn.out _ (Below.refl _ _).drew).mono ?_; rintro e w2 ⟨rfl, hb2⟩; replace hb2 : Below w1.heap.size w1 w2 := ⟨hb2.os, hb2.tape, hb2.output, hb2.size, hb2.block⟩; obtain ⟨r0, r1⟩ := mv.out w1 w2 hb2 cc.out; replace hb2 := Aside0.mk hb2)
      refine hK.out _ _ ?_ (fun hHeld => ?_)
      · go_keep
      clear hK K
      try simp only [Act.put, List.getElem_toArray, List.getElem_cons_zero, List.getElem_cons_succ, List.setIfInBounds_toArray, List.set_cons_zero, List.set_cons_succ]
      refine wpAnyH_take (i := 7) (v := ?_) rfl (by kernel_rfl) (by kernel_rfl) (by kernel_rfl) (fun _ _ _ h => h) (Or.inl ⟨by rfl, ?_⟩) (by assumption) ?_
      rotate_left
      · intro w hSw
        try dsimp only at hSw
        go_simp
        try with_reducible rfl
      try simp only [Act.put, List.getElem_toArray, List.getElem_cons_zero, List.getElem_cons_succ, List.setIfInBounds_toArray, List.set_cons_zero, List.set_cons_succ]
      refine wpAnyH_take (i := 8) (v := ?_) rfl (by kernel_rfl) (by kernel_rfl) (by kernel_rfl) (fun _ _ _ h => h) (Or.inl ⟨by rfl, ?_⟩) (by assumption) ?_
      rotate_left
      · intro w hSw
        try dsimp only at hSw
        go_simp
        try with_reducible rfl
      try simp only [Act.put, List.getElem_toArray, List.getElem_cons_zero, List.getElem_cons_succ, List.setIfInBounds_toArray, List.set_cons_zero, List.set_cons_succ]
      refine wpAnyH_take (i := 9) (v := ?_) rfl (by kernel_rfl) (by kernel_rfl) (by kernel_rfl) (fun _ _ _ h => h) (Or.inl ⟨by rfl, ?_⟩) (by assumption) ?_
      rotate_left
      · intro w hSw
        try dsimp only at hSw
        go_simp
        try with_reducible rfl
      try simp only [Act.put, List.getElem_toArray, List.getElem_cons_zero, List.getElem_cons_succ, List.setIfInBounds_toArray, List.set_cons_zero, List.set_cons_succ]
      refine wpAnyH_take (i := 10) (v := ?_) rfl (by kernel_rfl) (by kernel_rfl) (by kernel_rfl) (fun _ _ _ h => h) (Or.inl ⟨by rfl, ?_⟩) (by assumption) ?_
      rotate_left
      · intro w hSw
        try dsimp only at hSw
        go_simp
        try with_reducible rfl
      try simp only [Act.put, List.getElem_toArray, List.getElem_cons_zero, List.getElem_cons_succ, List.setIfInBounds_toArray, List.set_cons_zero, List.set_cons_succ]
      refine wpAnyH_take (i := 12) (v := ?_) rfl (by kernel_rfl) (by kernel_rfl) (by kernel_rfl) (fun _ _ _ h => h) (Or.inl ⟨by rfl, ?_⟩) (by assumption) ?_
      rotate_left
      · intro w hSw
        try dsimp only at hSw
        go_simp
        try with_reducible rfl
      try simp only [Act.put, List.getElem_toArray, List.getElem_cons_zero, List.getElem_cons_succ, List.setIfInBounds_toArray, List.set_cons_zero, List.set_cons_succ]
      refine wpAnyH_take (i := 13) (v := ?_) rfl (by kernel_rfl) (by kernel_rfl) (by kernel_rfl) (fun _ _ _ h => h) (Or.inl ⟨by rfl, ?_⟩) (by assumption) ?_
      rotate_left
      · intro w hSw
        try dsimp only at hSw
        go_simp
        try with_reducible rfl
      try simp only [Act.put, List.getElem_toArray, List.getElem_cons_zero, List.getElem_cons_succ, List.setIfInBounds_toArray, List.set_cons_zero, List.set_cons_succ]
      refine wpAnyH_ready (rs := [11]) (by kernel_rfl) (by simp) ?_
      refine AllReadyH.cons rfl (fun K hK => ?_) AllReadyH.nil
      go_simp
      (go_at_call 66; refine (htop.out _ hb2.out).mono ?_; rintro e w3 ⟨rfl, hb3⟩; replace hb3 : Below w1.heap.size w1 w3 := hb2.out.trans (hb3.mono hb2.out.size); obtain ⟨r0, r1⟩ := mv.out w1 w3 hb3 cc.out; replace hb3 := Aside0.mk hb3)
      refine hK.out _ _ ?_ (fun hHeld => ?_)
      · go_keep
      clear hK K
      try simp only [Act.put, List.getElem_toArray, List.getElem_cons_zero, List.getElem_cons_succ, List.setIfInBounds_toArray, List.set_cons_zero, List.set_cons_succ]
      refine wpAnyH_take (i := 14) (v := ?_) rfl (by kernel_rfl) (by kernel_rfl) (by kernel_rfl) (fun _ _ _ h => h) (Or.inl ⟨by rfl, ?_⟩) (by assumption) ?_
      rotate_left
      · intro w hSw
        try dsimp only at hSw
        go_simp
        try with_reducible rfl
      try simp only [Act.put, List.getElem_toArray, List.getElem_cons_zero, List.getElem_cons_succ, List.setIfInBounds_toArray, List.set_cons_zero, List.set_cons_succ]
      refine wpAnyH_take (i := 15) (v := ?_) rfl (by kernel_rfl) (by kernel_rfl) (by kernel_rfl) (fun _ _ _ h => h) (Or.inl ⟨by rfl, ?_⟩) (by assumption) ?_
      rotate_left
      · intro w hSw
        try dsimp only at hSw
        go_simp
        try with_reducible rfl
      try simp only [Act.put, List.getElem_toArray, List.getElem_cons_zero, List.getElem_cons_succ, List.setIfInBounds_toArray, List.set_cons_zero, List.set_cons_succ]
      refine wpAnyH_take (i := 16) (v := ?_) rfl (by kernel_rfl) (by kernel_rfl) (by kernel_rfl) (fun _ _ _ h => h) (Or.inl ⟨by rfl, ?_⟩) (by assumption) ?_
      rotate_left
      · intro w hSw
        try dsimp only at hSw
        go_simp
        try with_reducible rfl
      try simp only [Act.put, List.getElem_toArray, List.getElem_cons_zero, List.getElem_cons_succ, List.setIfInBounds_toArray, List.set_cons_zero, List.set_cons_succ]
      refine wpAnyH_done (by kernel_rfl) ?_ _
      go_wp2
      go_ret
      exact ⟨by simp, HX.out.2.trans (hb3.out.mono HX.out.2.size)⟩
end Go.Proofs.Ytljahhgankcalaa

/-! snap: either, Sees. -/
namespace Go.Proofs.Ytljahhgankcalaa
open Go.RowKit Go.Maps Go.MapKept Go.WideMaps Go.Shelf
open Go.Proofs.YtljahhgankcalaaW.PrintWords Go.Proofs.YtljahhgankcalaaW.PrintLast Go.Proofs.YtljahhgankcalaaW.PrintMore
set_option linter.unusedVariables false
set_option linter.unusedSimpArgs false

def vwV (at' me : Int) : Value := .agg #[.int .i64 at', .int .i64 me]
def ownV (at' me : Int) : Value := .func (.func 69) #[vwV at' me] #[]
def oldV (at' me : Int) : Value := .func (.func 96) #[vwV at' me] #[]

set_option maxRecDepth 100000 in
theorem either_calls (x g : Nat) (at' me : Int) (T : TT) (F : Nat → Prop) (w : World) (H : TabIs w x T F) (hOk : T.Ok) (id : Int)
    (hg : w.heap[g]? = some (.cells #[ownV at' me, oldV at' me] 119 (0, 0))) :
    Calls Try.prog 95 #[.pointer (some ⟨x, 0, none⟩), .int .i64 id, .slice (some ⟨g, 0, none⟩) 2 2] w fun e w' => e = .returned (.bool (T.sees at' me id)) ∧ Below w.heap.size w w' := by
  have hown := Aside0.mk (fun W (hb : Below w.heap.size w W) => vown_calls x at' me T F W (H.below hb) hOk id)
  have hold := Aside0.mk (fun W (hb : Below w.heap.size w W) => vold_calls x at' me T F W (H.below hb) hOk id)
  have hg' := Aside0.mk hg
  unfold TT.sees
  clear H hg
  go_enter Try.func95, Try.ntmps95
  go_wp2
  obtain ⟨w0, hw0⟩ : ∃ w0 : World, w0 = w := ⟨_, rfl⟩
  go_loopw [11] (fun v11 wr => ∃ i : Nat, i ≤ 2 ∧ v11 = .int .i64 i ∧ Aside0 (Below w.heap.size w wr) ∧ (0 < i → T.own me id = false) ∧ (1 < i → T.old at' id = false)) (fun v11 _ => 2 - (intOf v11).toNat)
  case atStart => exact ⟨0, by omega, rfl, ⟨Below.refl _ _⟩, by omega, by omega⟩
  case round =>
    obtain ⟨i, hi, rfl, hB, h1, h2⟩ := hrel
    have hgr := blk_below hg'.out hB.out
    have hcase : i = 0 ∨ i = 1 ∨ i = 2 := by omega
    rcases hcase with rfl | rfl | rfl
    · have q0 := blk_cell hgr 0
      simp at q0
      clear hgr h1 h2 hi
      cases ho : T.own me id with
      | true =>
        have hc := hown.out wr hB.out
        rw [ho] at hc
        have HO := Aside0.mk ho
        clear ho
        simp only [ownV, vwV] at q0
        go_wp2_with (go_at_call 69; refine hc.mono ?_; clear hc; rintro e w1 ⟨rfl, b1⟩)
        go_ret
        exact ⟨by simp [HO.out], hB.out.trans (b1.mono hB.out.size)⟩
      | false =>
        have hc := hown.out wr hB.out
        rw [ho] at hc
        have HO := Aside0.mk ho
        clear ho
        simp only [ownV, vwV] at q0
        go_wp2_with (go_at_call 69; refine hc.mono ?_; clear hc; rintro e w1 ⟨rfl, b1⟩)
        go_roundw
        case measure => simp [intOf]
        case rel => exact ⟨1, by omega, by go_num, ⟨hB.out.trans (b1.mono hB.out.size)⟩, fun _ => by first | trivial | exact HO.out, by omega⟩
    · have q1 := blk_cell hgr 1
      simp at q1
      have HO := Aside0.mk (h1 (by omega))
      clear hgr h1 h2 hi
      cases ho : T.old at' id with
      | true =>
        have hc := hold.out wr hB.out
        rw [ho] at hc
        have HP := Aside0.mk ho
        clear ho
        simp only [oldV, vwV] at q1
        go_wp2_with (go_at_call 96; refine hc.mono ?_; clear hc; rintro e w1 ⟨rfl, b1⟩)
        go_ret
        exact ⟨by simp [HP.out], hB.out.trans (b1.mono hB.out.size)⟩
      | false =>
        have hc := hold.out wr hB.out
        rw [ho] at hc
        have HP := Aside0.mk ho
        clear ho
        simp only [oldV, vwV] at q1
        go_wp2_with (go_at_call 96; refine hc.mono ?_; clear hc; rintro e w1 ⟨rfl, b1⟩)
        go_roundw
        case measure => simp [intOf]
        case rel => exact ⟨2, by omega, by go_num, ⟨hB.out.trans (b1.mono hB.out.size)⟩, fun _ => by first | trivial | exact HO.out, fun _ => by first | trivial | exact HP.out⟩
    · have HO := Aside0.mk (And.intro (h1 (by omega)) (h2 (by omega)))
      clear hgr h1 h2 hi
      go_wp2
      go_ret
      exact ⟨by rw [HO.out.1, HO.out.2]; rfl, hB.out⟩

set_option maxRecDepth 100000 in
theorem sees_calls (x : Nat) (at' me : Int) (T : TT) (F : Nat → Prop) (w : World) (H : TabIs w x T F) (hOk : T.Ok) (id : Int) :
    Calls Try.prog 73 #[.agg #[.int .i64 at', .int .i64 me], .pointer (some ⟨x, 0, none⟩), .int .i64 id] w fun e w' => e = .returned (.bool (T.sees at' me id)) ∧ Below w.heap.size w w' := by
  have B1 : Below w.heap.size w ((w.alloc (.cells #[.int .i64 at', .int .i64 me] 52)).alloc (.cells #[ownV at' me, oldV at' me] 119)) := ((Below.refl _ w).alloc (Nat.le_refl _) _).alloc (by simp) _
  have hei := either_calls x (w.heap.size + 1) at' me T F _ (H.below B1) hOk id (by
    have := blk_new (w.alloc (.cells #[.int .i64 at', .int .i64 me] 52)) (.cells #[ownV at' me, oldV at' me] 119)
    rw [World.size_alloc] at this
    exact this)
  replace B1 := Aside0.mk B1
  simp only [ownV, oldV, vwV] at hei B1
  clear H
  go_enter Try.func73, Try.ntmps73
  go_wp2_with (go_at_call 95; refine hei.mono ?_; clear hei; rintro e w1 ⟨rfl, b1⟩)
  go_ret
  exact ⟨rfl, B1.out.trans (b1.mono B1.out.size)⟩
end Go.Proofs.Ytljahhgankcalaa

/-! sight.versions: a row's versions, the last one first: the iterator. -/
namespace Go.Proofs.Ytljahhgankcalaa
open Go.RowKit Go.Maps Go.MapKept Go.WideMaps Go.Shelf
open Go.Proofs.YtljahhgankcalaaW.PrintWords Go.Proofs.YtljahhgankcalaaW.PrintLast Go.Proofs.YtljahhgankcalaaW.PrintMore
attribute [local go_sem] Oper.semAt_some
set_option linter.unusedVariables false
set_option linter.unusedSimpArgs false

/-- A version that is handed on: its slot; where the copy of its row lies. -/
structure Ver (A : AH) where
  slot : Int
  a : Option Addr
  n : Nat
  c : Nat
  there : A.there slot = true
def tupV (t : ATup) (a : Option Addr) (n c : Nat) : Value := .agg #[.int .i64 t.f0, .int .i64 t.f1, .int .i64 t.f2, .int .i64 t.f3, .int .i64 t.f4, .int .i64 t.f5, .slice a n c]
def Ver.enc {A : AH} (p : Ver A) : Array Value := #[.int .i64 p.slot, tupV (A.at p.slot) p.a p.n p.c]
def versOf {A : AH} (l : List (Ver A)) : List Int := l.map (fun p => p.slot)
theorem versOf_more {A : AH} (l : List (Ver A)) (p : Ver A) : versOf (l ++ [p]) = versOf l ++ [p.slot] := by simp [versOf]
theorem versOf_len {A : AH} (l : List (Ver A)) : (versOf l).length = l.length := by simp [versOf]

/-- Rows of tuples are short. -/
def AH.Low (A : AH) : Prop := ∀ s, (A.at s).f6.length < 3518437208883

theorem versions_calls (h : Nat) (no id : Int) (A : AH) (F : Nat → Prop) (w : World) (H : HeapIs w h A F) (ho : okW (no, id)) (hl : (A.rows (no, id)).length < 17592186044000) :
    Calls Try.prog 70 #[.pointer (some ⟨h, 0, none⟩), .int .i64 no, .int .i64 id] w fun e w' => ∃ bl bh v, e = .returned (.func (.func 94) #[] #[.pointer (some ⟨bl, 0, none⟩), .pointer (some ⟨bh, 0, none⟩)]) ∧
      w.heap.size ≤ bl ∧ w.heap.size ≤ bh ∧ bl ≠ bh ∧ Boxed w' bl 53 v ∧ Boxed w' bh 25 (.pointer (some ⟨h, 0, none⟩)) ∧ Kd.R kInt 3 w' w.heap.size (fun k => k ≠ bl ∧ k ≠ bh) v (A.rows (no, id)) ∧ Below w.heap.size w w' := by
  have B0 : Below w.heap.size w (w.alloc (.cells #[.pointer (some ⟨h, 0, none⟩)] 25)) := (Below.refl _ w).alloc (Nat.le_refl _) _
  have b0 := Boxed.new w 25 (.pointer (some ⟨h, 0, none⟩))
  have hs := slots_calls h no id A F _ (H.below B0) ho hl
  have c0 := b0.cell
  obtain ⟨w1, hw1⟩ : ∃ w1, w.alloc (.cells #[.pointer (some ⟨h, 0, none⟩)] 25) = w1 := ⟨_, rfl⟩
  have hsz : w1.heap.size = w.heap.size + 1 := by rw [← hw1]; simp
  rw [hw1] at hs B0 b0 c0
  have HX := Aside0.mk (And.intro B0 (And.intro b0 hw1))
  clear H B0 b0 hw1 ho hl
  go_enter Try.func70, Try.ntmps70
  go_upto_region 1 with (fail)
  rw [HX.out.2.2]
  go_wp2_with (go_at_call 37; refine hs.mono ?_; clear hs; rintro e w2 ⟨v, rfl, hr, b2⟩; obtain ⟨a, c, hv⟩ := Kd.R_slice hr; subst hv; replace hr := Aside0.mk hr; replace b2 := Aside0.mk b2)
  go_ret
  have h2 := b2.out.size
  refine ⟨w2.heap.size, w.heap.size, _, rfl, by omega, Nat.le_refl _, by omega, Boxed.new w2 _ _, ?_, ?_, ?_⟩
  · exact Boxed.alloc (show w2.heap[w.heap.size]? = _ from (b2.out.block _ (by omega)).trans HX.out.2.1) _
  · refine Kd.R_lower (Kd.R_mono (Kd.R_below (Kd.R_bound hr.out) ((Below.refl _ w2).alloc (Nat.le_refl _) _)) (fun k hk => ?_)) (by omega : w.heap.size ≤ w1.heap.size)
    have h3 := hk.2.1
    have h4 := hk.2.2.1
    exact ⟨by omega, by omega⟩
  · exact (HX.out.1.trans (b2.out.mono HX.out.1.size)).alloc (by omega) _
end Go.Proofs.Ytljahhgankcalaa

/-! sight.versions: the iterator's rounds. -/
namespace Go.Proofs.Ytljahhgankcalaa
open Go.RowKit Go.Maps Go.MapKept Go.WideMaps Go.Shelf
open Go.Proofs.YtljahhgankcalaaW.PrintWords Go.Proofs.YtljahhgankcalaaW.PrintLast Go.Proofs.YtljahhgankcalaaW.PrintMore
attribute [local go_sem] Oper.semAt_some
set_option linter.unusedVariables false
set_option linter.unusedSimpArgs false

theorem rev_take {l : List Int} {i q : Nat} (hq : q + i + 1 = l.length) : l.reverse.take (i + 1) = l.reverse.take i ++ [l[q]'(by omega)] := by
  rw [List.take_add_one, List.getElem?_reverse (by omega)]
  rw [show l.length - 1 - i = q from by omega, List.getElem?_eq_getElem (by omega)]
  rfl

theorem lt_of_sum {q i n : Nat} (h : q + i + 1 = n) : i < n := by omega
theorem meas_step {n i : Nat} (h : i < n) : n - (intOf (.int .i64 ((i : Int) + 1))).toNat < n - (intOf (.int .i64 (i : Int))).toNat := by
  simp only [intOf]
  omega

set_option maxRecDepth 100000 in
set_option maxHeartbeats 2000000 in
theorem versions1_seq (h bl bh : Nat) (R : List Int) (A : AH) (F Sb okr : Nat → Prop) (base : Nat) (w : World) (v : Value) (H : HeapIs w h A F) (hL : A.Low) (hth : ∀ s ∈ R, A.there s = true)
    (hbl : Boxed w bl 53 v) (hbh : Boxed w bh 25 (.pointer (some ⟨h, 0, none⟩))) (hr : Kd.R kInt 3 w base okr v R)
    (hS : ∀ k, F k → ¬ Sb k) (hSl : ¬ Sb bl) (hSh : ¬ Sb bh) (hSr : ∀ k, okr k → k < w.heap.size → ¬ Sb k) (n : Nat) (hn : 3 ≤ n) :
    SeqV Fence.wide n Try.prog 94 #[.pointer (some ⟨bl, 0, none⟩), .pointer (some ⟨bh, 0, none⟩)] (fun p : Ver A => p.enc) (fun X Y => Chg X Y (fun _ => False)) (fun X Y => Chg X Y Sb) (fun xs => versOf xs = R.reverse) (fun pre => versOf pre <+: R.reverse) R.length w := by
  intro l J Jx W hB hJ hJx hY h0
  have hn1 : 1 ≤ n := by omega
  have HH := H.below hB
  have hl := blk_below hbl hB
  have hh := blk_below hbh hB
  have hR := Kd.R_mono (Kd.R_below (Kd.R_bound hr) hB) (ok' := fun k => okr k ∧ ¬ Sb k) (fun k hk => ⟨hk.1, hSr k hk.1 hk.2.2.1⟩)
  obtain ⟨a, c, hv, hc, hC⟩ := Kd.R_reads hR
  subst hv
  have hmax : R.length ≤ 9223372036854775807 := hC.2.1
  have cl := one_cell hl
  clear H hbl hbh hr hC
  refine callsIn_of_wp Try.func94 rfl trivial ?_ rfl
  simp only [Try.ntmps94, List.size_toArray, List.length_cons, List.length_nil, Nat.reduceAdd, Nat.reduceSub, Array.replicate_succ, Array.replicate_zero, List.push_toArray, List.append_toArray, List.nil_append, List.cons_append]
  gi_wp2
  gi_loopw [10] (fun v10 wr => ∃ (i : Nat) (pre : List (Ver A)), i ≤ R.length ∧ v10 = .int .i64 i ∧ Aside0 (versOf pre = R.reverse.take i) ∧ Aside0 (HeapIs wr h A F) ∧ Aside0 (wr.heap[bl]? = some (.cells #[.slice a R.length c] 53 (0, 0))) ∧ Aside0 (wr.heap[bh]? = some (.cells #[.pointer (some ⟨h, 0, none⟩)] 25 (0, 0))) ∧ Aside0 (Kd.R kInt 3 wr base (fun k => okr k ∧ ¬ Sb k) (.slice a R.length c) R) ∧ Aside0 (J pre wr))
    (fun v10 _ => R.length - (intOf v10).toNat)
  case atStart => exact ⟨0, [], Nat.zero_le _, rfl, ⟨by simp [versOf]⟩, ⟨HH⟩, ⟨hl⟩, ⟨hh⟩, ⟨hR⟩, ⟨h0⟩⟩
  case round =>
    obtain ⟨i, pre, hi, rfl, hpre, HH, hl, hh, hR, hj⟩ := hrel
    by_cases hlt : i < R.length
    · obtain ⟨q, hq⟩ : ∃ q, q + i + 1 = R.length := ⟨R.length - 1 - i, by omega⟩
      have d1 : decide ((i : Int) < (R.length : Int)) = true := decide_eq_true (by omega)
      have d1b : decide (i < R.length) = true := decide_eq_true hlt
      have w1 : IntKind.wrap .i64 ((R.length : Int) - 1) = (q : Int) + (i : Int) := by rw [IntKind.wrap_i64]; omega
      have w2 : IntKind.wrap .i64 ((q : Int) + (i : Int) - (i : Int)) = (q : Int) := by rw [IntKind.wrap_i64]; omega
      have d2 : (0 : Int) ≤ (q : Int) := by omega
      have HI := Aside0.mk (show wrap64 ((i : Int) + 1) = (i : Int) + 1 from by unfold wrap64; omega)
      have d3 : (q : Int) < (R.length : Int) := by omega
      obtain ⟨s, hs⟩ : ∃ s, R[q]'(by omega) = s := ⟨_, rfl⟩
      have hsm : s ∈ R := by rw [← hs]; exact List.getElem_mem _
      have hst := hth s hsm
      obtain ⟨ad, e1, y0⟩ := Kd.at_int (Kd.R_reads' hR.out).2.2 (q : Int) d2 d3
      have hrd : Go.Proofs.YtljahhgankcalaaW.PrintWords.rd R (q : Int) = s := by
        unfold Go.Proofs.YtljahhgankcalaaW.PrintWords.rd
        rw [← hs]
        simp [List.getD_eq_getElem?_getD]
        rw [List.getElem?_eq_getElem (by omega)]
        rfl
      rw [hrd, Int.toNat_natCast] at y0
      subst e1
      have cl := one_cell hl.out
      have ch := one_cell hh.out
      have hat := at_calls h s A F wr HH.out (hL s)
      rw [show A.atE s = A.at s from by unfold AH.atE; rw [if_pos hst], hst] at hat
      have htk := rev_take (l := R) (i := i) (q := q) hq
      rw [hs] at htk
      have HX := Aside0.mk (And.intro hst (And.intro htk hq))
      clear hs hsm hst hrd htk hlt hq
      gi_wp2_with (refine ⟨trivial, ?_⟩; gi_at_call 17; refine (callsIn_wide.2 hat).mono ?_; clear hat; rintro e w4 ⟨v4, rfl, hv4, b4⟩; obtain ⟨a4, c4, e4⟩ := Kd.R_slice hv4; subst e4; have B5 : Chg wr (w4.alloc (.cells #[.int .i64 (A.at s).f0, .int .i64 (A.at s).f1, .int .i64 (A.at s).f2, .int .i64 (A.at s).f3, .int .i64 (A.at s).f4, .int .i64 (A.at s).f5, .slice a4 (A.at s).f6.length c4] 39)) (fun _ => False) := (Chg.of_below b4 _).alloc _; obtain ⟨fn, tmps, assign, body, hy, hRR⟩ := hY pre ⟨s, a4, (A.at s).f6.length, c4, HX.out.1⟩ _ (hJ _ _ _ hj.out B5) (by have := congrArg List.length hpre.out; rw [versOf_len, List.length_take, List.length_reverse] at this; have := HX.out.2.2; omega); simp only [Ver.enc, tupV] at hy; replace B5 := Aside0.mk B5; clear b4 hv4)
      refine hRR.mono ?_
      rintro e W3 (⟨rfl, hJ3, hk3⟩ | ⟨rfl, hJx3⟩)
      · have HH3 := Aside0.mk ((HH.out.chg B5.out (fun _ _ h => h)).chg hk3 hS)
        have hl3 := Aside0.mk (hk3.obj (B5.out.obj hl.out (fun h => h)) hSl)
        have hh3 := Aside0.mk (hk3.obj (B5.out.obj hh.out (fun h => h)) hSh)
        have hR3 := Aside0.mk (R_chg (R_chg hR.out B5.out (fun _ _ _ _ _ _ h => h)) hk3 (fun k _ _ hk _ _ => hk.2))
        gi_wp2
        go_roundw
        case measure => rw [HI.out]; exact meas_step (lt_of_sum HX.out.2.2)
        case rel =>
          have hq2 := HX.out.2.2
          refine ⟨i + 1, _, (by omega), (by rw [HI.out]; simp), ⟨?_⟩, HH3, hl3, hh3, hR3, ⟨hJ3⟩⟩
          rw [versOf_more, hpre.out]
          exact HX.out.2.1.symm
      · gi_wp2
        refine bodyPost_ret (results_none rfl _ _ _) rfl ?_
        refine ⟨⟨_, rfl⟩, .inr ⟨_, ?_, hJx3⟩⟩
        rw [versOf_more, hpre.out]
        show List.take i R.reverse ++ [s] <+: R.reverse
        have h5 := HX.out.2.1
        have h6 : List.take (i + 1) R.reverse <+: R.reverse := List.take_prefix _ _
        exact h5 ▸ h6
    · have d1 : decide ((i : Int) < (R.length : Int)) = false := decide_eq_false (by omega)
      have d1b : decide (i < R.length) = false := decide_eq_false hlt
      have hie : i = R.length := by omega
      clear hlt
      have HP := Aside0.mk (show versOf pre = R.reverse from by rw [hpre.out, hie]; exact List.take_of_length_le (by simp))
      gi_wp2
      go_end0
      exact ⟨⟨_, rfl⟩, .inl ⟨pre, HP.out, hj.out⟩⟩
end Go.Proofs.Ytljahhgankcalaa

/-! sight: the closures that ask who did something; ended. Printed by gensee.py. -/
namespace Go.Proofs.Ytljahhgankcalaa
open Go.RowKit Go.Maps Go.MapKept Go.WideMaps Go.Shelf
open Go.Proofs.YtljahhgankcalaaW.PrintWords Go.Proofs.YtljahhgankcalaaW.PrintLast Go.Proofs.YtljahhgankcalaaW.PrintMore
set_option linter.unusedVariables false
set_option linter.unusedSimpArgs false

theorem own1_calls (bv bx x : Nat) (at' me : Int) (T : TT) (F : Nat → Prop) (w : World) (H : TabIs w x T F) (hOk : T.Ok) (hbv : w.heap[bv]? = some (.cells #[.int .i64 at', .int .i64 me] 52 (0, 0)))
    (hbx : w.heap[bx]? = some (.cells #[.pointer (some ⟨x, 0, none⟩)] 46 (0, 0))) (id : Int) :
    Calls Try.prog 68 #[.int .i64 id, .pointer (some ⟨bv, 0, none⟩), .pointer (some ⟨bx, 0, none⟩)] w fun e w' => e = .returned (.bool (T.own me id)) ∧ Below w.heap.size w w' := by
  have hc := vown_calls x at' me T F w H hOk id
  have c1 := one_cell hbx
  have c2 := blk_cell hbv 0
  have c3 := blk_cell hbv 1
  simp at c2 c3
  clear H hbx
  go_enter Try.func68, Try.ntmps68
  go_wp2_with (go_at_call 69; refine hc.mono ?_; clear hc; rintro e w1 ⟨rfl, b1⟩)
  go_ret
  exact ⟨rfl, b1⟩

theorem seen1_calls (bv bx x : Nat) (at' me : Int) (T : TT) (F : Nat → Prop) (w : World) (H : TabIs w x T F) (hOk : T.Ok) (hbv : w.heap[bv]? = some (.cells #[.int .i64 at', .int .i64 me] 52 (0, 0)))
    (hbx : w.heap[bx]? = some (.cells #[.pointer (some ⟨x, 0, none⟩)] 46 (0, 0))) (id : Int) :
    Calls Try.prog 72 #[.int .i64 id, .pointer (some ⟨bv, 0, none⟩), .pointer (some ⟨bx, 0, none⟩)] w fun e w' => e = .returned (.bool (T.sees at' me id)) ∧ Below w.heap.size w w' := by
  have hc := sees_calls x at' me T F w H hOk id
  have c1 := one_cell hbx
  have c2 := blk_cell hbv 0
  have c3 := blk_cell hbv 1
  simp at c2 c3
  clear H hbx
  go_enter Try.func72, Try.ntmps72
  go_wp2_with (go_at_call 73; refine hc.mono ?_; clear hc; rintro e w1 ⟨rfl, b1⟩)
  go_ret
  exact ⟨rfl, b1⟩

theorem seen2_calls (bv bx x : Nat) (at' me : Int) (T : TT) (F : Nat → Prop) (w : World) (H : TabIs w x T F) (hOk : T.Ok) (hbv : w.heap[bv]? = some (.cells #[.int .i64 at', .int .i64 me] 52 (0, 0)))
    (hbx : w.heap[bx]? = some (.cells #[.pointer (some ⟨x, 0, none⟩)] 46 (0, 0))) (id : Int) :
    Calls Try.prog 74 #[.int .i64 id, .pointer (some ⟨bv, 0, none⟩), .pointer (some ⟨bx, 0, none⟩)] w fun e w' => e = .returned (.bool (T.own me id)) ∧ Below w.heap.size w w' := by
  have hc := vown_calls x at' me T F w H hOk id
  have c1 := one_cell hbx
  have c2 := blk_cell hbv 0
  have c3 := blk_cell hbv 1
  simp at c2 c3
  clear H hbx
  go_enter Try.func74, Try.ntmps74
  go_wp2_with (go_at_call 69; refine hc.mono ?_; clear hc; rintro e w1 ⟨rfl, b1⟩)
  go_ret
  exact ⟨rfl, b1⟩

theorem ended_own1 (t : ATup) (a : Option Addr) (n c b1 b2 : Nat) (b : Bool) (w : World)
    (hc : t.f4 ≠ 0 → ∀ W, Below w.heap.size w W → Calls Try.prog 68 #[.int .i64 t.f4, .pointer (some ⟨b1, 0, none⟩), .pointer (some ⟨b2, 0, none⟩)] W fun e w' => e = .returned (.bool b) ∧ Below W.heap.size W w') :
    Calls Try.prog 71 #[tupV t a n c, .func (.func 68) #[] #[.pointer (some ⟨b1, 0, none⟩), .pointer (some ⟨b2, 0, none⟩)]] w fun e w' => e = .returned (.bool (decide (t.f4 ≠ 0) && b)) ∧ Below w.heap.size w w' := by
  have B0 : Below w.heap.size w (w.alloc (.cells #[.int .i64 t.f0, .int .i64 t.f1, .int .i64 t.f2, .int .i64 t.f3, .int .i64 t.f4, .int .i64 t.f5, .slice a n c] 39)) := (Below.refl _ w).alloc (Nat.le_refl _) _
  replace B0 := Aside0.mk B0
  unfold tupV
  generalize t.f4 = x4 at hc B0 ⊢
  by_cases h4 : x4 = 0
  · have d : (x4 != 0) = false := by rw [h4]; rfl
    rw [decide_eq_false (fun h => h h4)]
    clear hc h4
    go_enter Try.func71, Try.ntmps71
    go_wp2
    go_ret
    exact ⟨by simp, B0.out⟩
  · have d : (x4 != 0) = true := by rw [bne, beq_eq_false_iff_ne.2 h4]; rfl
    rw [decide_eq_true h4]
    have hc1 := hc h4 _ B0.out
    clear hc h4
    go_enter Try.func71, Try.ntmps71
    go_wp2_with (go_at_call 68; refine hc1.mono ?_; clear hc1; rintro e w1 ⟨rfl, h1⟩)
    go_ret
    exact ⟨by simp, B0.out.trans (h1.mono B0.out.size)⟩

theorem ended_seen1 (t : ATup) (a : Option Addr) (n c b1 b2 : Nat) (b : Bool) (w : World)
    (hc : t.f4 ≠ 0 → ∀ W, Below w.heap.size w W → Calls Try.prog 72 #[.int .i64 t.f4, .pointer (some ⟨b1, 0, none⟩), .pointer (some ⟨b2, 0, none⟩)] W fun e w' => e = .returned (.bool b) ∧ Below W.heap.size W w') :
    Calls Try.prog 71 #[tupV t a n c, .func (.func 72) #[] #[.pointer (some ⟨b1, 0, none⟩), .pointer (some ⟨b2, 0, none⟩)]] w fun e w' => e = .returned (.bool (decide (t.f4 ≠ 0) && b)) ∧ Below w.heap.size w w' := by
  have B0 : Below w.heap.size w (w.alloc (.cells #[.int .i64 t.f0, .int .i64 t.f1, .int .i64 t.f2, .int .i64 t.f3, .int .i64 t.f4, .int .i64 t.f5, .slice a n c] 39)) := (Below.refl _ w).alloc (Nat.le_refl _) _
  replace B0 := Aside0.mk B0
  unfold tupV
  generalize t.f4 = x4 at hc B0 ⊢
  by_cases h4 : x4 = 0
  · have d : (x4 != 0) = false := by rw [h4]; rfl
    rw [decide_eq_false (fun h => h h4)]
    clear hc h4
    go_enter Try.func71, Try.ntmps71
    go_wp2
    go_ret
    exact ⟨by simp, B0.out⟩
  · have d : (x4 != 0) = true := by rw [bne, beq_eq_false_iff_ne.2 h4]; rfl
    rw [decide_eq_true h4]
    have hc1 := hc h4 _ B0.out
    clear hc h4
    go_enter Try.func71, Try.ntmps71
    go_wp2_with (go_at_call 72; refine hc1.mono ?_; clear hc1; rintro e w1 ⟨rfl, h1⟩)
    go_ret
    exact ⟨by simp, B0.out.trans (h1.mono B0.out.size)⟩

theorem ended_seen2 (t : ATup) (a : Option Addr) (n c b1 b2 : Nat) (b : Bool) (w : World)
    (hc : t.f4 ≠ 0 → ∀ W, Below w.heap.size w W → Calls Try.prog 74 #[.int .i64 t.f4, .pointer (some ⟨b1, 0, none⟩), .pointer (some ⟨b2, 0, none⟩)] W fun e w' => e = .returned (.bool b) ∧ Below W.heap.size W w') :
    Calls Try.prog 71 #[tupV t a n c, .func (.func 74) #[] #[.pointer (some ⟨b1, 0, none⟩), .pointer (some ⟨b2, 0, none⟩)]] w fun e w' => e = .returned (.bool (decide (t.f4 ≠ 0) && b)) ∧ Below w.heap.size w w' := by
  have B0 : Below w.heap.size w (w.alloc (.cells #[.int .i64 t.f0, .int .i64 t.f1, .int .i64 t.f2, .int .i64 t.f3, .int .i64 t.f4, .int .i64 t.f5, .slice a n c] 39)) := (Below.refl _ w).alloc (Nat.le_refl _) _
  replace B0 := Aside0.mk B0
  unfold tupV
  generalize t.f4 = x4 at hc B0 ⊢
  by_cases h4 : x4 = 0
  · have d : (x4 != 0) = false := by rw [h4]; rfl
    rw [decide_eq_false (fun h => h h4)]
    clear hc h4
    go_enter Try.func71, Try.ntmps71
    go_wp2
    go_ret
    exact ⟨by simp, B0.out⟩
  · have d : (x4 != 0) = true := by rw [bne, beq_eq_false_iff_ne.2 h4]; rfl
    rw [decide_eq_true h4]
    have hc1 := hc h4 _ B0.out
    clear hc h4
    go_enter Try.func71, Try.ntmps71
    go_wp2_with (go_at_call 74; refine hc1.mono ?_; clear hc1; rintro e w1 ⟨rfl, h1⟩)
    go_ret
    exact ⟨by simp, B0.out.trans (h1.mono B0.out.size)⟩

theorem ended_dead1 (t : ATup) (a : Option Addr) (n c b1 b2 : Nat) (b : Bool) (w : World)
    (hc : t.f4 ≠ 0 → ∀ W, Below w.heap.size w W → Calls Try.prog 75 #[.int .i64 t.f4, .pointer (some ⟨b1, 0, none⟩), .pointer (some ⟨b2, 0, none⟩)] W fun e w' => e = .returned (.bool b) ∧ Below W.heap.size W w') :
    Calls Try.prog 71 #[tupV t a n c, .func (.func 75) #[] #[.pointer (some ⟨b1, 0, none⟩), .pointer (some ⟨b2, 0, none⟩)]] w fun e w' => e = .returned (.bool (decide (t.f4 ≠ 0) && b)) ∧ Below w.heap.size w w' := by
  have B0 : Below w.heap.size w (w.alloc (.cells #[.int .i64 t.f0, .int .i64 t.f1, .int .i64 t.f2, .int .i64 t.f3, .int .i64 t.f4, .int .i64 t.f5, .slice a n c] 39)) := (Below.refl _ w).alloc (Nat.le_refl _) _
  replace B0 := Aside0.mk B0
  unfold tupV
  generalize t.f4 = x4 at hc B0 ⊢
  by_cases h4 : x4 = 0
  · have d : (x4 != 0) = false := by rw [h4]; rfl
    rw [decide_eq_false (fun h => h h4)]
    clear hc h4
    go_enter Try.func71, Try.ntmps71
    go_wp2
    go_ret
    exact ⟨by simp, B0.out⟩
  · have d : (x4 != 0) = true := by rw [bne, beq_eq_false_iff_ne.2 h4]; rfl
    rw [decide_eq_true h4]
    have hc1 := hc h4 _ B0.out
    clear hc h4
    go_enter Try.func71, Try.ntmps71
    go_wp2_with (go_at_call 75; refine hc1.mono ?_; clear hc1; rintro e w1 ⟨rfl, h1⟩)
    go_ret
    exact ⟨by simp, B0.out.trans (h1.mono B0.out.size)⟩
end Go.Proofs.Ytljahhgankcalaa

import Derived.Test.YtljahhgankcalaaGeM
/-! covenantlaw12: awake, the example. Printed by gengf.py. -/
namespace Go.Proofs.Ytljahhgankcalaa
open Go.RowKit Go.Maps Go.MapKept Go.WideMaps Go.Shelf
open Go.Proofs.YtljahhgankcalaaW.PrintWords Go.Proofs.YtljahhgankcalaaW.PrintLast Go.Proofs.YtljahhgankcalaaW.PrintMore
set_option linter.unusedVariables false
set_option linter.unusedSimpArgs false

namespace Aw
def T1 : TT := (TT.empty.begin 0).2.2
def T2 : TT := (T1.begin 0).2.2
def A1 : AH := (AH.empty.writes T2 1 1 1 10).2
def T3 : TT := (T2.commit 1).2
def A2 : AH := (A1.writes T3 2 2 1 20).2
def T4 : TT := (T3.commit 2).2
theorem b1 : (TT.empty.begin 0).1 = 1 ∧ (TT.empty.begin 0).2.1 = 0 := by decide +kernel
theorem b2 : (T1.begin 0).1 = 2 ∧ (T1.begin 0).2.1 = 0 := by decide +kernel
theorem w1 : (AH.empty.writes T2 1 1 1 10).1 = true := by decide +kernel
theorem c1 : (T2.commit 1).1 = 0 := by decide +kernel
theorem w2 : (A1.writes T3 2 2 1 20).1 = true := by decide +kernel
theorem l3 : T3.last = 1 := by decide +kernel
theorem s1 : A2.says T3 1 0 1 = 10 := by decide +kernel
theorem s2 : A2.says T3 1 2 1 = 20 := by decide +kernel
theorem f1 : A2.fresh T3 1 0 1 1 = true := by decide +kernel
theorem c2 : (T3.commit 2).1 = 0 := by decide +kernel
theorem l4 : T4.last = 2 := by decide +kernel
theorem s3 : A2.says T4 1 0 1 = 10 := by decide +kernel
theorem s4 : A2.says T4 2 0 1 = 20 := by decide +kernel
theorem f2 : A2.fresh T4 1 0 1 1 = false := by decide +kernel
end Aw

section
variable {w0 wq w : World} {b h x : Nat} {A : AH} {T : TT} {k : Nat}
/-- A transaction is committed; a block that was made since stands. -/
theorem SgW.commit_keep (H : SgW w0 wq b h x A T k) (hb : Below wq.heap.size wq w) (hk : k < 2147483648) (id : Int) {o : Nat} {c : Obj} (ho : wq.heap.size ≤ o) (hc : w.heap[o]? = some c) :
    Calls Try.prog 24 #[.pointer (some ⟨x, 0, none⟩), .int .i64 id] w fun e w' => e = .returned (.int .i64 (T.commit id).1) ∧ SgW w0 w' b h x A (T.commit id).2 (k + 1) ∧ w'.heap[o]? = some c := by
  obtain ⟨F, Fx, H, hw, n1, n2, n3, _⟩ := H
  have H2 := H.below hb
  refine (commit_calls x T Fx w H2.tab H2.tok (by have := H2.tlen; omega) (by have := H2.tlast; omega) id).mono ?_
  rintro e w' ⟨rfl, h1, h2⟩
  have hl := T.commit_len H.tok id
  have hw2 := blk_below hw hb
  exact ⟨rfl, ⟨_, _, H2.tabbed (ext_tab h1 h2.size) h2 (H.tok.commit id) (by have := H2.tlen; omega) (by have := H2.tlast; omega), h2.obj hw2 n2, n1, ext_old (blk_lt hw2) n2, n3, fun _ h => h.elim⟩, h2.obj hc (fun e => by have := H.tab.bound o e; omega)⟩
theorem SgW.start (w : World) {w1 w2 : World} {h : Nat} (h1 : HeapIs w1 h AH.empty (ext (fun _ => False) w w1)) (b1 : Below w.heap.size w w1) (t2 : TabIs w2 w1.heap.size TT.empty (fun k => k = w1.heap.size)) (b2 : Below w1.heap.size w1 w2) :
    SgW w (w2.alloc (.cells #[.pointer (some ⟨h, 0, none⟩), .pointer (some ⟨w1.heap.size, 0, none⟩), .slice none 0 0] 49)) w2.heap.size h w1.heap.size AH.empty TT.empty 0 := by
  have hs1 := b1.size
  have hs2 := b2.size
  have b3 : Below w2.heap.size w2 (w2.alloc (.cells #[.pointer (some ⟨h, 0, none⟩), .pointer (some ⟨w1.heap.size, 0, none⟩), .slice none 0 0] 49)) := (Below.refl _ w2).alloc (Nat.le_refl _) _
  have hxl := t2.bound _ t2.hF
  refine ⟨ext (fun _ => False) w w1, fun k => k = w1.heap.size, ⟨(h1.below b2).below b3, t2.below b3, ?_, ?_, ?_, ?_, AH.empty_ok, ?_, by simp [AH.empty], AH.empty_lim (by decide), by simp [TT.empty], by simp [TT.empty]⟩, blk_new w2 _, ?_, ?_, by omega, fun _ h => h.elim⟩
  · rintro k (hk | hk) e
    · exact hk
    · have := hk.2
      omega
  · rintro k (hk | hk)
    · exact hk.elim
    · exact hk.1
  · rintro k hk
    have : k = w1.heap.size := hk
    omega
  · exact (b1.trans (b2.mono hs1)).trans (b3.mono (by omega))
  · exact ⟨fun i hi => by simp [TT.empty] at hi, by simp [TT.empty]⟩
  · rintro (hk | hk)
    · exact hk
    · have := hk.2
      omega
  · intro e
    have : w2.heap.size = w1.heap.size := e
    omega
theorem SgW.says {K : Nat → Prop} {wk : World} (H : SgW w0 w b h x A T k K wk) (hk : k < 2147483648) (at' me : Int) :
    Calls Try.prog 27 #[.pointer (some ⟨b, 0, none⟩), .agg #[.int .i64 at', .int .i64 me], .int .i64 1] w fun e w' => e = .returned (.int .i64 (A.says T at' me 1)) ∧ Below w.heap.size w w' := by
  obtain ⟨F, Fx, L⟩ := H.look hk
  exact wseen_calls b h x at' me 1 A T F Fx w L H.wr okI_one
theorem SgW.fresh {K : Nat → Prop} {wk : World} (H : SgW w0 w b h x A T k K wk) (hk : k < 2147483648) (at' me : Int) :
    Calls Try.prog 30 #[.pointer (some ⟨h, 0, none⟩), .pointer (some ⟨x, 0, none⟩), .agg #[.int .i64 at', .int .i64 me], .int .i64 1, .int .i64 1] w fun e w' => e = .returned (.bool (A.fresh T at' me 1 1)) ∧ Below w.heap.size w w' := by
  obtain ⟨F, Fx, L⟩ := H.look hk
  exact L.fresh at' me 1 1 ⟨okI_one, okI_one⟩
theorem SgW.now {K : Nat → Prop} {wk : World} (H : SgW w0 w b h x A T k K wk) (hk : k < 2147483648) (me : Int) :
    Calls Try.prog 22 #[.pointer (some ⟨x, 0, none⟩), .int .i64 me] w fun e w' => e = .returned (.agg #[.int .i64 T.last, .int .i64 me]) ∧ Below w.heap.size w w' :=
  (H.seer hk).now w me (Below.refl _ _)
end

set_option maxRecDepth 100000 in
set_option maxHeartbeats 8000000 in
theorem awake_calls (w : World) : Calls Try.prog 20 #[] w fun e w' => e = .returned (.bool true) ∧ Below w.heap.size w w' := by
  go_enter Try.func20, Try.ntmps20
  go_wp2_with fail
  refine (new_calls w).mono ?_
  rintro e w1 ⟨h, rfl, h1, b1⟩
  replace h1 := Aside0.mk (And.intro h1 b1)
  clear b1
  go_wp2_with fail
  refine (xnew_calls w1).mono ?_
  rintro e w2 ⟨rfl, t2, b2, hsz⟩
  clear hsz
  have HQ := SgW.start w h1.out.1 h1.out.2 t2 b2
  clear h1 t2 b2
  obtain ⟨x, hx⟩ : ∃ x, w1.heap.size = x := ⟨_, rfl⟩
  rw [hx] at HQ ⊢
  clear hx
  obtain ⟨w3, hw3⟩ : ∃ w3, w2.alloc (.cells #[.pointer (some ⟨h, 0, none⟩), .pointer (some ⟨x, 0, none⟩), .slice none 0 0] 49) = w3 := ⟨_, rfl⟩
  rw [hw3] at HQ
  go_upto_region 2 with (fail)
  obtain ⟨b, hb⟩ : ∃ b, w2.heap.size = b := ⟨_, rfl⟩
  rw [hb] at HQ ⊢
  try rw [hw3]
  clear hb hw3
  have hc1 := HQ.wr.c1
  have n := HQ.begin (by decide) 0
  rw [Aw.b1.1, Aw.b1.2] at n
  clear HQ
  go_wp2_with fail
  refine n.mono ?_
  clear n hc1
  rintro e w4 ⟨rfl, HQ⟩
  rw [show (TT.empty.begin 0).2.2 = Aw.T1 from rfl] at HQ
  have hc1 := HQ.wr.c1
  have n := HQ.begin (by decide) 0
  rw [Aw.b2.1, Aw.b2.2, show (Aw.T1.begin 0).2.2 = Aw.T2 from rfl] at n
  clear HQ
  go_wp2_with fail
  refine n.mono ?_
  clear n hc1
  rintro e w5 ⟨rfl, HQ⟩
  have n := write_calls w w5 b h x 1 1 1 10 AH.empty Aw.T2 _ HQ (by decide) okI_one
  rw [Aw.w1, show (AH.empty.writes Aw.T2 1 1 1 10).2 = Aw.A1 from rfl] at n
  clear HQ
  go_wp2_with fail
  refine n.mono ?_
  clear n
  rintro e w6 ⟨rfl, HQ⟩
  have hc1 := HQ.wr.c1
  have n := HQ.commit (by decide) 1
  rw [Aw.c1, show (Aw.T2.commit 1).2 = Aw.T3 from rfl] at n
  clear HQ
  go_wp2_with fail
  refine n.mono ?_
  clear n hc1
  rintro e w7 ⟨rfl, HQ⟩
  have n := write_calls w w7 b h x 2 2 1 20 Aw.A1 Aw.T3 _ HQ (by decide) okI_one
  rw [Aw.w2, show (Aw.A1.writes Aw.T3 2 2 1 20).2 = Aw.A2 from rfl] at n
  clear HQ
  go_wp2_with fail
  refine n.mono ?_
  clear n
  rintro e w8 ⟨rfl, HQ⟩
  have hc1 := HQ.wr.c1
  have n := HQ.now (by decide) 0
  rw [Aw.l3] at n
  replace HQ := Aside0.mk HQ
  go_wp2_with fail
  refine n.mono ?_
  clear n hc1
  rintro e w9 ⟨rfl, b9⟩
  have ho := blk_new w9 (.cells #[.int .i64 1, .int .i64 0] 52)
  have b10 := b9.alloc b9.size (.cells #[.int .i64 1, .int .i64 0] 52)
  have hle := b9.size
  obtain ⟨o, hoo⟩ : ∃ o, w9.heap.size = o := ⟨_, rfl⟩
  rw [hoo] at ho hle
  obtain ⟨wA, hwA⟩ : ∃ wA, w9.alloc (.cells #[.int .i64 1, .int .i64 0] 52) = wA := ⟨_, rfl⟩
  rw [hwA] at ho b10
  have HA := Aside0.mk (And.intro ho (And.intro b10 (And.intro hle hwA)))
  have HOO := Aside0.mk hoo
  clear ho b10 hle b9 hwA hoo
  go_upto_region 7 with (fail)
  rw [HOO.out, HA.out.2.2.2]
  -- the facts that hold in whatever world behind this one
  have mv : ∀ W, Below wA.heap.size wA W → W.cell? ⟨b, 0, none⟩ = some (.pointer (some ⟨h, 0, none⟩)) ∧ W.cell? ⟨b, 1, none⟩ = some (.pointer (some ⟨x, 0, none⟩)) ∧ W.cell? ⟨o, 0, none⟩ = some (.int .i64 1) ∧ W.cell? ⟨o, 1, none⟩ = some (.int .i64 0) ∧ SgW w W b h x Aw.A2 Aw.T3 9 := fun W hW => by
    have h8 := HA.out.2.1.trans (hW.mono HA.out.2.1.size)
    have hq := HQ.out.below h8
    have hoW := blk_below HA.out.1 hW
    exact ⟨hq.wr.c0, hq.wr.c1, blk_cell hoW 0, blk_cell hoW 1, hq.more (by decide)⟩
  obtain ⟨c0, c1, o0, o1, _⟩ := mv wA (Below.refl _ _)
  replace mv := Aside0.mk mv
  refine wp_region_held_drew (S := fun w' => w'.cell? ⟨b, 0, none⟩ = some (.pointer (some ⟨h, 0, none⟩)) ∧ w'.cell? ⟨b, 1, none⟩ = some (.pointer (some ⟨x, 0, none⟩)) ∧ w'.cell? ⟨o, 0, none⟩ = some (.int .i64 1) ∧ w'.cell? ⟨o, 1, none⟩ = some (.int .i64 0)) (by kernel_rfl) ?_ (fun hHeld => ?_)
  · go_keep
  refine wpAnyH_take (i := 0) (v := ?_) rfl (by kernel_rfl) (by kernel_rfl) (by kernel_rfl) (fun _ _ _ h => h) (Or.inl ⟨by rfl, ?_⟩) (by assumption) ?_
  rotate_left
  · intro w hSw
    try dsimp only at hSw
    go_simp
    try with_reducible rfl
  try simp only [Act.put, List.getElem_toArray, List.getElem_cons_zero, List.getElem_cons_succ, List.setIfInBounds_toArray, List.set_cons_zero, List.set_cons_succ]
  refine wpAnyH_take (i := 1) (v := ?_) rfl (by kernel_rfl) (by kernel_rfl) (by kernel_rfl) (fun _ _ _ h => h) (Or.inl ⟨by rfl, ?_⟩) (by assumption) ?_
  rotate_left
  · intro w hSw
    try dsimp only at hSw
    go_simp
    try with_reducible rfl
  try simp only [Act.put, List.getElem_toArray, List.getElem_cons_zero, List.getElem_cons_succ, List.setIfInBounds_toArray, List.set_cons_zero, List.set_cons_succ]
  refine wpAnyH_ready (rs := [2]) (by kernel_rfl) (by simp) ?_
  refine AllReadyH.cons rfl (fun K hK => ?_) AllReadyH.nil
  go_simp
  (go_at_call 27; have nn := SgW.says (mv.out _ ((Below.refl wA.heap.size wA).drew)).2.2.2.2 (by decide) 1 0; rw [Aw.s1] at nn; refine nn.mono ?_; clear nn; rintro e w20 ⟨rfl, hb20⟩; have hc20 : Below wA.heap.size wA w20 := Below.trans ((Below.refl wA.heap.size wA).drew) (Below.mono hb20 (Below.size ((Below.refl wA.heap.size wA).drew))); obtain ⟨r200, r201, r202, r203, _⟩ := mv.out w20 hc20; replace hc20 := Aside0.mk hc20; clear hb20)
  refine hK.out _ _ ?_ (fun hHeld => ?_)
  · go_keep
  clear hK K
  try simp only [Act.put, List.getElem_toArray, List.getElem_cons_zero, List.getElem_cons_succ, List.setIfInBounds_toArray, List.set_cons_zero, List.set_cons_succ]
  refine wpAnyH_take (i := 3) (v := ?_) rfl (by kernel_rfl) (by kernel_rfl) (by kernel_rfl) (fun _ _ _ h => h) (Or.inl ⟨by rfl, ?_⟩) (by assumption) ?_
  rotate_left
  · intro w hSw
    try dsimp only at hSw
    go_simp
    try with_reducible rfl
  try simp only [Act.put, List.getElem_toArray, List.getElem_cons_zero, List.getElem_cons_succ, List.setIfInBounds_toArray, List.set_cons_zero, List.set_cons_succ]
  refine wpAnyH_take (i := 4) (v := ?_) rfl (by kernel_rfl) (by kernel_rfl) (by kernel_rfl) (fun _ _ _ h => h) (Or.inl ⟨by rfl, ?_⟩) (by assumption) ?_
  rotate_left
  · intro w hSw
    try dsimp only at hSw
    go_simp
    try with_reducible rfl
  try simp only [Act.put, List.getElem_toArray, List.getElem_cons_zero, List.getElem_cons_succ, List.setIfInBounds_toArray, List.set_cons_zero, List.set_cons_succ]
  refine wpAnyH_take (i := 5) (v := ?_) rfl (by kernel_rfl) (by kernel_rfl) (by kernel_rfl) (fun _ _ _ h => h) (Or.inl ⟨by rfl, ?_⟩) (by assumption) ?_
  rotate_left
  · intro w hSw
    try dsimp only at hSw
    go_simp
    try with_reducible rfl
  try simp only [Act.put, List.getElem_toArray, List.getElem_cons_zero, List.getElem_cons_succ, List.setIfInBounds_toArray, List.set_cons_zero, List.set_cons_succ]
  refine wpAnyH_take (i := 6) (v := ?_) rfl (by kernel_rfl) (by kernel_rfl) (by kernel_rfl) (fun _ _ _ h => h) (Or.inl ⟨by rfl, ?_⟩) (by assumption) ?_
  rotate_left
  · intro w hSw
    try dsimp only at hSw
    go_simp
    try with_reducible rfl
  try simp only [Act.put, List.getElem_toArray, List.getElem_cons_zero, List.getElem_cons_succ, List.setIfInBounds_toArray, List.set_cons_zero, List.set_cons_succ]
  refine wpAnyH_take (i := 7) (v := ?_) rfl (by kernel_rfl) (by kernel_rfl) (by kernel_rfl) (fun _ _ _ h => h) (Or.inl ⟨by rfl, ?_⟩) (by assumption) ?_
  rotate_left
  · intro w hSw
    try dsimp only at hSw
    go_simp
    try with_reducible rfl
  try simp only [Act.put, List.getElem_toArray, List.getElem_cons_zero, List.getElem_cons_succ, List.setIfInBounds_toArray, List.set_cons_zero, List.set_cons_succ]
  refine wpAnyH_take (i := 8) (v := ?_) rfl (by kernel_rfl) (by kernel_rfl) (by kernel_rfl) (fun _ _ _ h => h) (Or.inl ⟨by rfl, ?_⟩) (by assumption) ?_
  rotate_left
  · intro w hSw
    try dsimp only at hSw
    go_simp
    try with_reducible rfl
  try simp only [Act.put, List.getElem_toArray, List.getElem_cons_zero, List.getElem_cons_succ, List.setIfInBounds_toArray, List.set_cons_zero, List.set_cons_succ]
  refine wpAnyH_take (i := 9) (v := ?_) rfl (by kernel_rfl) (by kernel_rfl) (by kernel_rfl) (fun _ _ _ h => h) (Or.inl ⟨by rfl, ?_⟩) (by assumption) ?_
  rotate_left
  · intro w hSw
    try dsimp only at hSw
    go_simp
    try with_reducible rfl
  try simp only [Act.put, List.getElem_toArray, List.getElem_cons_zero, List.getElem_cons_succ, List.setIfInBounds_toArray, List.set_cons_zero, List.set_cons_succ]
  refine wpAnyH_take (i := 10) (v := ?_) rfl (by kernel_rfl) (by kernel_rfl) (by kernel_rfl) (fun _ _ _ h => h) (Or.inl ⟨by rfl, ?_⟩) (by assumption) ?_
  rotate_left
  · intro w hSw
    try dsimp only at hSw
    go_simp
    try with_reducible rfl
  try simp only [Act.put, List.getElem_toArray, List.getElem_cons_zero, List.getElem_cons_succ, List.setIfInBounds_toArray, List.set_cons_zero, List.set_cons_succ]
  refine wpAnyH_ready (rs := [11]) (by kernel_rfl) (by simp) ?_
  refine AllReadyH.cons rfl (fun K hK => ?_) AllReadyH.nil
  go_simp
  (go_at_call 22; have nn := SgW.now (mv.out _ (hc20.out)).2.2.2.2 (by decide) 2; rw [Aw.l3] at nn; refine nn.mono ?_; clear nn; rintro e w21 ⟨rfl, hb21⟩; have hc21 : Below wA.heap.size wA w21 := Below.trans (hc20.out) (Below.mono hb21 (Below.size (hc20.out))); obtain ⟨r210, r211, r212, r213, _⟩ := mv.out w21 hc21; replace hc21 := Aside0.mk hc21; clear hb21)
  refine hK.out _ _ ?_ (fun hHeld => ?_)
  · go_keep
  clear hK K
  try simp only [Act.put, List.getElem_toArray, List.getElem_cons_zero, List.getElem_cons_succ, List.setIfInBounds_toArray, List.set_cons_zero, List.set_cons_succ]
  refine wpAnyH_ready (rs := [12]) (by kernel_rfl) (by simp) ?_
  refine AllReadyH.cons rfl (fun K hK => ?_) AllReadyH.nil
  go_simp
  (go_at_call 27; have nn := SgW.says (mv.out _ (hc21.out)).2.2.2.2 (by decide) 1 2; rw [Aw.s2] at nn; refine nn.mono ?_; clear nn; rintro e w22 ⟨rfl, hb22⟩; have hc22 : Below wA.heap.size wA w22 := Below.trans (hc21.out) (Below.mono hb22 (Below.size (hc21.out))); obtain ⟨r220, r221, r222, r223, _⟩ := mv.out w22 hc22; replace hc22 := Aside0.mk hc22; clear hb22)
  refine hK.out _ _ ?_ (fun hHeld => ?_)
  · go_keep
  clear hK K
  try simp only [Act.put, List.getElem_toArray, List.getElem_cons_zero, List.getElem_cons_succ, List.setIfInBounds_toArray, List.set_cons_zero, List.set_cons_succ]
  refine wpAnyH_take (i := 13) (v := ?_) rfl (by kernel_rfl) (by kernel_rfl) (by kernel_rfl) (fun _ _ _ h => h) (Or.inl ⟨by rfl, ?_⟩) (by assumption) ?_
  rotate_left
  · intro w hSw
    try dsimp only at hSw
    go_simp
    try with_reducible rfl
  try simp only [Act.put, List.getElem_toArray, List.getElem_cons_zero, List.getElem_cons_succ, List.setIfInBounds_toArray, List.set_cons_zero, List.set_cons_succ]
  refine wpAnyH_take (i := 14) (v := ?_) rfl (by kernel_rfl) (by kernel_rfl) (by kernel_rfl) (fun _ _ _ h => h) (Or.inl ⟨by rfl, ?_⟩) (by assumption) ?_
  rotate_left
  · intro w hSw
    try dsimp only at hSw
    go_simp
    try with_reducible rfl
  try simp only [Act.put, List.getElem_toArray, List.getElem_cons_zero, List.getElem_cons_succ, List.setIfInBounds_toArray, List.set_cons_zero, List.set_cons_succ]
  refine wpAnyH_take (i := 15) (v := ?_) rfl (by kernel_rfl) (by kernel_rfl) (by kernel_rfl) (fun _ _ _ h => h) (Or.inl ⟨by rfl, ?_⟩) (by assumption) ?_
  rotate_left
  · intro w hSw
    try dsimp only at hSw
    go_simp
    try with_reducible rfl
  try simp only [Act.put, List.getElem_toArray, List.getElem_cons_zero, List.getElem_cons_succ, List.setIfInBounds_toArray, List.set_cons_zero, List.set_cons_succ]
  refine wpAnyH_take (i := 16) (v := ?_) rfl (by kernel_rfl) (by kernel_rfl) (by kernel_rfl) (fun _ _ _ h => h) (Or.inl ⟨by rfl, ?_⟩) (by assumption) ?_
  rotate_left
  · intro w hSw
    try dsimp only at hSw
    go_simp
    try with_reducible rfl
  try simp only [Act.put, List.getElem_toArray, List.getElem_cons_zero, List.getElem_cons_succ, List.setIfInBounds_toArray, List.set_cons_zero, List.set_cons_succ]
  refine wpAnyH_take (i := 17) (v := ?_) rfl (by kernel_rfl) (by kernel_rfl) (by kernel_rfl) (fun _ _ _ h => h) (Or.inl ⟨by rfl, ?_⟩) (by assumption) ?_
  rotate_left
  · intro w hSw
    try dsimp only at hSw
    go_simp
    try with_reducible rfl
  try simp only [Act.put, List.getElem_toArray, List.getElem_cons_zero, List.getElem_cons_succ, List.setIfInBounds_toArray, List.set_cons_zero, List.set_cons_succ]
  refine wpAnyH_take (i := 18) (v := ?_) rfl (by kernel_rfl) (by kernel_rfl) (by kernel_rfl) (fun _ _ _ h => h) (Or.inl ⟨by rfl, ?_⟩) (by assumption) ?_
  rotate_left
  · intro w hSw
    try dsimp only at hSw
    go_simp
    try with_reducible rfl
  try simp only [Act.put, List.getElem_toArray, List.getElem_cons_zero, List.getElem_cons_succ, List.setIfInBounds_toArray, List.set_cons_zero, List.set_cons_succ]
  refine wpAnyH_take (i := 19) (v := ?_) rfl (by kernel_rfl) (by kernel_rfl) (by kernel_rfl) (fun _ _ _ h => h) (Or.inl ⟨by rfl, ?_⟩) (by assumption) ?_
  rotate_left
  · intro w hSw
    try dsimp only at hSw
    go_simp
    try with_reducible rfl
  try simp only [Act.put, List.getElem_toArray, List.getElem_cons_zero, List.getElem_cons_succ, List.setIfInBounds_toArray, List.set_cons_zero, List.set_cons_succ]
  refine wpAnyH_take (i := 20) (v := ?_) rfl (by kernel_rfl) (by kernel_rfl) (by kernel_rfl) (fun _ _ _ h => h) (Or.inl ⟨by rfl, ?_⟩) (by assumption) ?_
  rotate_left
  · intro w hSw
    try dsimp only at hSw
    go_simp
    try with_reducible rfl
  try simp only [Act.put, List.getElem_toArray, List.getElem_cons_zero, List.getElem_cons_succ, List.setIfInBounds_toArray, List.set_cons_zero, List.set_cons_succ]
  refine wpAnyH_take (i := 21) (v := ?_) rfl (by kernel_rfl) (by kernel_rfl) (by kernel_rfl) (fun _ _ _ h => h) (Or.inl ⟨by rfl, ?_⟩) (by assumption) ?_
  rotate_left
  · intro w hSw
    try dsimp only at hSw
    go_simp
    try with_reducible rfl
  try simp only [Act.put, List.getElem_toArray, List.getElem_cons_zero, List.getElem_cons_succ, List.setIfInBounds_toArray, List.set_cons_zero, List.set_cons_succ]
  refine wpAnyH_take (i := 22) (v := ?_) rfl (by kernel_rfl) (by kernel_rfl) (by kernel_rfl) (fun _ _ _ h => h) (Or.inl ⟨by rfl, ?_⟩) (by assumption) ?_
  rotate_left
  · intro w hSw
    try dsimp only at hSw
    go_simp
    try with_reducible rfl
  try simp only [Act.put, List.getElem_toArray, List.getElem_cons_zero, List.getElem_cons_succ, List.setIfInBounds_toArray, List.set_cons_zero, List.set_cons_succ]
  refine wpAnyH_take (i := 23) (v := ?_) rfl (by kernel_rfl) (by kernel_rfl) (by kernel_rfl) (fun _ _ _ h => h) (Or.inl ⟨by rfl, ?_⟩) (by assumption) ?_
  rotate_left
  · intro w hSw
    try dsimp only at hSw
    go_simp
    try with_reducible rfl
  try simp only [Act.put, List.getElem_toArray, List.getElem_cons_zero, List.getElem_cons_succ, List.setIfInBounds_toArray, List.set_cons_zero, List.set_cons_succ]
  refine wpAnyH_take (i := 24) (v := ?_) rfl (by kernel_rfl) (by kernel_rfl) (by kernel_rfl) (fun _ _ _ h => h) (Or.inl ⟨by rfl, ?_⟩) (by assumption) ?_
  rotate_left
  · intro w hSw
    try dsimp only at hSw
    go_simp
    try with_reducible rfl
  try simp only [Act.put, List.getElem_toArray, List.getElem_cons_zero, List.getElem_cons_succ, List.setIfInBounds_toArray, List.set_cons_zero, List.set_cons_succ]
  refine wpAnyH_ready (rs := [25]) (by kernel_rfl) (by simp) ?_
  refine AllReadyH.cons rfl (fun K hK => ?_) AllReadyH.nil
  go_simp
  (go_at_call 30; have nn := SgW.fresh (mv.out _ (hc22.out)).2.2.2.2 (by decide) 1 0; rw [Aw.f1] at nn; refine nn.mono ?_; clear nn; rintro e w23 ⟨rfl, hb23⟩; have hc23 : Below wA.heap.size wA w23 := Below.trans (hc22.out) (Below.mono hb23 (Below.size (hc22.out))); obtain ⟨r230, r231, r232, r233, _⟩ := mv.out w23 hc23; replace hc23 := Aside0.mk hc23; clear hb23)
  refine hK.out _ _ ?_ (fun hHeld => ?_)
  · go_keep
  clear hK K
  try simp only [Act.put, List.getElem_toArray, List.getElem_cons_zero, List.getElem_cons_succ, List.setIfInBounds_toArray, List.set_cons_zero, List.set_cons_succ]
  refine wpAnyH_take (i := 26) (v := ?_) rfl (by kernel_rfl) (by kernel_rfl) (by kernel_rfl) (fun _ _ _ h => h) (Or.inl ⟨by rfl, ?_⟩) (by assumption) ?_
  rotate_left
  · intro w hSw
    try dsimp only at hSw
    go_simp
    try with_reducible rfl
  try simp only [Act.put, List.getElem_toArray, List.getElem_cons_zero, List.getElem_cons_succ, List.setIfInBounds_toArray, List.set_cons_zero, List.set_cons_succ]
  refine wpAnyH_take (i := 27) (v := ?_) rfl (by kernel_rfl) (by kernel_rfl) (by kernel_rfl) (fun _ _ _ h => h) (Or.inl ⟨by rfl, ?_⟩) (by assumption) ?_
  rotate_left
  · intro w hSw
    try dsimp only at hSw
    go_simp
    try with_reducible rfl
  try simp only [Act.put, List.getElem_toArray, List.getElem_cons_zero, List.getElem_cons_succ, List.setIfInBounds_toArray, List.set_cons_zero, List.set_cons_succ]
  refine wpAnyH_take (i := 28) (v := ?_) rfl (by kernel_rfl) (by kernel_rfl) (by kernel_rfl) (fun _ _ _ h => h) (Or.inl ⟨by rfl, ?_⟩) (by assumption) ?_
  rotate_left
  · intro w hSw
    try dsimp only at hSw
    go_simp
    try with_reducible rfl
  try simp only [Act.put, List.getElem_toArray, List.getElem_cons_zero, List.getElem_cons_succ, List.setIfInBounds_toArray, List.set_cons_zero, List.set_cons_succ]
  refine wpAnyH_take (i := 29) (v := ?_) rfl (by kernel_rfl) (by kernel_rfl) (by kernel_rfl) (fun _ _ _ h => h) (Or.inl ⟨by rfl, ?_⟩) (by assumption) ?_
  rotate_left
  · intro w hSw
    try dsimp only at hSw
    go_simp
    try with_reducible rfl
  try simp only [Act.put, List.getElem_toArray, List.getElem_cons_zero, List.getElem_cons_succ, List.setIfInBounds_toArray, List.set_cons_zero, List.set_cons_succ]
  refine wpAnyH_take (i := 30) (v := ?_) rfl (by kernel_rfl) (by kernel_rfl) (by kernel_rfl) (fun _ _ _ h => h) (Or.inl ⟨by rfl, ?_⟩) (by assumption) ?_
  rotate_left
  · intro w hSw
    try dsimp only at hSw
    go_simp
    try with_reducible rfl
  try simp only [Act.put, List.getElem_toArray, List.getElem_cons_zero, List.getElem_cons_succ, List.setIfInBounds_toArray, List.set_cons_zero, List.set_cons_succ]
  refine wpAnyH_take (i := 31) (v := ?_) rfl (by kernel_rfl) (by kernel_rfl) (by kernel_rfl) (fun _ _ _ h => h) (Or.inl ⟨by rfl, ?_⟩) (by assumption) ?_
  rotate_left
  · intro w hSw
    try dsimp only at hSw
    go_simp
    try with_reducible rfl
  try simp only [Act.put, List.getElem_toArray, List.getElem_cons_zero, List.getElem_cons_succ, List.setIfInBounds_toArray, List.set_cons_zero, List.set_cons_succ]
  refine wpAnyH_take (i := 32) (v := ?_) rfl (by kernel_rfl) (by kernel_rfl) (by kernel_rfl) (fun _ _ _ h => h) (Or.inl ⟨by rfl, ?_⟩) (by assumption) ?_
  rotate_left
  · intro w hSw
    try dsimp only at hSw
    go_simp
    try with_reducible rfl
  try simp only [Act.put, List.getElem_toArray, List.getElem_cons_zero, List.getElem_cons_succ, List.setIfInBounds_toArray, List.set_cons_zero, List.set_cons_succ]
  refine wpAnyH_take (i := 33) (v := ?_) rfl (by kernel_rfl) (by kernel_rfl) (by kernel_rfl) (fun _ _ _ h => h) (Or.inl ⟨by rfl, ?_⟩) (by assumption) ?_
  rotate_left
  · intro w hSw
    try dsimp only at hSw
    go_simp
    try with_reducible rfl
  try simp only [Act.put, List.getElem_toArray, List.getElem_cons_zero, List.getElem_cons_succ, List.setIfInBounds_toArray, List.set_cons_zero, List.set_cons_succ]
  refine wpAnyH_ready (rs := [34]) (by kernel_rfl) (by simp) ?_
  refine AllReadyH.cons rfl (fun K hK => ?_) AllReadyH.nil
  go_simp
  (go_at_call 24; have nn := SgW.commit_keep HQ.out (HA.out.2.1.trans (hc23.out.mono HA.out.2.1.size)) (by decide) 2 HA.out.2.2.1 (blk_below HA.out.1 hc23.out); rw [Aw.c2, show (Aw.T3.commit 2).2 = Aw.T4 from rfl] at nn; refine nn.mono ?_; clear nn; rintro e w24 ⟨rfl, H24, ho24⟩; have rr0 := H24.wr.c0; have rr1 := H24.wr.c1; have rr2 : w24.cell? ⟨o, 0, none⟩ = some (.int .i64 1) := blk_cell ho24 0; have rr3 : w24.cell? ⟨o, 1, none⟩ = some (.int .i64 0) := blk_cell ho24 1; replace H24 := Aside0.mk (And.intro H24 ho24))
  refine hK.out _ _ ?_ (fun hHeld => ?_)
  · go_keep
  clear hK K
  try simp only [Act.put, List.getElem_toArray, List.getElem_cons_zero, List.getElem_cons_succ, List.setIfInBounds_toArray, List.set_cons_zero, List.set_cons_succ]
  refine wpAnyH_take (i := 35) (v := ?_) rfl (by kernel_rfl) (by kernel_rfl) (by kernel_rfl) (fun _ _ _ h => h) (Or.inl ⟨by rfl, ?_⟩) (by assumption) ?_
  rotate_left
  · intro w hSw
    try dsimp only at hSw
    go_simp
    try with_reducible rfl
  try simp only [Act.put, List.getElem_toArray, List.getElem_cons_zero, List.getElem_cons_succ, List.setIfInBounds_toArray, List.set_cons_zero, List.set_cons_succ]
  refine wpAnyH_take (i := 36) (v := ?_) rfl (by kernel_rfl) (by kernel_rfl) (by kernel_rfl) (fun _ _ _ h => h) (Or.inl ⟨by rfl, ?_⟩) (by assumption) ?_
  rotate_left
  · intro w hSw
    try dsimp only at hSw
    go_simp
    try with_reducible rfl
  try simp only [Act.put, List.getElem_toArray, List.getElem_cons_zero, List.getElem_cons_succ, List.setIfInBounds_toArray, List.set_cons_zero, List.set_cons_succ]
  refine wpAnyH_done (by kernel_rfl) ?_ _
  clear hHeld
  have mw : ∀ W, Below w24.heap.size w24 W → W.cell? ⟨b, 0, none⟩ = some (.pointer (some ⟨h, 0, none⟩)) ∧ W.cell? ⟨b, 1, none⟩ = some (.pointer (some ⟨x, 0, none⟩)) ∧ W.cell? ⟨o, 0, none⟩ = some (.int .i64 1) ∧ W.cell? ⟨o, 1, none⟩ = some (.int .i64 0) ∧ SgW w W b h x Aw.A2 Aw.T4 10 := fun W hW => by
    have hq := H24.out.1.below hW
    have hoW := blk_below H24.out.2 hW
    exact ⟨hq.wr.c0, hq.wr.c1, blk_cell hoW 0, blk_cell hoW 1, hq.more (by decide)⟩
  replace mw := Aside0.mk mw
  go_upto_region 9 with (fail)
  refine wp_region_held_drew (S := fun w' => w'.cell? ⟨b, 0, none⟩ = some (.pointer (some ⟨h, 0, none⟩)) ∧ w'.cell? ⟨b, 1, none⟩ = some (.pointer (some ⟨x, 0, none⟩)) ∧ w'.cell? ⟨o, 0, none⟩ = some (.int .i64 1) ∧ w'.cell? ⟨o, 1, none⟩ = some (.int .i64 0)) (by kernel_rfl) ?_ (fun hHeld => ?_)
  · go_keep
  refine wpAnyH_take (i := 0) (v := ?_) rfl (by kernel_rfl) (by kernel_rfl) (by kernel_rfl) (fun _ _ _ h => h) (Or.inl ⟨by rfl, ?_⟩) (by assumption) ?_
  rotate_left
  · intro w hSw
    try dsimp only at hSw
    go_simp
    try with_reducible rfl
  try simp only [Act.put, List.getElem_toArray, List.getElem_cons_zero, List.getElem_cons_succ, List.setIfInBounds_toArray, List.set_cons_zero, List.set_cons_succ]
  refine wpAnyH_take (i := 1) (v := ?_) rfl (by kernel_rfl) (by kernel_rfl) (by kernel_rfl) (fun _ _ _ h => h) (Or.inl ⟨by rfl, ?_⟩) (by assumption) ?_
  rotate_left
  · intro w hSw
    try dsimp only at hSw
    go_simp
    try with_reducible rfl
  try simp only [Act.put, List.getElem_toArray, List.getElem_cons_zero, List.getElem_cons_succ, List.setIfInBounds_toArray, List.set_cons_zero, List.set_cons_succ]
  refine wpAnyH_ready (rs := [2]) (by kernel_rfl) (by simp) ?_
  refine AllReadyH.cons rfl (fun K hK => ?_) AllReadyH.nil
  go_simp
  (go_at_call 27; have nn := SgW.says (mw.out _ ((Below.refl w24.heap.size w24).drew)).2.2.2.2 (by decide) 1 0; rw [Aw.s3] at nn; refine nn.mono ?_; clear nn; rintro e w30 ⟨rfl, hb30⟩; have hc30 : Below w24.heap.size w24 w30 := Below.trans ((Below.refl w24.heap.size w24).drew) (Below.mono hb30 (Below.size ((Below.refl w24.heap.size w24).drew))); obtain ⟨r300, r301, r302, r303, _⟩ := mw.out w30 hc30; replace hc30 := Aside0.mk hc30; clear hb30)
  refine hK.out _ _ ?_ (fun hHeld => ?_)
  · go_keep
  clear hK K
  try simp only [Act.put, List.getElem_toArray, List.getElem_cons_zero, List.getElem_cons_succ, List.setIfInBounds_toArray, List.set_cons_zero, List.set_cons_succ]
  refine wpAnyH_take (i := 3) (v := ?_) rfl (by kernel_rfl) (by kernel_rfl) (by kernel_rfl) (fun _ _ _ h => h) (Or.inl ⟨by rfl, ?_⟩) (by assumption) ?_
  rotate_left
  · intro w hSw
    try dsimp only at hSw
    go_simp
    try with_reducible rfl
  try simp only [Act.put, List.getElem_toArray, List.getElem_cons_zero, List.getElem_cons_succ, List.setIfInBounds_toArray, List.set_cons_zero, List.set_cons_succ]
  refine wpAnyH_take (i := 4) (v := ?_) rfl (by kernel_rfl) (by kernel_rfl) (by kernel_rfl) (fun _ _ _ h => h) (Or.inl ⟨by rfl, ?_⟩) (by assumption) ?_
  rotate_left
  · intro w hSw
    try dsimp only at hSw
    go_simp
    try with_reducible rfl
  try simp only [Act.put, List.getElem_toArray, List.getElem_cons_zero, List.getElem_cons_succ, List.setIfInBounds_toArray, List.set_cons_zero, List.set_cons_succ]
  refine wpAnyH_take (i := 5) (v := ?_) rfl (by kernel_rfl) (by kernel_rfl) (by kernel_rfl) (fun _ _ _ h => h) (Or.inl ⟨by rfl, ?_⟩) (by assumption) ?_
  rotate_left
  · intro w hSw
    try dsimp only at hSw
    go_simp
    try with_reducible rfl
  try simp only [Act.put, List.getElem_toArray, List.getElem_cons_zero, List.getElem_cons_succ, List.setIfInBounds_toArray, List.set_cons_zero, List.set_cons_succ]
  refine wpAnyH_take (i := 6) (v := ?_) rfl (by kernel_rfl) (by kernel_rfl) (by kernel_rfl) (fun _ _ _ h => h) (Or.inl ⟨by rfl, ?_⟩) (by assumption) ?_
  rotate_left
  · intro w hSw
    try dsimp only at hSw
    go_simp
    try with_reducible rfl
  try simp only [Act.put, List.getElem_toArray, List.getElem_cons_zero, List.getElem_cons_succ, List.setIfInBounds_toArray, List.set_cons_zero, List.set_cons_succ]
  refine wpAnyH_take (i := 7) (v := ?_) rfl (by kernel_rfl) (by kernel_rfl) (by kernel_rfl) (fun _ _ _ h => h) (Or.inl ⟨by rfl, ?_⟩) (by assumption) ?_
  rotate_left
  · intro w hSw
    try dsimp only at hSw
    go_simp
    try with_reducible rfl
  try simp only [Act.put, List.getElem_toArray, List.getElem_cons_zero, List.getElem_cons_succ, List.setIfInBounds_toArray, List.set_cons_zero, List.set_cons_succ]
  refine wpAnyH_take (i := 8) (v := ?_) rfl (by kernel_rfl) (by kernel_rfl) (by kernel_rfl) (fun _ _ _ h => h) (Or.inl ⟨by rfl, ?_⟩) (by assumption) ?_
  rotate_left
  · intro w hSw
    try dsimp only at hSw
    go_simp
    try with_reducible rfl
  try simp only [Act.put, List.getElem_toArray, List.getElem_cons_zero, List.getElem_cons_succ, List.setIfInBounds_toArray, List.set_cons_zero, List.set_cons_succ]
  refine wpAnyH_take (i := 9) (v := ?_) rfl (by kernel_rfl) (by kernel_rfl) (by kernel_rfl) (fun _ _ _ h => h) (Or.inl ⟨by rfl, ?_⟩) (by assumption) ?_
  rotate_left
  · intro w hSw
    try dsimp only at hSw
    go_simp
    try with_reducible rfl
  try simp only [Act.put, List.getElem_toArray, List.getElem_cons_zero, List.getElem_cons_succ, List.setIfInBounds_toArray, List.set_cons_zero, List.set_cons_succ]
  refine wpAnyH_ready (rs := [10]) (by kernel_rfl) (by simp) ?_
  refine AllReadyH.cons rfl (fun K hK => ?_) AllReadyH.nil
  go_simp
  (go_at_call 22; have nn := SgW.now (mw.out _ (hc30.out)).2.2.2.2 (by decide) 0; rw [Aw.l4] at nn; refine nn.mono ?_; clear nn; rintro e w31 ⟨rfl, hb31⟩; have hc31 : Below w24.heap.size w24 w31 := Below.trans (hc30.out) (Below.mono hb31 (Below.size (hc30.out))); obtain ⟨r310, r311, r312, r313, _⟩ := mw.out w31 hc31; replace hc31 := Aside0.mk hc31; clear hb31)
  refine hK.out _ _ ?_ (fun hHeld => ?_)
  · go_keep
  clear hK K
  try simp only [Act.put, List.getElem_toArray, List.getElem_cons_zero, List.getElem_cons_succ, List.setIfInBounds_toArray, List.set_cons_zero, List.set_cons_succ]
  refine wpAnyH_ready (rs := [11]) (by kernel_rfl) (by simp) ?_
  refine AllReadyH.cons rfl (fun K hK => ?_) AllReadyH.nil
  go_simp
  (go_at_call 27; have nn := SgW.says (mw.out _ (hc31.out)).2.2.2.2 (by decide) 2 0; rw [Aw.s4] at nn; refine nn.mono ?_; clear nn; rintro e w32 ⟨rfl, hb32⟩; have hc32 : Below w24.heap.size w24 w32 := Below.trans (hc31.out) (Below.mono hb32 (Below.size (hc31.out))); obtain ⟨r320, r321, r322, r323, _⟩ := mw.out w32 hc32; replace hc32 := Aside0.mk hc32; clear hb32)
  refine hK.out _ _ ?_ (fun hHeld => ?_)
  · go_keep
  clear hK K
  try simp only [Act.put, List.getElem_toArray, List.getElem_cons_zero, List.getElem_cons_succ, List.setIfInBounds_toArray, List.set_cons_zero, List.set_cons_succ]
  refine wpAnyH_take (i := 12) (v := ?_) rfl (by kernel_rfl) (by kernel_rfl) (by kernel_rfl) (fun _ _ _ h => h) (Or.inl ⟨by rfl, ?_⟩) (by assumption) ?_
  rotate_left
  · intro w hSw
    try dsimp only at hSw
    go_simp
    try with_reducible rfl
  try simp only [Act.put, List.getElem_toArray, List.getElem_cons_zero, List.getElem_cons_succ, List.setIfInBounds_toArray, List.set_cons_zero, List.set_cons_succ]
  refine wpAnyH_take (i := 13) (v := ?_) rfl (by kernel_rfl) (by kernel_rfl) (by kernel_rfl) (fun _ _ _ h => h) (Or.inl ⟨by rfl, ?_⟩) (by assumption) ?_
  rotate_left
  · intro w hSw
    try dsimp only at hSw
    go_simp
    try with_reducible rfl
  try simp only [Act.put, List.getElem_toArray, List.getElem_cons_zero, List.getElem_cons_succ, List.setIfInBounds_toArray, List.set_cons_zero, List.set_cons_succ]
  refine wpAnyH_take (i := 14) (v := ?_) rfl (by kernel_rfl) (by kernel_rfl) (by kernel_rfl) (fun _ _ _ h => h) (Or.inl ⟨by rfl, ?_⟩) (by assumption) ?_
  rotate_left
  · intro w hSw
    try dsimp only at hSw
    go_simp
    try with_reducible rfl
  try simp only [Act.put, List.getElem_toArray, List.getElem_cons_zero, List.getElem_cons_succ, List.setIfInBounds_toArray, List.set_cons_zero, List.set_cons_succ]
  refine wpAnyH_take (i := 15) (v := ?_) rfl (by kernel_rfl) (by kernel_rfl) (by kernel_rfl) (fun _ _ _ h => h) (Or.inl ⟨by rfl, ?_⟩) (by assumption) ?_
  rotate_left
  · intro w hSw
    try dsimp only at hSw
    go_simp
    try with_reducible rfl
  try simp only [Act.put, List.getElem_toArray, List.getElem_cons_zero, List.getElem_cons_succ, List.setIfInBounds_toArray, List.set_cons_zero, List.set_cons_succ]
  refine wpAnyH_take (i := 16) (v := ?_) rfl (by kernel_rfl) (by kernel_rfl) (by kernel_rfl) (fun _ _ _ h => h) (Or.inl ⟨by rfl, ?_⟩) (by assumption) ?_
  rotate_left
  · intro w hSw
    try dsimp only at hSw
    go_simp
    try with_reducible rfl
  try simp only [Act.put, List.getElem_toArray, List.getElem_cons_zero, List.getElem_cons_succ, List.setIfInBounds_toArray, List.set_cons_zero, List.set_cons_succ]
  refine wpAnyH_take (i := 17) (v := ?_) rfl (by kernel_rfl) (by kernel_rfl) (by kernel_rfl) (fun _ _ _ h => h) (Or.inl ⟨by rfl, ?_⟩) (by assumption) ?_
  rotate_left
  · intro w hSw
    try dsimp only at hSw
    go_simp
    try with_reducible rfl
  try simp only [Act.put, List.getElem_toArray, List.getElem_cons_zero, List.getElem_cons_succ, List.setIfInBounds_toArray, List.set_cons_zero, List.set_cons_succ]
  refine wpAnyH_take (i := 18) (v := ?_) rfl (by kernel_rfl) (by kernel_rfl) (by kernel_rfl) (fun _ _ _ h => h) (Or.inl ⟨by rfl, ?_⟩) (by assumption) ?_
  rotate_left
  · intro w hSw
    try dsimp only at hSw
    go_simp
    try with_reducible rfl
  try simp only [Act.put, List.getElem_toArray, List.getElem_cons_zero, List.getElem_cons_succ, List.setIfInBounds_toArray, List.set_cons_zero, List.set_cons_succ]
  refine wpAnyH_take (i := 19) (v := ?_) rfl (by kernel_rfl) (by kernel_rfl) (by kernel_rfl) (fun _ _ _ h => h) (Or.inl ⟨by rfl, ?_⟩) (by assumption) ?_
  rotate_left
  · intro w hSw
    try dsimp only at hSw
    go_simp
    try with_reducible rfl
  try simp only [Act.put, List.getElem_toArray, List.getElem_cons_zero, List.getElem_cons_succ, List.setIfInBounds_toArray, List.set_cons_zero, List.set_cons_succ]
  refine wpAnyH_take (i := 20) (v := ?_) rfl (by kernel_rfl) (by kernel_rfl) (by kernel_rfl) (fun _ _ _ h => h) (Or.inl ⟨by rfl, ?_⟩) (by assumption) ?_
  rotate_left
  · intro w hSw
    try dsimp only at hSw
    go_simp
    try with_reducible rfl
  try simp only [Act.put, List.getElem_toArray, List.getElem_cons_zero, List.getElem_cons_succ, List.setIfInBounds_toArray, List.set_cons_zero, List.set_cons_succ]
  refine wpAnyH_take (i := 21) (v := ?_) rfl (by kernel_rfl) (by kernel_rfl) (by kernel_rfl) (fun _ _ _ h => h) (Or.inl ⟨by rfl, ?_⟩) (by assumption) ?_
  rotate_left
  · intro w hSw
    try dsimp only at hSw
    go_simp
    try with_reducible rfl
  try simp only [Act.put, List.getElem_toArray, List.getElem_cons_zero, List.getElem_cons_succ, List.setIfInBounds_toArray, List.set_cons_zero, List.set_cons_succ]
  refine wpAnyH_take (i := 22) (v := ?_) rfl (by kernel_rfl) (by kernel_rfl) (by kernel_rfl) (fun _ _ _ h => h) (Or.inl ⟨by rfl, ?_⟩) (by assumption) ?_
  rotate_left
  · intro w hSw
    try dsimp only at hSw
    go_simp
    try with_reducible rfl
  try simp only [Act.put, List.getElem_toArray, List.getElem_cons_zero, List.getElem_cons_succ, List.setIfInBounds_toArray, List.set_cons_zero, List.set_cons_succ]
  refine wpAnyH_take (i := 23) (v := ?_) rfl (by kernel_rfl) (by kernel_rfl) (by kernel_rfl) (fun _ _ _ h => h) (Or.inl ⟨by rfl, ?_⟩) (by assumption) ?_
  rotate_left
  · intro w hSw
    try dsimp only at hSw
    go_simp
    try with_reducible rfl
  try simp only [Act.put, List.getElem_toArray, List.getElem_cons_zero, List.getElem_cons_succ, List.setIfInBounds_toArray, List.set_cons_zero, List.set_cons_succ]
  refine wpAnyH_ready (rs := [24]) (by kernel_rfl) (by simp) ?_
  refine AllReadyH.cons rfl (fun K hK => ?_) AllReadyH.nil
  go_simp
  (go_at_call 30; have nn := SgW.fresh (mw.out _ (hc32.out)).2.2.2.2 (by decide) 1 0; rw [Aw.f2] at nn; refine nn.mono ?_; clear nn; rintro e w33 ⟨rfl, hb33⟩; have hc33 : Below w24.heap.size w24 w33 := Below.trans (hc32.out) (Below.mono hb33 (Below.size (hc32.out))); obtain ⟨r330, r331, r332, r333, _⟩ := mw.out w33 hc33; replace hc33 := Aside0.mk hc33; clear hb33)
  refine hK.out _ _ ?_ (fun hHeld => ?_)
  · go_keep
  clear hK K
  try simp only [Act.put, List.getElem_toArray, List.getElem_cons_zero, List.getElem_cons_succ, List.setIfInBounds_toArray, List.set_cons_zero, List.set_cons_succ]
  refine wpAnyH_take (i := 25) (v := ?_) rfl (by kernel_rfl) (by kernel_rfl) (by kernel_rfl) (fun _ _ _ h => h) (Or.inl ⟨by rfl, ?_⟩) (by assumption) ?_
  rotate_left
  · intro w hSw
    try dsimp only at hSw
    go_simp
    try with_reducible rfl
  try simp only [Act.put, List.getElem_toArray, List.getElem_cons_zero, List.getElem_cons_succ, List.setIfInBounds_toArray, List.set_cons_zero, List.set_cons_succ]
  refine wpAnyH_take (i := 26) (v := ?_) rfl (by kernel_rfl) (by kernel_rfl) (by kernel_rfl) (fun _ _ _ h => h) (Or.inl ⟨by rfl, ?_⟩) (by assumption) ?_
  rotate_left
  · intro w hSw
    try dsimp only at hSw
    go_simp
    try with_reducible rfl
  try simp only [Act.put, List.getElem_toArray, List.getElem_cons_zero, List.getElem_cons_succ, List.setIfInBounds_toArray, List.set_cons_zero, List.set_cons_succ]
  refine wpAnyH_take (i := 27) (v := ?_) rfl (by kernel_rfl) (by kernel_rfl) (by kernel_rfl) (fun _ _ _ h => h) (Or.inl ⟨by rfl, ?_⟩) (by assumption) ?_
  rotate_left
  · intro w hSw
    try dsimp only at hSw
    go_simp
    try with_reducible rfl
  try simp only [Act.put, List.getElem_toArray, List.getElem_cons_zero, List.getElem_cons_succ, List.setIfInBounds_toArray, List.set_cons_zero, List.set_cons_succ]
  refine wpAnyH_done (by kernel_rfl) ?_ _
  go_wp2
  go_ret
  exact ⟨rfl, H24.out.1.bel.trans (hc33.out.mono H24.out.1.bel.size)⟩
end Go.Proofs.Ytljahhgankcalaa

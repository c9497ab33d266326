import Derived.Test.YtdammjolkcjogaaMh
/-! ModelNames: the example. -/
namespace Go.Proofs.Ytdammjolkcjogaa
open Go.RowKit Go.Maps Go.MapKept Go.WideMaps Go.Shelf
open Go.Proofs.YtdammjolkcjogaaW.PrintWords Go.Proofs.YtdammjolkcjogaaW.PrintLast Go.Proofs.YtdammjolkcjogaaW.PrintMore
open PModelNames
set_option linter.unusedVariables false
set_option linter.unusedSimpArgs false

def aw0 : AVal := ⟨1, 7, 0, ⟨#[]⟩⟩
def aw1 : AVal := ⟨3, 0, 0, ⟨#[120]⟩⟩
def awN : AVal := ⟨0, 0, 0, ⟨#[]⟩⟩
theorem C_two {w : World} {g t : Nat} {a b : AVal} (h : w.heap[g]? = some (.cells #[.int .u8 a.f0, .int .i64 a.f1, .int .i64 a.f2, .string a.f3, .int .u8 b.f0, .int .i64 b.f1, .int .i64 b.f2, .string b.f3] t (0, 0))) : Kd.C kVal w (some ⟨g, 0, none⟩) 2 [a, b] := by
  refine ⟨rfl, by decide, fun _ => ⟨_, rfl, fun i y hi => ?_⟩⟩
  match i, hi with
  | 0, hi =>
    obtain rfl : a = y := by simpa using hi
    refine ⟨[.int .u8 a.f0, .int .i64 a.f1, .int .i64 a.f2, .string a.f3], rfl, k53_mk w a, fun j v hj => ?_⟩
    match j, hj with
    | 0, hj => cases hj; exact blk_cell h 0
    | 1, hj => cases hj; exact blk_cell h 1
    | 2, hj => cases hj; exact blk_cell h 2
    | 3, hj => cases hj; exact blk_cell h 3
    | n + 4, hj => cases hj
  | 1, hi =>
    obtain rfl : b = y := by simpa using hi
    refine ⟨[.int .u8 b.f0, .int .i64 b.f1, .int .i64 b.f2, .string b.f3], rfl, k53_mk w b, fun j v hj => ?_⟩
    match j, hj with
    | 0, hj => cases hj; exact blk_cell h 4
    | 1, hj => cases hj; exact blk_cell h 5
    | 2, hj => cases hj; exact blk_cell h 6
    | 3, hj => cases hj; exact blk_cell h 7
    | n + 4, hj => cases hj
  | i + 2, hi => simp at hi
theorem R_vcells {w : World} {e base : Nat} {ok : Nat → Prop} {v : Value} {a : AVal} {l : List AVal} (h : Kd.R kVal e w base ok v (a :: l)) : ∃ g c, v = .slice (some ⟨g, 0, none⟩) (l.length + 1) c ∧ VCells w g a := by
  obtain ⟨g, cap, cur, cs, hv, _, _, hg, h1, h2, _, hM, _, hc⟩ := R_elem h (i := 0) (by simp)
  have e1 := k53_openM hM
  refine ⟨g, cap, by simpa using hv, ?_, ?_, ?_, ?_⟩
  · exact (blk_cell hg 0).trans (by simpa [e1] using hc 0 _ (by rw [e1]; rfl))
  · exact (blk_cell hg 1).trans (by simpa [e1] using hc 1 _ (by rw [e1]; rfl))
  · exact (blk_cell hg 2).trans (by simpa [e1] using hc 2 _ (by rw [e1]; rfl))
  · exact (blk_cell hg 3).trans (by simpa [e1] using hc 3 _ (by rw [e1]; rfl))
theorem tells_one {w : World} {m : Nat} {I : MI} {F : Nat → Prop} {D : List Int} {no i0 : Int} {l : List AVal} (H : InstIs w m I F D) (h0 : I.rows no i0 = some l) (hone : ∀ x, I.rows no x ≠ none → x = i0) :
    ∃ v0, Kd.R kVal 53 w 0 F v0 l ∧ Tells w (.pointer (some ⟨m, 0, none⟩)) no [(i0, v0)] (fun p => p = (i0, v0)) := by
  obtain ⟨mb, tb, rv, H, _⟩ := H
  cases hv : rv no i0 with
  | none =>
    rw [H.none_ no i0 hv] at h0
    cases h0
  | some v0 =>
    obtain ⟨l', h1, h2⟩ := H.vals no i0 v0 hv
    rw [h0] at h1
    injection h1 with h1
    subst h1
    refine ⟨v0, h2, fun n hn W bm bn hB hbm hbn => rows1_one (fun p => p = (i0, v0)) bm bn no i0 v0 rfl (H.below hB) hbm hbn hv (fun x u hu => ?_) n hn⟩
    obtain ⟨l2, h3, _⟩ := H.vals no x u hu
    exact hone x (by rw [h3]; exact fun e => by cases e)
theorem tells_nil (w : World) (no : Int) (Q : Int × Value → Prop) : Tells w (.pointer none) no [] Q := fun n hn W bm bn hB hbm hbn => rows1_nil Q bm bn no W hbm hbn n (by omega)
theorem ints1 (a : Int) : covenantref08_Ints.f 2 [a] [a] = some true := by
  unfold covenantref08_Ints.f
  simp [covenantref08_Ints.l0, Go.Proofs.YtdammjolkcjogaaW.PrintWords.rd, wrap64]
theorem one_C {w : World} {g t : Nat} {x : Int} (h : w.heap[g]? = some (.cells #[.int .i64 x] t (0, 0))) : Kd.C kInt w (some ⟨g, 0, none⟩) 1 [x] := by
  refine ⟨rfl, by decide, fun _ => ⟨_, rfl, fun i y hi => ?_⟩⟩
  match i, hi with
  | 0, hi =>
    obtain rfl : x = y := by simpa using hi
    refine ⟨[.int .i64 x], rfl, rfl, fun j v hj => ?_⟩
    match j, hj with
    | 0, hj => cases hj; exact blk_cell h 0
    | n + 1, hj => cases hj
  | i + 1, hi => simp at hi
theorem okI_small {a : Int} (h0 : -9223372036854775808 ≤ a) (h1 : a ≤ 9223372036854775807) : okI a := by
  unfold okI
  exact WalkArith.wf_i64 ⟨h0, h1⟩
theorem find_at (b : Bool) (kx : AVal) {w : World} {m : Nat} {I : MI} {F : Nat → Prop} {D : List Int} (H : InstIs w m I F D) (h0 : I.rows 1 5 = some [aw0, aw1]) (hone : ∀ x, I.rows 1 x ≠ none → x = 5) (gc gk : Nat) (cc : w.cell? ⟨gc, 0, none⟩ = some (.int .i64 0)) (hk : VCells w gk kx)
    (hb : b = true ∧ kx = aw0 ∨ b = false ∧ kx = awN) : Calls Try.prog 12 #[.pointer (some ⟨m, 0, none⟩), .int .i64 1, .slice (some ⟨gc, 0, none⟩) 1 1, .slice (some ⟨gk, 0, none⟩) 1 1] w fun e w' => ∃ v, e = .returned v ∧ Kd.R kInt 3 w' w.heap.size (fun _ => True) v (if b = true then [5] else []) ∧ Below w.heap.size w w' := by
  obtain ⟨v0, hR, hT⟩ := tells_one H h0 hone
  obtain ⟨g, c, ev, hv⟩ := R_vcells hR
  subst ev
  refine (find_calls w (.pointer (some ⟨m, 0, none⟩)) 1 (some ⟨gc, 0, none⟩) (some ⟨gk, 0, none⟩) 1 1 1 1 _ (.inr ⟨m, rfl⟩) _ (fun _ => b) hT (fun W hW x hx => ?_)).mono ?_
  · subst hx
    have c1 := (hW.cell (p := ⟨gc, 0, none⟩) (World.block_lt_of_cell? w _ cc)).trans cc
    rcases hb with ⟨rfl, rfl⟩ | ⟨rfl, rfl⟩
    · exact refers_yes aw0 g ([aw1].length + 1) c gc 1 gk 1 W (by simp) (by decide) (hv.mv hW) c1 (hk.mv hW) rfl (Nat.le_refl _)
    · exact refers_null aw0 awN g ([aw1].length + 1) c gc 1 gk 1 W (by simp) (by decide) (hv.mv hW) c1 (hk.mv hW) rfl rfl
  · rintro e w' ⟨v, rfl, h1, h2⟩
    refine ⟨v, rfl, ?_, h2⟩
    cases b with
    | true => simpa [idsX] using h1
    | false => simpa [idsX] using h1
theorem lit_two (w7 : World) (kx : AVal) : ∃ W, (w7.alloc (.cells #[.int .i64 0] 3)).alloc (.cells #[.int .u8 kx.f0, .int .i64 kx.f1, .int .i64 kx.f2, .string kx.f3] 53) = W ∧ Below w7.heap.size w7 W ∧ W.cell? ⟨w7.heap.size, 0, none⟩ = some (.int .i64 0) ∧ VCells W (w7.heap.size + 1) kx := by
  refine ⟨_, rfl, ((Below.refl _ w7).alloc (Nat.le_refl _) _).alloc (by simp) _, ?_, ?_⟩
  · exact blk_cell ((Below.heap_alloc _ _ _ (by simp)).trans (heap_alloc_new w7 (.cells #[.int .i64 0] 3))) 0
  · have h := heap_alloc_new (w7.alloc (.cells #[.int .i64 0] 3)) (.cells #[.int .u8 kx.f0, .int .i64 kx.f1, .int .i64 kx.f2, .string kx.f3] 53)
    rw [World.size_alloc] at h
    exact ⟨blk_cell h 0, blk_cell h 1, blk_cell h 2, blk_cell h 3⟩
def awI : MI := MI.empty.put 1 5 [aw0, aw1]
theorem awI_row : awI.rows 1 5 = some [aw0, aw1] := rfl
theorem awI_one : ∀ x, awI.rows 1 x ≠ none → x = 5 := fun x h => by
  unfold awI MI.put at h
  by_cases e : x = 5
  · exact e
  · exfalso
    apply h
    simp [e, MI.empty]
theorem awI_last : awI.last 1 = 5 := by decide
set_option maxRecDepth 100000 in
set_option maxHeartbeats 4000000 in
theorem awake_calls (w : World) : Calls Try.prog 16 #[] w fun e w' => e = .returned (.bool true) ∧ Below w.heap.size w w' := by
  go_enter Try.func16, Try.ntmps16
  go_wp2_with fail
  refine (new_calls w).mono ?_
  rintro e w1 ⟨m, rfl, hm, H1, b1⟩
  have hbd := H1.bound
  have hblk := heap_alloc_new w1 (.cells #[.int .u8 1, .int .i64 7, .int .i64 0, .string ⟨#[]⟩, .int .u8 3, .int .i64 0, .int .i64 0, .string ⟨#[120]⟩] 53)
  have hB2 : Below w1.heap.size w1 (w1.alloc (.cells #[.int .u8 1, .int .i64 7, .int .i64 0, .string ⟨#[]⟩, .int .u8 3, .int .i64 0, .int .i64 0, .string ⟨#[120]⟩] 53)) := (Below.refl _ w1).alloc (Nat.le_refl _) _
  obtain ⟨w2, hw2⟩ : ∃ w2, w1.alloc (.cells #[.int .u8 1, .int .i64 7, .int .i64 0, .string ⟨#[]⟩, .int .u8 3, .int .i64 0, .int .i64 0, .string ⟨#[120]⟩] 53) = w2 := ⟨_, rfl⟩
  rw [hw2] at hblk hB2
  have hput : Calls Try.prog 5 #[.pointer (some ⟨m, 0, none⟩), .int .i64 1, .int .i64 5, .slice (some ⟨w1.heap.size, 0, none⟩) 2 2] w2 fun e w' => e = .returned (.tuple #[]) ∧ InstIs w' m awI (ext (fun k => w.heap.size ≤ k ∧ k < w1.heap.size) w2 w') [1] ∧ Chg w2 w' (fun k => w.heap.size ≤ k ∧ k < w1.heap.size) := by
    obtain ⟨mb, tb, rv, H, hD⟩ := H1
    exact put_calls (H.below hB2) hD 1 5 (okI_small (by decide) (by decide)) (okI_small (by decide) (by decide)) (some ⟨w1.heap.size, 0, none⟩) 2 [aw0, aw1] (fun W hc => C_two (t := 53) ((hc.block w1.heap.size (blk_lt hblk) (by omega)).trans hblk)) (Nat.le_refl _) (by decide)
  have HW2 := Aside0.mk hw2
  replace b1 := Aside0.mk (And.intro b1 (b1.trans (hB2.mono b1.size)))
  clear H1 hbd hblk hB2 hm
  go_wp2_with fail
  refine hput.mono ?_
  clear hput
  rintro e w3 ⟨rfl, H3, hc3⟩
  have b3 : Below w.heap.size w w3 := b1.out.2.trans (hc3.below b1.out.2.size (fun k hk => hk.1))
  have hrow : Calls Try.prog 7 #[.pointer (some ⟨m, 0, none⟩), .int .i64 1, .int .i64 5] w3 fun e w' => ∃ v, e = .returned (.tuple #[v, .bool true]) ∧ Kd.R kVal 53 w' w3.heap.size (fun _ => True) v [aw0, aw1] ∧ Below w3.heap.size w3 w' := by
    obtain ⟨mb, tb, rv, H, hD⟩ := H3
    have h := row_calls H 1 5 (okI_small (by decide) (by decide)) (okI_small (by decide) (by decide)) (fun l hl => by rw [awI_row] at hl; injection hl with hl; subst hl; decide)
    rw [awI_row] at h
    exact h
  have hFb : ∀ k, ext (fun k => w.heap.size ≤ k ∧ k < w1.heap.size) w2 w3 k → w.heap.size ≤ k := fun k hk => by
    rcases hk with hk | hk
    · exact hk.1
    · exact Nat.le_trans b1.out.2.size hk.1
  generalize hF3 : ext (fun k => w.heap.size ≤ k ∧ k < w1.heap.size) w2 w3 = F3 at H3 hFb
  have HH := Aside0.mk (And.intro H3 (And.intro b3 hFb))
  clear H3 hc3 b3 hF3 hFb HW2 b1
  clear hw2
  go_wp2_with fail
  refine hrow.mono ?_
  clear hrow
  rintro e w4 ⟨v, rfl, hv, hB4⟩
  obtain ⟨g, c, ev, hvc⟩ := R_vcells hv
  have ev' : v = .slice (some ⟨g, 0, none⟩) 2 c := ev
  subst ev'
  have y1 : w4.cell? ⟨g, 1, none⟩ = some (.int .i64 7) := hvc.2.1
  have hnx : Calls Try.prog 9 #[.pointer (some ⟨m, 0, none⟩), .int .i64 1] w4 fun e w' => e = .returned (.int .i64 6) ∧ InstIs w' m (awI.withLast 1 6) (ext F3 w4 w') [1, 1] ∧ Chg w4 w' F3 := by
    obtain ⟨mb, tb, rv, H, hD⟩ := HH.out.1.below hB4
    have h := next_calls H hD 1 (okI_small (by decide) (by decide)) (by rw [awI_last]; decide) (by rw [awI_last]; decide)
    rw [awI_last] at h
    exact h
  have b4 := Aside0.mk (HH.out.2.1.trans (hB4.mono HH.out.2.1.size))
  clear hvc hv ev hB4
  go_wp2_with fail
  refine hnx.mono ?_
  clear hnx
  rintro e w5 ⟨rfl, H5, hc5⟩
  have b5 := Aside0.mk (b4.out.trans (hc5.below b4.out.size HH.out.2.2))
  generalize hF5 : ext F3 w4 w5 = F5 at H5
  have hr5 : (awI.withLast 1 6).rows 1 5 = some [aw0, aw1] := awI_row
  have ho5 : ∀ x, (awI.withLast 1 6).rows 1 x ≠ none → x = 5 := awI_one
  obtain ⟨v0, hR0, hT⟩ := tells_one H5 hr5 ho5
  have hids := ids_calls w5 (.pointer (some ⟨m, 0, none⟩)) 1 [(5, v0)] (.inr ⟨m, rfl⟩) _ hT
  have hfind := Aside0.mk (fun (W : World) (hW : Below w5.heap.size w5 W) (b : Bool) (kx : AVal) (gc gk : Nat) cc hk hb => find_at b kx (H5.below hW) hr5 ho5 gc gk cc hk hb)
  clear H5 hc5 hF5 hR0 hT hr5 ho5 y1
  go_wp2_with fail
  refine hids.mono ?_
  clear hids
  rintro e w6 ⟨v6, rfl, hv6, hB6⟩
  obtain ⟨A6, c6, e6⟩ := Kd.R_slice hv6
  subst e6
  have hC6 := Kd.R_reads' hv6
  have hn6 := heap_alloc_new w6 (.cells #[.int .i64 5] 3)
  have hi6 := covenantref08_Ints.calls 2 A6 c6 [5] (some ⟨w6.heap.size, 0, none⟩) 1 [5] true (w6.alloc (.cells #[.int .i64 5] 3)) (Kd.C_below hC6.2.2 ((Below.refl _ w6).alloc (Nat.le_refl _) _)) hC6.2.1 (one_C hn6) (Nat.le_refl _) (ints1 5)
  have b6 := Aside0.mk (hB6.trans (((Below.refl _ w6).alloc (Nat.le_refl _) (.cells #[.int .i64 5] 3)).mono hB6.size))
  clear hv6 hB6 hC6 hn6
  go_wp2_with fail
  refine hi6.mono ?_
  clear hi6
  rintro e w7 ⟨rfl, d7⟩
  have b7 := Aside0.mk (b6.out.trans (d7.below.mono b6.out.size))
  clear d7
  obtain ⟨w8, hw8, b8, cc8, k8⟩ := lit_two w7 aw0
  have b8' := b7.out.trans (b8.mono b7.out.size)
  have hf8 := hfind.out w8 b8' true aw0 w7.heap.size (w7.heap.size + 1) cc8 k8 (.inl ⟨rfl, rfl⟩)
  have hw8' : (w7.alloc (.cells #[.int .i64 0] 3)).alloc (.cells #[.int .u8 1, .int .i64 7, .int .i64 0, .string ⟨#[]⟩] 53) = w8 := hw8
  replace b8' := Aside0.mk b8'
  clear b8 cc8 k8 hw8
  go_wp2_with fail
  refine hf8.mono ?_
  clear hf8
  rintro e w9 ⟨v9, rfl, hv9, hB9⟩
  have hv9' : Kd.R kInt 3 w9 w8.heap.size (fun _ => True) v9 [5] := hv9
  obtain ⟨A9, c9, e9⟩ := Kd.R_slice hv9'
  have e9' : v9 = .slice A9 1 c9 := e9
  subst e9'
  have hC9 := Kd.R_reads' hv9'
  have hn9 := heap_alloc_new w9 (.cells #[.int .i64 5] 3)
  have hi9 := covenantref08_Ints.calls 2 A9 c9 [5] (some ⟨w9.heap.size, 0, none⟩) 1 [5] true (w9.alloc (.cells #[.int .i64 5] 3)) (Kd.C_below hC9.2.2 ((Below.refl _ w9).alloc (Nat.le_refl _) _)) hC9.2.1 (one_C hn9) (Nat.le_refl _) (ints1 5)
  have b9 := Aside0.mk (b8'.out.trans ((hB9.trans (((Below.refl _ w9).alloc (Nat.le_refl _) (.cells #[.int .i64 5] 3)).mono hB9.size)).mono b8'.out.size))
  clear hv9 hv9' hB9 hC9 hn9 e9 hw8'
  go_wp2_with fail
  refine hi9.mono ?_
  clear hi9
  rintro e w10 ⟨rfl, d10⟩
  have b10 := Aside0.mk (b9.out.trans (d10.below.mono b9.out.size))
  clear d10
  obtain ⟨w11, hw11, b11, cc11, k11⟩ := lit_two w10 awN
  have b11' := b10.out.trans (b11.mono b10.out.size)
  have hf11 := hfind.out w11 b11' false awN w10.heap.size (w10.heap.size + 1) cc11 k11 (.inr ⟨rfl, rfl⟩)
  have hw11' : (w10.alloc (.cells #[.int .i64 0] 3)).alloc (.cells #[.int .u8 0, .int .i64 0, .int .i64 0, .string ⟨#[]⟩] 53) = w11 := hw11
  replace b11' := Aside0.mk b11'
  clear b11 cc11 k11 hw11
  go_wp2_with fail
  refine hf11.mono ?_
  clear hf11
  rintro e w12 ⟨v12, rfl, hv12, hB12⟩
  have hv12' : Kd.R kInt 3 w12 w11.heap.size (fun _ => True) v12 [] := hv12
  obtain ⟨A12, c12, e12⟩ := Kd.R_slice hv12'
  have e12' : v12 = .slice A12 0 c12 := e12
  subst e12'
  have b12 := Aside0.mk (b5.out.trans ((b11'.out.trans (hB12.mono b11'.out.size)).mono b5.out.size))
  clear hv12 hv12' hB12 e12 hw11'
  go_wp2
  go_ret
  exact ⟨rfl, b12.out⟩
end Go.Proofs.Ytdammjolkcjogaa

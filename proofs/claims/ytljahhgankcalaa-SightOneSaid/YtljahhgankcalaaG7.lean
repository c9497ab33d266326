import Derived.Test.YtljahhgankcalaaG6
import Derived.BigQuiet
/-! sight.Own: whether a row is one's own. -/
namespace Go.Proofs.Ytljahhgankcalaa
open Go.RowKit Go.Maps Go.MapKept Go.WideMaps Go.Shelf
open Go.Proofs.YtljahhgankcalaaW.PrintWords Go.Proofs.YtljahhgankcalaaW.PrintLast Go.Proofs.YtljahhgankcalaaW.PrintMore
theorem run_store_func {P : Program} {w : World} {a : Addr} {m : Mode} (f : Fn) (x y : Array Value) : (store a (.func f x y) m).run P w = stored P w a (.func f x y) m := run_store P w a _ m rfl
attribute [local go_sem] Oper.semAt_some run_store_func
set_option linter.unusedVariables false
set_option linter.unusedSimpArgs false

/-- A version counts for 'by': made by one that does, or ended by one that does. -/
def touched (by' : Int → Bool) (t : ATup) : Bool := by' t.f2 || (decide (t.f4 ≠ 0) && by' t.f4)
/-- A version is seen by 'by'. -/
def shown (by' : Int → Bool) (t : ATup) : Bool := by' t.f2 && !(decide (t.f4 ≠ 0) && by' t.f4)
def AH.ownRow (A : AH) (T : TT) (me no id : Int) : Bool := (A.rows (no, id)).any (fun s => touched (T.own me) (A.at s))
def AH.seenBy (A : AH) (by' : Int → Bool) (no id : Int) : Option Int := (A.rows (no, id)).reverse.find? (fun s => shown by' (A.at s))
def AH.seen (A : AH) (T : TT) (at' me no id : Int) : Option Int := A.seenBy (if A.ownRow T me no id then T.own me else T.sees at' me) no id

theorem cells_own {B k : Nat} {cs : Array Value} {t : TypeId} {fr : Nat × Nat} : OwnFrom B (fun (_ : Unit) W => W.heap[k]? = some (.cells cs t fr)) := fun s X Y row hs hg hr => by
  refine (hg.block k (blk_lt hs) (fun e => ?_)).trans hs
  obtain ⟨_, o, ho, hc⟩ := hr k e.symm
  rw [hs] at ho
  injection ho with ho
  subst ho
  simp [Obj.isCells] at hc
theorem keepsFrom_chg {B : Nat} {W W' : World} {S : Nat → Prop} (h : Chg W W' S) (hS : ∀ k, k < W.heap.size → S k → k < B) : KeepsFrom B W W' :=
  ⟨h.size, fun k o hk ho _ => (h.block k (blk_lt ho) (fun hs => by have := hS k (blk_lt ho) hs; omega)).trans ho⟩
theorem chg_own {W0 : World} {N : Nat} {S : Nat → Prop} (hS : ∀ k, N ≤ k → S k) {X Y : World} {row : Option Nat} (h : Chg W0 X S) (hg : X.grownBy Y row) (hr : ∀ r, row = some r → N ≤ r) : Chg W0 Y S :=
  h.trans (Chg.of_grown hg) (fun _ _ h => h) (fun k _ e => hS k (hr k e.symm))
theorem chg_ab {W0 : World} {S : Nat → Prop} {X Y : World} (h : Chg W0 X S) (hc : Chg X Y (fun _ => False)) : Chg W0 Y S :=
  h.trans hc (fun _ _ h => h) (fun _ _ h => h.elim)
theorem AH.Ok.there_of {A : AH} (hA : A.Ok) {p : Int × Int} {s : Int} (h : s ∈ A.rows p) : A.there s = true := ((hA.rows p s).1 h).1

set_option maxRecDepth 100000 in
set_option maxHeartbeats 4000000 in
theorem sown_calls (h x : Nat) (at' me no id : Int) (A : AH) (T : TT) (F Fx : Nat → Prop) (w : World) (H : HeapIs w h A F) (hA : A.Ok) (hL : A.Low) (HX : TabIs w x T Fx) (hOk : T.Ok) (ho : okW (no, id)) (hlen : (A.rows (no, id)).length < 17592186044000) :
    Calls Try.prog 31 #[.pointer (some ⟨h, 0, none⟩), .pointer (some ⟨x, 0, none⟩), .agg #[.int .i64 at', .int .i64 me], .int .i64 no, .int .i64 id] w fun e w' => e = .returned (.bool (A.ownRow T me no id)) ∧ Below w.heap.size w w' := by
  refine (callsIn_wide (n := 8)).1 ?_
  refine callsIn_of_wp_marks Try.func31 rfl trivial ?_ rfl
  simp only [Try.ntmps31, List.size_toArray, List.length_cons, List.length_nil, Nat.reduceAdd, Nat.reduceSub, Array.replicate_succ, Array.replicate_zero, List.push_toArray, List.append_toArray, List.nil_append, List.cons_append]
  have a0 := blk_new w (.cells #[.pointer (some ⟨x, 0, none⟩)] 46)
  replace a0 := blk_alloc (blk_alloc (blk_alloc (a0) (.cells #[.int .i64 at', .int .i64 me] 52)) (.cells #[.bool false] 4)) (.cells #[.nilFunc] 108)
  have a1 := blk_new (w.alloc (.cells #[.pointer (some ⟨x, 0, none⟩)] 46)) (.cells #[.int .i64 at', .int .i64 me] 52)
  rw [World.size_alloc] at a1
  replace a1 := blk_alloc (blk_alloc (a1) (.cells #[.bool false] 4)) (.cells #[.nilFunc] 108)
  have a2 := blk_new ((w.alloc (.cells #[.pointer (some ⟨x, 0, none⟩)] 46)).alloc (.cells #[.int .i64 at', .int .i64 me] 52)) (.cells #[.bool false] 4)
  rw [World.size_alloc, World.size_alloc] at a2
  replace a2 := blk_alloc (a2) (.cells #[.nilFunc] 108)
  have a3 := blk_new (((w.alloc (.cells #[.pointer (some ⟨x, 0, none⟩)] 46)).alloc (.cells #[.int .i64 at', .int .i64 me] 52)).alloc (.cells #[.bool false] 4)) (.cells #[.nilFunc] 108)
  rw [World.size_alloc, World.size_alloc, World.size_alloc] at a3
  have hcf : ((((w.alloc (.cells #[.pointer (some ⟨x, 0, none⟩)] 46)).alloc (.cells #[.int .i64 at', .int .i64 me] 52)).alloc (.cells #[.bool false] 4)).alloc (.cells #[.nilFunc] 108)).cell? ⟨w.heap.size + 1 + 1 + 1, 0, none⟩ = some Value.nilFunc := one_cell a3
  have hff : ((((w.alloc (.cells #[.pointer (some ⟨x, 0, none⟩)] 46)).alloc (.cells #[.int .i64 at', .int .i64 me] 52)).alloc (.cells #[.bool false] 4)).alloc (.cells #[.nilFunc] 108)).frozen? ⟨w.heap.size + 1 + 1 + 1, 0, none⟩ = false := blk_frozen a3 0
  have B1 : Below w.heap.size w ((((w.alloc (.cells #[.pointer (some ⟨x, 0, none⟩)] 46)).alloc (.cells #[.int .i64 at', .int .i64 me] 52)).alloc (.cells #[.bool false] 4)).alloc (.cells #[.nilFunc] 108)) := (((((Below.refl _ w).alloc (Nat.le_refl _) _).alloc (by simp; try omega) _).alloc (by simp; try omega) _).alloc (by simp; try omega) _)
  have s1 : ((((w.alloc (.cells #[.pointer (some ⟨x, 0, none⟩)] 46)).alloc (.cells #[.int .i64 at', .int .i64 me] 52)).alloc (.cells #[.bool false] 4)).alloc (.cells #[.nilFunc] 108)).heap.size = w.heap.size + 4 := by simp
  obtain ⟨wq, hwq⟩ : ∃ wq, (((w.alloc (.cells #[.pointer (some ⟨x, 0, none⟩)] 46)).alloc (.cells #[.int .i64 at', .int .i64 me] 52)).alloc (.cells #[.bool false] 4)).alloc (.cells #[.nilFunc] 108) = wq := ⟨_, rfl⟩
  rw [hwq] at hcf hff B1 s1 a0 a1 a2 a3
  replace a0 := blk_far a0 (p := ⟨w.heap.size + 1 + 1 + 1, 0, none⟩) (by simp; try omega) (.func (.func 68) #[] #[.pointer (some ⟨w.heap.size + 1, 0, none⟩), .pointer (some ⟨w.heap.size, 0, none⟩)])
  replace a1 := blk_far a1 (p := ⟨w.heap.size + 1 + 1 + 1, 0, none⟩) (by simp; try omega) (.func (.func 68) #[] #[.pointer (some ⟨w.heap.size + 1, 0, none⟩), .pointer (some ⟨w.heap.size, 0, none⟩)])
  replace a2 := blk_far a2 (p := ⟨w.heap.size + 1 + 1 + 1, 0, none⟩) (by simp; try omega) (.func (.func 68) #[] #[.pointer (some ⟨w.heap.size + 1, 0, none⟩), .pointer (some ⟨w.heap.size, 0, none⟩)])
  replace a3 := blk_put a3 0 (.func (.func 68) #[] #[.pointer (some ⟨w.heap.size + 1, 0, none⟩), .pointer (some ⟨w.heap.size, 0, none⟩)]) rfl
  replace B1 := B1.setCell (p := ⟨w.heap.size + 1 + 1 + 1, 0, none⟩) (by simp; try omega) (.func (.func 68) #[] #[.pointer (some ⟨w.heap.size + 1, 0, none⟩), .pointer (some ⟨w.heap.size, 0, none⟩)])
  have s2 : (wq.setCell ⟨w.heap.size + 1 + 1 + 1, 0, none⟩ (.func (.func 68) #[] #[.pointer (some ⟨w.heap.size + 1, 0, none⟩), .pointer (some ⟨w.heap.size, 0, none⟩)])).heap.size = w.heap.size + 4 := by rw [← s1]; simp [World.setCell]
  obtain ⟨w1, hw1⟩ : ∃ w1, wq.setCell ⟨w.heap.size + 1 + 1 + 1, 0, none⟩ (.func (.func 68) #[] #[.pointer (some ⟨w.heap.size + 1, 0, none⟩), .pointer (some ⟨w.heap.size, 0, none⟩)]) = w1 := ⟨_, rfl⟩
  rw [hw1] at B1 s2 a0 a1 a2 a3
  rw [← hwq] at hcf hff hw1
  clear s1 hwq
  clear wq
  have hver := versions_calls h no id A F w1 (H.below B1) ho hlen
  have HL := Aside0.mk hL
  have HA := Aside0.mk (And.intro a0 (And.intro a1 (And.intro a2 (And.intro a3 (And.intro B1 s2)))))
  have hXb := Aside0.mk HX.bound
  have hth := Aside0.mk (fun s (hs : s ∈ A.rows (no, id)) => hA.there_of hs)
  have HO := Aside0.mk hOk
  have HH := Aside0.mk H
  have HT := Aside0.mk HX
  clear a0 a1 a2 a3 B1 s2 H HX ho hA hL hlen hOk
  gi_wp2_with (fail)
  refine ⟨trivial, ?_⟩
  gi_at_call 70
  refine (callsIn_wide.2 hver).mono ?_
  clear hver hcf hff hw1
  rintro e W0 ⟨bl, bh, v, rfl, hh⟩
  replace hh := Aside0.mk hh
  gi_wp2
  obtain ⟨hbl, hbh, hne, bxl, bxh, hR, B2⟩ := hh.out
  clear hh
  obtain ⟨a0, a1, a2, a3, B1, s2⟩ := HA.out
  replace a0 := blk_below a0 B2
  replace a1 := blk_below a1 B2
  replace a2 := blk_below a2 B2
  replace a3 := blk_below a3 B2
  have hN := B2.size
  have hB0 := B1.trans (B2.mono B1.size)
  have HT0 := HT.out.below hB0
  have HH0 := HH.out.below hB0
  have hHb := HH.out.bound
  have hsb : ∀ k, W0.heap.size ≤ k → (k = w.heap.size + 1 + 1 ∨ W0.heap.size ≤ k) := fun k hk => .inr hk
  rw [s2] at hbl hbh hN hR
  have hblt := blk_lt bxl
  have hbht := blk_lt bxh
  clear HA B1 B2 HH HT s2
  clear w1
  refine rangeFunc_V rfl (by omega) (gf := 94) (lb := #[.pointer (some ⟨bl, 0, none⟩), .pointer (some ⟨bh, 0, none⟩)]) rfl trivial (enters_of Try.func94 (by kernel_rfl) rfl)
    (versions1_seq h bl bh (A.rows (no, id)) A F (fun k => k = w.heap.size + 1 + 1 ∨ W0.heap.size ≤ k) _ _ W0 v HH0 HL.out hth.out bxl bxh (Kd.R_bound hR) (fun k hk e => by have := hHb k hk; omega) (by omega) (by omega) (fun k hk hk2 e => by have := hk.2.1; omega) _ (by omega))
    (fun X Y k o hc hk hx ho _ => (hc.block k (Array.getElem?_eq_some_iff.1 hx).1 (fun h => h)).trans hx)
    (fun h1 h2 => h1.trans h2 (fun _ _ h => h) (fun _ _ h => h)) (fun W l o o' hl _ _ => chg_put o' hl (fun k hk => .inr hk)) (fun _ => rfl)
    (fun pre W => ∃ b : Bool, Boxed W (w.heap.size + 1 + 1) 4 (.bool b) ∧ Chg W0 W (fun k => k = w.heap.size + 1 + 1 ∨ W0.heap.size ≤ k) ∧ (versOf pre).any (fun s => touched (T.own me) (A.at s)) = false)
    (fun c pre W => c = .ret ∧ Boxed W (w.heap.size + 1 + 1) 4 (.bool true) ∧ Chg W0 W (fun k => k = w.heap.size + 1 + 1 ∨ W0.heap.size ≤ k) ∧ (versOf pre).any (fun s => touched (T.own me) (A.at s)) = true)
    (fun s X Y row hs hg hr => by
      obtain ⟨b, h1, h2, h3⟩ := hs
      exact ⟨b, h1.kept hg (fun e => by have := (hr _ e.symm).1; omega), chg_own hsb h2 hg (fun r e => (hr r e).1), h3⟩)
    (fun c s X Y row hs hg hr => by
      obtain ⟨h0, h1, h2, h3⟩ := hs
      exact ⟨h0, h1.kept hg (fun e => by have := (hr _ e.symm).1; omega), chg_own hsb h2 hg (fun r e => (hr r e).1), h3⟩)
    (fun s X Y hs hc => by
      obtain ⟨b, h1, h2, h3⟩ := hs
      exact ⟨b, hc.obj h1 (fun h => h), chg_ab h2 hc, h3⟩)
    (fun c s X Y hs hc => by
      obtain ⟨h0, h1, h2, h3⟩ := hs
      exact ⟨h0, hc.obj h1 (fun h => h), chg_ab h2 hc, h3⟩)
    ⟨false, a2, Chg.refl _ _, rfl⟩
    (fun (p : Ver A) a' W => ∃ Bx, W0.heap.size ≤ Bx ∧ W.heap[Bx]? = some (.cells #[.int .i64 (A.at p.slot).f0, .int .i64 (A.at p.slot).f1, .int .i64 (A.at p.slot).f2, .int .i64 (A.at p.slot).f3, .int .i64 (A.at p.slot).f4, .int .i64 (A.at p.slot).f5, .slice p.a p.n p.c] 39 (0, 0)) ∧
      a' = { tmps := #[.pointer (some ⟨h, 0, none⟩), .pointer (some ⟨x, 0, none⟩), .agg #[.int .i64 at', .int .i64 me], .int .i64 no, .int .i64 id, undef, .pointer (some ⟨w.heap.size, 0, none⟩), .pointer (some ⟨w.heap.size + 1, 0, none⟩), undef, undef, .pointer (some ⟨w.heap.size + 1 + 1, 0, none⟩), .pointer (some ⟨w.heap.size + 1 + 1 + 1, 0, none⟩), undef, .pointer (some ⟨Bx, 0, none⟩), .func (.func 68) #[] #[.pointer (some ⟨w.heap.size + 1, 0, none⟩), .pointer (some ⟨w.heap.size, 0, none⟩)], .pointer (some ⟨h, 0, none⟩), .int .i64 no, .int .i64 id, .func (.func 94) #[] #[.pointer (some ⟨bl, 0, none⟩), .pointer (some ⟨bh, 0, none⟩)], .int .i64 p.slot, tupV (A.at p.slot) p.a p.n p.c, undef, undef, undef, undef, undef, undef, undef, undef, undef], defers := [] })
    (fun p a' _ X Y row hs hg hr => by
      obtain ⟨Bx, h1, h2, h3⟩ := hs
      exact ⟨Bx, h1, cells_own () X Y row h2 hg hr, h3⟩)
    ?assign ?body ?done ?stop
  case assign =>
    rintro l pre ⟨s, pa, pn, pc, hps⟩ W K ⟨b, h1, h2, h3⟩ hK
    have hle := h2.size
    simp only [Ver.enc, tupV]
    gi_wp2
    exact hK _ _ ((KeepsOthers.alloc _ _).from _) ((Chg.refl W _).alloc _) ⟨b, h1.alloc _, h2.alloc _, h3⟩ ⟨W.heap.size, hle, World.alloc_heap_new W _, rfl⟩
  case body =>
    rintro l pre ⟨s, pa, pn, pc, hps⟩ a' W hl ⟨r, hr⟩ ⟨b, h1, h2, h3⟩ ⟨Bx, hBx, bX, rfl⟩ hlt
    have hn1 : 1 ≤ 8 - 1 - 1 := by omega
    have a0' := h2.obj a0 (by omega)
    have a1' := h2.obj a1 (by omega)
    have a3' := h2.obj a3 (by omega)
    have HTW := HT0.chg h2 (fun k hk e => by have := hXb.out k hk; omega)
    have hown := Aside0.mk (fun (W2 : World) (hb : Below W.heap.size W W2) (i : Int) => own1_calls (w.heap.size + 1) w.heap.size x at' me T Fx W2 (HTW.below hb) HO.out (blk_below a1' hb) (blk_below a0' hb) i)
    have hend := Aside0.mk (fun (W2 : World) (hb : Below W.heap.size W W2) => ended_own1 (A.at s) pa pn pc (w.heap.size + 1) w.heap.size (T.own me (A.at s).f4) W2 (fun _ W3 hb3 => hown.out W3 (hb.trans (hb3.mono hb.size)) _))
    have hfin : ∀ W2, Below W.heap.size W W2 → Chg W W2 (fun k => k = w.heap.size + 1 + 1) ∧ Boxed W2 (w.heap.size + 1 + 1) 4 (.bool b) ∧ Chg W0 W2 (fun k => k = w.heap.size + 1 + 1 ∨ W0.heap.size ≤ k) := fun W2 hb =>
      ⟨Chg.of_below hb _, blk_below h1 hb, h2.trans (Chg.of_below hb (fun _ => False)) (fun _ _ h => h) (fun _ _ h => h.elim)⟩
    have hret : ∀ W2, Below W.heap.size W W2 → touched (T.own me) (A.at s) = true → KeepsFrom W0.heap.size W (W2.setCell ⟨w.heap.size + 1 + 1, 0, none⟩ (.bool true)) ∧ (Boxed (W2.setCell ⟨w.heap.size + 1 + 1, 0, none⟩ (.bool true)) (w.heap.size + 1 + 1) 4 (.bool true) ∧ Chg W0 (W2.setCell ⟨w.heap.size + 1 + 1, 0, none⟩ (.bool true)) (fun k => k = w.heap.size + 1 + 1 ∨ W0.heap.size ≤ k) ∧ (versOf (pre ++ [⟨s, pa, pn, pc, hps⟩])).any (fun s => touched (T.own me) (A.at s)) = true) := fun W2 hb ht => by
      obtain ⟨g1, g2, g3⟩ := hfin W2 hb
      refine ⟨keepsFrom_chg (g1.setCell (p := ⟨w.heap.size + 1 + 1, 0, none⟩) (.inl rfl) _) (fun k _ e => by omega), g2.set _, g3.setCell (p := ⟨w.heap.size + 1 + 1, 0, none⟩) (.inl (.inl rfl)) _, ?_⟩
      rw [versOf_more, List.any_append, h3]
      simp [ht]
    have hgo : ∀ W2, Below W.heap.size W W2 → touched (T.own me) (A.at s) = false → KeepsFrom W0.heap.size W W2 ∧ Chg W W2 (fun k => k = w.heap.size + 1 + 1 ∨ W0.heap.size ≤ k) ∧ ∃ b : Bool, Boxed W2 (w.heap.size + 1 + 1) 4 (.bool b) ∧ Chg W0 W2 (fun k => k = w.heap.size + 1 + 1 ∨ W0.heap.size ≤ k) ∧ (versOf (pre ++ [⟨s, pa, pn, pc, hps⟩])).any (fun s => touched (T.own me) (A.at s)) = false := fun W2 hb ht => by
      obtain ⟨g1, g2, g3⟩ := hfin W2 hb
      refine ⟨keepsFrom_chg g1 (fun k _ e => by omega), g1.mono (fun _ _ e => .inl e), b, g2, g3, ?_⟩
      rw [versOf_more, List.any_append, h3]
      simp [ht]
    have ht : touched (T.own me) (A.at s) = (T.own me (A.at s).f2 || (decide ((A.at s).f4 ≠ 0) && T.own me (A.at s).f4)) := rfl
    have k3 := one_cell a3'
    have k1 := h1.cell
    have f1 := h1.frozen
    replace hret := Aside0.mk hret
    replace hgo := Aside0.mk hgo
    have hkeep : ∀ W2, Below W.heap.size W W2 → W2.heap[Bx]? = some (.cells #[.int .i64 (A.at s).f0, .int .i64 (A.at s).f1, .int .i64 (A.at s).f2, .int .i64 (A.at s).f3, .int .i64 (A.at s).f4, .int .i64 (A.at s).f5, .slice pa pn pc] 39 (0, 0)) ∧ W2.cell? ⟨w.heap.size + 1 + 1 + 1, 0, none⟩ = some (.func (.func 68) #[] #[.pointer (some ⟨w.heap.size + 1, 0, none⟩), .pointer (some ⟨w.heap.size, 0, none⟩)]) ∧
        W2.cell? ⟨w.heap.size + 1 + 1, 0, none⟩ = some (.bool b) ∧ W2.frozen? ⟨w.heap.size + 1 + 1, 0, none⟩ = false := fun W2 hb =>
      ⟨blk_below bX hb, one_cell (blk_below a3' hb), Boxed.cell (blk_below h1 hb), Boxed.frozen (blk_below h1 hb)⟩
    replace hkeep := Aside0.mk hkeep
    have q0 := blk_cell bX 0
    have q2 := blk_cell bX 2
    simp at q0 q2
    clear h1 h2 h3 a0' a1' a3' HTW hfin hr bX a0 a1 a2 a3 HT0 HH0 hsb hR bxl bxh
    generalize hF2 : T.own me (A.at s).f2 = o2 at ht
    generalize hF4 : (decide ((A.at s).f4 ≠ 0) && T.own me (A.at s).f4) = o4 at ht
    have hcall := hown.out W (Below.refl _ _) (A.at s).f2
    rw [hF2] at hcall
    rw [hF4] at hend
    clear hown hF2 hF4
    cases o2 with
    | true =>
      replace ht : Aside0 (touched (T.own me) (A.at s) = true) := ⟨by rw [ht]; rfl⟩
      gi_wp2_with (fail)
      refine ⟨trivial, ?_⟩
      gi_at_call 68
      refine (CallsIn.inRound l (callsIn_wide.2 hcall)).mono ?_
      clear hcall k3 k1 f1 q0 q2
      rintro e W2 ⟨rfl, b2⟩
      obtain ⟨bX2, k3, k1, f1⟩ := hkeep.out W2 b2
      have q0 := blk_cell bX2 0
      have q1 := blk_cell bX2 1
      have q2 := blk_cell bX2 2
      have q3 := blk_cell bX2 3
      have q4 := blk_cell bX2 4
      have q5 := blk_cell bX2 5
      have q6 := blk_cell bX2 6
      simp at q0 q1 q2 q3 q4 q5 q6
      clear bX2
      replace b2 := Aside0.mk b2
      gi_wp2
      refine ⟨trivial, ?_⟩
      gi_wp2
      obtain ⟨r1, r2, r3, r4⟩ := hret.out W2 b2.out ht.out
      exact ⟨r1, rfl, r2, r3, r4⟩
    | false =>
      replace ht : touched (T.own me) (A.at s) = o4 := by rw [ht]; simp
      gi_wp2_with (fail)
      refine ⟨trivial, ?_⟩
      gi_at_call 68
      refine (CallsIn.inRound l (callsIn_wide.2 hcall)).mono ?_
      clear hcall k3 k1 f1 q0 q2
      rintro e W2 ⟨rfl, b2⟩
      obtain ⟨bX2, k3, k1, f1⟩ := hkeep.out W2 b2
      have q0 := blk_cell bX2 0
      have q1 := blk_cell bX2 1
      have q2 := blk_cell bX2 2
      have q3 := blk_cell bX2 3
      have q4 := blk_cell bX2 4
      have q5 := blk_cell bX2 5
      have q6 := blk_cell bX2 6
      simp at q0 q1 q2 q3 q4 q5 q6
      clear bX2
      have hcall2 := hend.out W2 b2
      rw [tupV] at hcall2
      replace b2 := Aside0.mk b2
      cases o4 with
      | true =>
        replace ht := Aside0.mk ht
        gi_wp2_with (fail)
        refine ⟨trivial, ?_⟩
        gi_at_call 71
        refine (CallsIn.inRound l (callsIn_wide.2 hcall2)).mono ?_
        clear hcall2 k3 k1 f1 q0 q1 q2 q3 q4 q5 q6
        rintro e W3 ⟨rfl, b3⟩
        have b4 := b2.out.trans (b3.mono b2.out.size)
        obtain ⟨bX2, k3, k1, f1⟩ := hkeep.out W3 b4
        clear bX2 b3
        replace b4 := Aside0.mk b4
        gi_wp2
        obtain ⟨r1, r2, r3, r4⟩ := hret.out W3 b4.out ht.out
        exact ⟨r1, rfl, r2, r3, r4⟩
      | false =>
        replace ht := Aside0.mk ht
        gi_wp2_with (fail)
        refine ⟨trivial, ?_⟩
        gi_at_call 71
        refine (CallsIn.inRound l (callsIn_wide.2 hcall2)).mono ?_
        clear hcall2 k3 k1 f1 q0 q1 q2 q3 q4 q5 q6
        rintro e W3 ⟨rfl, b3⟩
        have b4 := Aside0.mk (b2.out.trans (b3.mono b2.out.size))
        clear b3
        gi_wp2
        exact hgo.out W3 b4.out ht.out
  case done =>
    rintro D xs W hD hxs ⟨b, h1, h2, h3⟩ hK
    rw [hxs] at h3
    have c1 := h1.cell
    have f1 := h1.frozen
    have hcn : A.ownRow T me no id = false := by
      unfold AH.ownRow
      rw [← List.any_reverse]
      exact h3
    gi_wp2
    have hK2 := (KeepsOthers.setCell W ⟨w.heap.size + 1 + 1, 0, none⟩ (.bool false)).same D _ hK rfl
    refine ⟨by simp, .inl ⟨_, _, rfl, run_takeDeferred hK2, ?_⟩⟩
    have hB2 := (hB0.trans (h2.below hB0.size (fun k e => by omega))).setCell (p := ⟨w.heap.size + 1 + 1, 0, none⟩) (by simp; omega) (.bool false)
    refine ⟨_, results_box rfl _ _ rfl (((h1.set (.bool false)).kept (grownBy_putObj' _ D (.deferred none)) (fun e => by injection e; omega)).cell), by rw [hcn], ?_⟩
    exact hB2.trans (belowK_b (w := W0) hB0.size _ D _ _ hD hK2 rfl rfl)
  case stop =>
    rintro D c pre W hD hpre ⟨rfl, h1, h2, h3⟩ hK
    have c1 := h1.cell
    have f1 := h1.frozen
    have hcn : A.ownRow T me no id = true := by
      obtain ⟨r, hr⟩ := hpre
      unfold AH.ownRow
      rw [← List.any_reverse, ← hr, List.any_append, h3]
      rfl
    gi_wp2
    refine ⟨by simp, .inl ⟨_, _, rfl, run_takeDeferred hK, ?_⟩⟩
    refine ⟨_, results_box rfl _ _ rfl ((h1.kept (grownBy_putObj' _ D (.deferred none)) (fun e => by injection e; omega)).cell), by rw [hcn], ?_⟩
    exact (hB0.trans (h2.below hB0.size (fun k e => by omega))).trans (belowK_b (w := W0) hB0.size _ D _ _ hD hK rfl rfl)
end Go.Proofs.Ytljahhgankcalaa

/-! sight.Seen: the version that is seen of a row. Printed by gensn.py. -/
namespace Go.Proofs.Ytljahhgankcalaa
open Go.RowKit Go.Maps Go.MapKept Go.WideMaps Go.Shelf
open Go.Proofs.YtljahhgankcalaaW.PrintWords Go.Proofs.YtljahhgankcalaaW.PrintLast Go.Proofs.YtljahhgankcalaaW.PrintMore
attribute [local go_sem] Oper.semAt_some run_store_func
set_option linter.unusedVariables false
set_option linter.unusedSimpArgs false

theorem results_box2 {fn : Func} {p q : Tmp} {i : Int} {b : Bool} {g g2 : Nat} (h : fn.results = #[.cell p 3, .cell q 4]) (tmps : Array Value) (w : World) (hp : tmps.getD p undef = .pointer (some ⟨g, 0, none⟩)) (hq : tmps.getD q undef = .pointer (some ⟨g2, 0, none⟩))
    (hc : w.cell? ⟨g, 0, none⟩ = some (.int .i64 i)) (hc2 : w.cell? ⟨g2, 0, none⟩ = some (.bool b)) : (results fn tmps).run Try.prog w = .ok (.tuple #[.int .i64 i, .bool b]) w := by
  have hp' : tmps[p]?.getD undef = .pointer (some ⟨g, 0, none⟩) := by simpa using hp
  have hq' : tmps[q]?.getD undef = .pointer (some ⟨g2, 0, none⟩) := by simpa using hq
  simp [results, h, hp', hq', asAddr, go_sem, hc, hc2]

set_option maxRecDepth 100000 in
set_option maxHeartbeats 8000000 in
theorem seen_no (h x : Nat) (at' me no id : Int) (A : AH) (T : TT) (F Fx : Nat → Prop) (w : World) (H : HeapIs w h A F) (hA : A.Ok) (hL : A.Low) (HX : TabIs w x T Fx) (hOk : T.Ok) (ho : okW (no, id)) (hlen : (A.rows (no, id)).length < 17592186044000) (hown : A.ownRow T me no id = false) :
    Calls Try.prog 32 #[.pointer (some ⟨h, 0, none⟩), .pointer (some ⟨x, 0, none⟩), .agg #[.int .i64 at', .int .i64 me], .int .i64 no, .int .i64 id] w fun e w' => e = .returned (.tuple #[.int .i64 ((A.seenBy (T.sees at' me) no id).getD 0), .bool (A.seenBy (T.sees at' me) no id).isSome]) ∧ Below w.heap.size w w' := by
  refine (callsIn_wide (n := 12)).1 ?_
  refine callsIn_of_wp_marks Try.func32 rfl trivial ?_ rfl
  simp only [Try.ntmps32, List.size_toArray, List.length_cons, List.length_nil, Nat.reduceAdd, Nat.reduceSub, Array.replicate_succ, Array.replicate_zero, List.push_toArray, List.append_toArray, List.nil_append, List.cons_append]
  have a0 := blk_new w (.cells #[.pointer (some ⟨x, 0, none⟩)] 46)
  replace a0 := blk_alloc (blk_alloc (blk_alloc (blk_alloc (a0) (.cells #[.int .i64 at', .int .i64 me] 52)) (.cells #[.int .i64 0] 3)) (.cells #[.bool false] 4)) (.cells #[.nilFunc] 108)
  have a1 := blk_new (w.alloc (.cells #[.pointer (some ⟨x, 0, none⟩)] 46)) (.cells #[.int .i64 at', .int .i64 me] 52)
  rw [World.size_alloc] at a1
  replace a1 := blk_alloc (blk_alloc (blk_alloc (a1) (.cells #[.int .i64 0] 3)) (.cells #[.bool false] 4)) (.cells #[.nilFunc] 108)
  have a2 := blk_new ((w.alloc (.cells #[.pointer (some ⟨x, 0, none⟩)] 46)).alloc (.cells #[.int .i64 at', .int .i64 me] 52)) (.cells #[.int .i64 0] 3)
  rw [World.size_alloc, World.size_alloc] at a2
  replace a2 := blk_alloc (blk_alloc (a2) (.cells #[.bool false] 4)) (.cells #[.nilFunc] 108)
  have a3 := blk_new (((w.alloc (.cells #[.pointer (some ⟨x, 0, none⟩)] 46)).alloc (.cells #[.int .i64 at', .int .i64 me] 52)).alloc (.cells #[.int .i64 0] 3)) (.cells #[.bool false] 4)
  rw [World.size_alloc, World.size_alloc, World.size_alloc] at a3
  replace a3 := blk_alloc (a3) (.cells #[.nilFunc] 108)
  have a4 := blk_new ((((w.alloc (.cells #[.pointer (some ⟨x, 0, none⟩)] 46)).alloc (.cells #[.int .i64 at', .int .i64 me] 52)).alloc (.cells #[.int .i64 0] 3)).alloc (.cells #[.bool false] 4)) (.cells #[.nilFunc] 108)
  rw [World.size_alloc, World.size_alloc, World.size_alloc, World.size_alloc] at a4
  have hcf : (((((w.alloc (.cells #[.pointer (some ⟨x, 0, none⟩)] 46)).alloc (.cells #[.int .i64 at', .int .i64 me] 52)).alloc (.cells #[.int .i64 0] 3)).alloc (.cells #[.bool false] 4)).alloc (.cells #[.nilFunc] 108)).cell? ⟨w.heap.size + 1 + 1 + 1 + 1, 0, none⟩ = some Value.nilFunc := one_cell a4
  have hff : (((((w.alloc (.cells #[.pointer (some ⟨x, 0, none⟩)] 46)).alloc (.cells #[.int .i64 at', .int .i64 me] 52)).alloc (.cells #[.int .i64 0] 3)).alloc (.cells #[.bool false] 4)).alloc (.cells #[.nilFunc] 108)).frozen? ⟨w.heap.size + 1 + 1 + 1 + 1, 0, none⟩ = false := blk_frozen a4 0
  have B1 : Below w.heap.size w (((((w.alloc (.cells #[.pointer (some ⟨x, 0, none⟩)] 46)).alloc (.cells #[.int .i64 at', .int .i64 me] 52)).alloc (.cells #[.int .i64 0] 3)).alloc (.cells #[.bool false] 4)).alloc (.cells #[.nilFunc] 108)) := ((((((Below.refl _ w).alloc (Nat.le_refl _) _).alloc (by simp; try omega) _).alloc (by simp; try omega) _).alloc (by simp; try omega) _).alloc (by simp; try omega) _)
  have s1 : (((((w.alloc (.cells #[.pointer (some ⟨x, 0, none⟩)] 46)).alloc (.cells #[.int .i64 at', .int .i64 me] 52)).alloc (.cells #[.int .i64 0] 3)).alloc (.cells #[.bool false] 4)).alloc (.cells #[.nilFunc] 108)).heap.size = w.heap.size + 5 := by simp
  obtain ⟨wq, hwq⟩ : ∃ wq, ((((w.alloc (.cells #[.pointer (some ⟨x, 0, none⟩)] 46)).alloc (.cells #[.int .i64 at', .int .i64 me] 52)).alloc (.cells #[.int .i64 0] 3)).alloc (.cells #[.bool false] 4)).alloc (.cells #[.nilFunc] 108) = wq := ⟨_, rfl⟩
  rw [hwq] at hcf hff B1 s1 a0 a1 a2 a3 a4
  replace a0 := blk_far a0 (p := ⟨w.heap.size + 1 + 1 + 1 + 1, 0, none⟩) (by simp; try omega) (.func (.func 72) #[] #[.pointer (some ⟨w.heap.size + 1, 0, none⟩), .pointer (some ⟨w.heap.size, 0, none⟩)])
  replace a1 := blk_far a1 (p := ⟨w.heap.size + 1 + 1 + 1 + 1, 0, none⟩) (by simp; try omega) (.func (.func 72) #[] #[.pointer (some ⟨w.heap.size + 1, 0, none⟩), .pointer (some ⟨w.heap.size, 0, none⟩)])
  replace a2 := blk_far a2 (p := ⟨w.heap.size + 1 + 1 + 1 + 1, 0, none⟩) (by simp; try omega) (.func (.func 72) #[] #[.pointer (some ⟨w.heap.size + 1, 0, none⟩), .pointer (some ⟨w.heap.size, 0, none⟩)])
  replace a3 := blk_far a3 (p := ⟨w.heap.size + 1 + 1 + 1 + 1, 0, none⟩) (by simp; try omega) (.func (.func 72) #[] #[.pointer (some ⟨w.heap.size + 1, 0, none⟩), .pointer (some ⟨w.heap.size, 0, none⟩)])
  replace a4 := blk_put a4 0 (.func (.func 72) #[] #[.pointer (some ⟨w.heap.size + 1, 0, none⟩), .pointer (some ⟨w.heap.size, 0, none⟩)]) rfl
  replace B1 := B1.setCell (p := ⟨w.heap.size + 1 + 1 + 1 + 1, 0, none⟩) (by simp; try omega) (.func (.func 72) #[] #[.pointer (some ⟨w.heap.size + 1, 0, none⟩), .pointer (some ⟨w.heap.size, 0, none⟩)])
  have s2 : (wq.setCell ⟨w.heap.size + 1 + 1 + 1 + 1, 0, none⟩ (.func (.func 72) #[] #[.pointer (some ⟨w.heap.size + 1, 0, none⟩), .pointer (some ⟨w.heap.size, 0, none⟩)])).heap.size = w.heap.size + 5 := by rw [← s1]; simp [World.setCell]
  obtain ⟨w1, hw1⟩ : ∃ w1, wq.setCell ⟨w.heap.size + 1 + 1 + 1 + 1, 0, none⟩ (.func (.func 72) #[] #[.pointer (some ⟨w.heap.size + 1, 0, none⟩), .pointer (some ⟨w.heap.size, 0, none⟩)]) = w1 := ⟨_, rfl⟩
  rw [hw1] at B1 s2 a0 a1 a2 a3 a4
  rw [← hwq] at hcf hff hw1
  clear s1 hwq
  clear wq
  have hso := sown_calls h x at' me no id A T F Fx w1 (H.below B1) hA hL (HX.below B1) hOk ho hlen
  rw [hown] at hso
  have hver0 := Aside0.mk (fun W (hb : Below w.heap.size w W) => versions_calls h no id A F W (H.below hb) ho hlen)
  have x0 := one_cell a0
  have v0 := blk_cell a1 0
  have v1 := blk_cell a1 1
  simp at v0 v1
  have HA := Aside0.mk (And.intro a0 (And.intro a1 (And.intro a2 (And.intro a3 (And.intro a4 (And.intro B1 s2))))))
  have HL := Aside0.mk hL
  have hXb := Aside0.mk HX.bound
  have hth := Aside0.mk (fun s (hs : s ∈ A.rows (no, id)) => hA.there_of hs)
  have HO := Aside0.mk hOk
  have HH := Aside0.mk H
  have HT := Aside0.mk HX
  clear a0 a1 a2 a3 a4 B1 s2 H HX ho hA hL hlen hOk hown
  gi_wp2_with (fail)
  refine ⟨trivial, ?_⟩
  gi_at_call 31
  refine (callsIn_wide.2 hso).mono ?_
  clear hso hcf hff hw1 x0 v0 v1
  rintro e w2 ⟨rfl, b2⟩
  obtain ⟨a0, a1, a2, a3, a4, B1, s2⟩ := HA.out
  have hsz2 := b2.size
  replace a0 := blk_below a0 b2
  replace a1 := blk_below a1 b2
  replace a2 := blk_below a2 b2
  replace a3 := blk_below a3 b2
  replace a4 := blk_below a4 b2
  replace B1 := B1.trans (b2.mono B1.size)
  replace s2 : w.heap.size + 5 ≤ w2.heap.size := by rw [← s2]; exact hsz2
  obtain ⟨w3, hw3⟩ : ∃ w3, w2 = w3 := ⟨_, rfl⟩
  subst hw3
  have hver := hver0.out w2 B1
  replace HA := Aside0.mk (And.intro a0 (And.intro a1 (And.intro a2 (And.intro a3 (And.intro a4 (And.intro B1 s2))))))
  clear hver0 a0 a1 a2 a3 a4 B1 s2 hsz2 b2
  gi_wp2_with (fail)
  refine ⟨trivial, ?_⟩
  gi_at_call 70
  refine (callsIn_wide.2 hver).mono ?_
  clear hver
  rintro e W0 ⟨bl, bh, v, rfl, hh⟩
  replace hh := Aside0.mk hh
  gi_wp2
  obtain ⟨hbl, hbh, hne, bxl, bxh, hR, B2⟩ := hh.out
  clear hh
  obtain ⟨a0, a1, a2, a3, a4, B1, s2⟩ := HA.out
  replace a0 := blk_below a0 B2
  replace a1 := blk_below a1 B2
  replace a2 := blk_below a2 B2
  replace a3 := blk_below a3 B2
  replace a4 := blk_below a4 B2
  have hN := B2.size
  have hB0 := B1.trans (B2.mono B1.size)
  have HT0 := HT.out.below hB0
  have HH0 := HH.out.below hB0
  have hHb := HH.out.bound
  have hsb : ∀ k, W0.heap.size ≤ k → (k = w.heap.size + 1 + 1 ∨ k = w.heap.size + 1 + 1 + 1 ∨ W0.heap.size ≤ k) := fun k hk => .inr (.inr hk)
  replace bxl := Aside0.mk bxl
  replace bxh := Aside0.mk bxh
  replace hbl := Nat.le_trans s2 hbl
  replace hbh := Nat.le_trans s2 hbh
  have hR5 := Kd.R_mono (Kd.R_bound hR) (ok' := fun k => w.heap.size + 5 ≤ k ∧ k < W0.heap.size) (fun k hk => ⟨Nat.le_trans s2 hk.2.1, hk.2.2.1⟩)
  replace hN := Nat.le_trans s2 hN
  have hblt := blk_lt bxl.out
  have hbht := blk_lt bxh.out
  clear HA B1 B2 HH HT s2 hR
  refine rangeFunc_V rfl (by omega) (gf := 94) (lb := #[.pointer (some ⟨bl, 0, none⟩), .pointer (some ⟨bh, 0, none⟩)]) rfl trivial (enters_of Try.func94 (by kernel_rfl) rfl)
    (versions1_seq h bl bh (A.rows (no, id)) A F (fun k => k = w.heap.size + 1 + 1 ∨ k = w.heap.size + 1 + 1 + 1 ∨ W0.heap.size ≤ k) _ _ W0 v HH0 HL.out hth.out bxl.out bxh.out hR5 (fun k hk e => by have := hHb k hk; omega) (by omega) (by omega) (fun k hk hk2 e => by omega) _ (by omega))
    (fun X Y k o hc hk hx ho _ => (hc.block k (Array.getElem?_eq_some_iff.1 hx).1 (fun h => h)).trans hx)
    (fun h1 h2 => h1.trans h2 (fun _ _ h => h) (fun _ _ h => h)) (fun W l o o' hl _ _ => chg_put o' hl (fun k hk => .inr (.inr hk))) (fun _ => rfl)
    (fun pre W => ∃ (i : Int) (b : Bool), Boxed W (w.heap.size + 1 + 1) 3 (.int .i64 i) ∧ Boxed W (w.heap.size + 1 + 1 + 1) 4 (.bool b) ∧ Chg W0 W (fun k => k = w.heap.size + 1 + 1 ∨ k = w.heap.size + 1 + 1 + 1 ∨ W0.heap.size ≤ k) ∧ (versOf pre).find? (fun s => shown (T.sees at' me) (A.at s)) = none)
    (fun c pre W => c = .ret ∧ ∃ i : Int, Boxed W (w.heap.size + 1 + 1) 3 (.int .i64 i) ∧ Boxed W (w.heap.size + 1 + 1 + 1) 4 (.bool true) ∧ Chg W0 W (fun k => k = w.heap.size + 1 + 1 ∨ k = w.heap.size + 1 + 1 + 1 ∨ W0.heap.size ≤ k) ∧ (versOf pre).find? (fun s => shown (T.sees at' me) (A.at s)) = some i)
    (fun s X Y row hs hg hr => by
      obtain ⟨i, b, h1, h1b, h2, h3⟩ := hs
      exact ⟨i, b, h1.kept hg (fun e => by have := (hr _ e.symm).1; omega), h1b.kept hg (fun e => by have := (hr _ e.symm).1; omega), chg_own hsb h2 hg (fun r e => (hr r e).1), h3⟩)
    (fun c s X Y row hs hg hr => by
      obtain ⟨h0, i, h1, h1b, h2, h3⟩ := hs
      exact ⟨h0, i, h1.kept hg (fun e => by have := (hr _ e.symm).1; omega), h1b.kept hg (fun e => by have := (hr _ e.symm).1; omega), chg_own hsb h2 hg (fun r e => (hr r e).1), h3⟩)
    (fun s X Y hs hc => by
      obtain ⟨i, b, h1, h1b, h2, h3⟩ := hs
      exact ⟨i, b, hc.obj h1 (fun h => h), hc.obj h1b (fun h => h), chg_ab h2 hc, h3⟩)
    (fun c s X Y hs hc => by
      obtain ⟨h0, i, h1, h1b, h2, h3⟩ := hs
      exact ⟨h0, i, hc.obj h1 (fun h => h), hc.obj h1b (fun h => h), chg_ab h2 hc, h3⟩)
    ⟨0, false, a2, a3, Chg.refl _ _, rfl⟩
    (fun (p : Ver A) a' W => ∃ Bx, W0.heap.size ≤ Bx ∧ W.heap[Bx]? = some (.cells #[.int .i64 (A.at p.slot).f0, .int .i64 (A.at p.slot).f1, .int .i64 (A.at p.slot).f2, .int .i64 (A.at p.slot).f3, .int .i64 (A.at p.slot).f4, .int .i64 (A.at p.slot).f5, .slice p.a p.n p.c] 39 (0, 0)) ∧
      a' = { tmps := #[.pointer (some ⟨h, 0, none⟩), .pointer (some ⟨x, 0, none⟩), .agg #[.int .i64 at', .int .i64 me], .int .i64 no, .int .i64 id, undef, .pointer (some ⟨w.heap.size, 0, none⟩), .pointer (some ⟨w.heap.size + 1, 0, none⟩), undef, undef, .pointer (some ⟨w.heap.size + 1 + 1, 0, none⟩), .pointer (some ⟨w.heap.size + 1 + 1 + 1, 0, none⟩), .pointer (some ⟨w.heap.size + 1 + 1 + 1 + 1, 0, none⟩), .int .i64 p.slot, .pointer (some ⟨Bx, 0, none⟩), .func (.func 72) #[] #[.pointer (some ⟨w.heap.size + 1, 0, none⟩), .pointer (some ⟨w.heap.size, 0, none⟩)], .pointer (some ⟨h, 0, none⟩), .pointer (some ⟨x, 0, none⟩), .agg #[.int .i64 at', .int .i64 me], .int .i64 no, .int .i64 id, .bool false, undef, .pointer (some ⟨h, 0, none⟩), .int .i64 no, .int .i64 id, .func (.func 94) #[] #[.pointer (some ⟨bl, 0, none⟩), .pointer (some ⟨bh, 0, none⟩)], .int .i64 p.slot, tupV (A.at p.slot) p.a p.n p.c, undef, undef, undef, undef, undef, undef, undef, undef, undef, undef, undef], defers := [] })
    (fun p a' _ X Y row hs hg hr => by
      obtain ⟨Bx, h1, h2, h3⟩ := hs
      exact ⟨Bx, h1, cells_own () X Y row h2 hg hr, h3⟩)
    ?assign ?body ?done ?stop
  case assign =>
    rintro l pre ⟨s, pa, pn, pc, hps⟩ W K ⟨i, b, h1, h1b, h2, h3⟩ hK
    have hle := h2.size
    simp only [Ver.enc, tupV]
    gi_wp2
    exact hK _ _ ((KeepsOthers.alloc _ _).from _) ((Chg.refl W _).alloc _) ⟨i, b, h1.alloc _, h1b.alloc _, h2.alloc _, h3⟩ ⟨W.heap.size, hle, World.alloc_heap_new W _, rfl⟩
  case body =>
    rintro l pre ⟨s, pa, pn, pc, hps⟩ a' W hl ⟨r, hr⟩ ⟨i, b, h1, h1b, h2, h3⟩ ⟨Bx, hBx, bX, rfl⟩ hlt
    have hn1 : 1 ≤ 12 - 1 - 1 := by omega
    have a0' := h2.obj a0 (by omega)
    have a1' := h2.obj a1 (by omega)
    have a4' := h2.obj a4 (by omega)
    have HTW := HT0.chg h2 (fun k hk e => by have := hXb.out k hk; omega)
    have hown := Aside0.mk (fun (W2 : World) (hb : Below W.heap.size W W2) (i : Int) => seen1_calls (w.heap.size + 1) w.heap.size x at' me T Fx W2 (HTW.below hb) HO.out (blk_below a1' hb) (blk_below a0' hb) i)
    have hend := Aside0.mk (fun (W2 : World) (hb : Below W.heap.size W W2) => ended_seen1 (A.at s) pa pn pc (w.heap.size + 1) w.heap.size (T.sees at' me (A.at s).f4) W2 (fun _ W3 hb3 => hown.out W3 (hb.trans (hb3.mono hb.size)) _))
    have hfin : ∀ W2, Below W.heap.size W W2 → Chg W W2 (fun k => k = w.heap.size + 1 + 1 ∨ k = w.heap.size + 1 + 1 + 1) ∧ Boxed W2 (w.heap.size + 1 + 1) 3 (.int .i64 i) ∧ Boxed W2 (w.heap.size + 1 + 1 + 1) 4 (.bool b) ∧ Chg W0 W2 (fun k => k = w.heap.size + 1 + 1 ∨ k = w.heap.size + 1 + 1 + 1 ∨ W0.heap.size ≤ k) := fun W2 hb =>
      ⟨Chg.of_below hb _, blk_below h1 hb, blk_below h1b hb, h2.trans (Chg.of_below hb (fun _ => False)) (fun _ _ h => h) (fun _ _ h => h.elim)⟩
    have hret : ∀ W2, Below W.heap.size W W2 → shown (T.sees at' me) (A.at s) = true → KeepsFrom W0.heap.size W ((W2.setCell ⟨w.heap.size + 1 + 1, 0, none⟩ (.int .i64 s)).setCell ⟨w.heap.size + 1 + 1 + 1, 0, none⟩ (.bool true)) ∧ (∃ i : Int, Boxed ((W2.setCell ⟨w.heap.size + 1 + 1, 0, none⟩ (.int .i64 s)).setCell ⟨w.heap.size + 1 + 1 + 1, 0, none⟩ (.bool true)) (w.heap.size + 1 + 1) 3 (.int .i64 i) ∧
        Boxed ((W2.setCell ⟨w.heap.size + 1 + 1, 0, none⟩ (.int .i64 s)).setCell ⟨w.heap.size + 1 + 1 + 1, 0, none⟩ (.bool true)) (w.heap.size + 1 + 1 + 1) 4 (.bool true) ∧ Chg W0 ((W2.setCell ⟨w.heap.size + 1 + 1, 0, none⟩ (.int .i64 s)).setCell ⟨w.heap.size + 1 + 1 + 1, 0, none⟩ (.bool true)) (fun k => k = w.heap.size + 1 + 1 ∨ k = w.heap.size + 1 + 1 + 1 ∨ W0.heap.size ≤ k) ∧ (versOf (pre ++ [⟨s, pa, pn, pc, hps⟩])).find? (fun s => shown (T.sees at' me) (A.at s)) = some i) := fun W2 hb ht => by
      obtain ⟨g1, g2, g2b, g3⟩ := hfin W2 hb
      refine ⟨keepsFrom_chg ((g1.setCell (p := ⟨w.heap.size + 1 + 1, 0, none⟩) (.inl (.inl rfl)) _).setCell (p := ⟨w.heap.size + 1 + 1 + 1, 0, none⟩) (.inl (.inr rfl)) _) (fun k _ e => by omega), s, (g2.set _).other (by omega) _, (g2b.other (by omega) _).set _, (g3.setCell (p := ⟨w.heap.size + 1 + 1, 0, none⟩) (.inl (.inl rfl)) _).setCell (p := ⟨w.heap.size + 1 + 1 + 1, 0, none⟩) (.inl (.inr (.inl rfl))) _, ?_⟩
      rw [versOf_more, List.find?_append, h3]
      simp [ht]
    have hgo : ∀ W2, Below W.heap.size W W2 → shown (T.sees at' me) (A.at s) = false → KeepsFrom W0.heap.size W W2 ∧ Chg W W2 (fun k => k = w.heap.size + 1 + 1 ∨ k = w.heap.size + 1 + 1 + 1 ∨ W0.heap.size ≤ k) ∧ ∃ (i : Int) (b : Bool), Boxed W2 (w.heap.size + 1 + 1) 3 (.int .i64 i) ∧ Boxed W2 (w.heap.size + 1 + 1 + 1) 4 (.bool b) ∧ Chg W0 W2 (fun k => k = w.heap.size + 1 + 1 ∨ k = w.heap.size + 1 + 1 + 1 ∨ W0.heap.size ≤ k) ∧ (versOf (pre ++ [⟨s, pa, pn, pc, hps⟩])).find? (fun s => shown (T.sees at' me) (A.at s)) = none := fun W2 hb ht => by
      obtain ⟨g1, g2, g2b, g3⟩ := hfin W2 hb
      refine ⟨keepsFrom_chg g1 (fun k _ e => by omega), g1.mono (fun _ _ e => by rcases e with e | e; exact .inl e; exact .inr (.inl e)), i, b, g2, g2b, g3, ?_⟩
      rw [versOf_more, List.find?_append, h3]
      simp [ht]
    have ht : shown (T.sees at' me) (A.at s) = (T.sees at' me (A.at s).f2 && !(decide ((A.at s).f4 ≠ 0) && T.sees at' me (A.at s).f4)) := rfl
    have k3 := one_cell a4'
    have k1 := h1.cell
    have f1 := h1.frozen
    have k2 := h1b.cell
    have f2 := h1b.frozen
    replace hret := Aside0.mk hret
    replace hgo := Aside0.mk hgo
    have hkeep : ∀ W2, Below W.heap.size W W2 → W2.heap[Bx]? = some (.cells #[.int .i64 (A.at s).f0, .int .i64 (A.at s).f1, .int .i64 (A.at s).f2, .int .i64 (A.at s).f3, .int .i64 (A.at s).f4, .int .i64 (A.at s).f5, .slice pa pn pc] 39 (0, 0)) ∧ W2.cell? ⟨w.heap.size + 1 + 1 + 1 + 1, 0, none⟩ = some (.func (.func 72) #[] #[.pointer (some ⟨w.heap.size + 1, 0, none⟩), .pointer (some ⟨w.heap.size, 0, none⟩)]) ∧
        W2.cell? ⟨w.heap.size + 1 + 1, 0, none⟩ = some (.int .i64 i) ∧ W2.frozen? ⟨w.heap.size + 1 + 1, 0, none⟩ = false ∧ W2.cell? ⟨w.heap.size + 1 + 1 + 1, 0, none⟩ = some (.bool b) ∧ W2.frozen? ⟨w.heap.size + 1 + 1 + 1, 0, none⟩ = false := fun W2 hb =>
      ⟨blk_below bX hb, one_cell (blk_below a4' hb), Boxed.cell (blk_below h1 hb), Boxed.frozen (blk_below h1 hb), Boxed.cell (blk_below h1b hb), Boxed.frozen (blk_below h1b hb)⟩
    replace hkeep := Aside0.mk hkeep
    have hkb := Aside0.mk (fun W2 (hb : Below W.heap.size W W2) => (blk_below h1b hb : W2.heap[w.heap.size + 1 + 1 + 1]? = _))
    have q0 := blk_cell bX 0
    have q2 := blk_cell bX 2
    simp at q0 q2
    clear h1 h1b h2 h3 a0' a1' a4' HTW hfin hr bX a0 a1 a2 a3 a4 HT0 HH0 hsb hR5 bxl bxh
    generalize hF2 : T.sees at' me (A.at s).f2 = o2 at ht
    generalize hF4 : (decide ((A.at s).f4 ≠ 0) && T.sees at' me (A.at s).f4) = o4 at ht
    have hcall := hown.out W (Below.refl _ _) (A.at s).f2
    rw [hF2] at hcall
    rw [hF4] at hend
    clear hown hF2 hF4
    cases o2 with
    | false =>
      replace ht : Aside0 (shown (T.sees at' me) (A.at s) = false) := ⟨by rw [ht]; simp⟩
      gi_wp2_with (fail)
      refine ⟨trivial, ?_⟩
      gi_at_call 72
      refine (CallsIn.inRound l (callsIn_wide.2 hcall)).mono ?_
      clear hcall k3 k1 f1 k2 f2 q0 q2
      rintro e W2 ⟨rfl, b2⟩
      obtain ⟨bX2, k3, k1, f1, k2, f2⟩ := hkeep.out W2 b2
      have q0 := blk_cell bX2 0
      have q1 := blk_cell bX2 1
      have q2 := blk_cell bX2 2
      have q3 := blk_cell bX2 3
      have q4 := blk_cell bX2 4
      have q5 := blk_cell bX2 5
      have q6 := blk_cell bX2 6
      simp at q0 q1 q2 q3 q4 q5 q6
      clear bX2
      replace b2 := Aside0.mk b2
      gi_wp2
      refine ⟨trivial, ?_⟩
      gi_wp2
      exact hgo.out W2 b2.out ht.out
    | true =>
      replace ht : shown (T.sees at' me) (A.at s) = !o4 := by rw [ht]; simp
      gi_wp2_with (fail)
      refine ⟨trivial, ?_⟩
      gi_at_call 72
      refine (CallsIn.inRound l (callsIn_wide.2 hcall)).mono ?_
      clear hcall k3 k1 f1 k2 f2 q0 q2
      rintro e W2 ⟨rfl, b2⟩
      obtain ⟨bX2, k3, k1, f1, k2, f2⟩ := hkeep.out W2 b2
      have q0 := blk_cell bX2 0
      have q1 := blk_cell bX2 1
      have q2 := blk_cell bX2 2
      have q3 := blk_cell bX2 3
      have q4 := blk_cell bX2 4
      have q5 := blk_cell bX2 5
      have q6 := blk_cell bX2 6
      simp at q0 q1 q2 q3 q4 q5 q6
      clear bX2
      have hcall2 := hend.out W2 b2
      rw [tupV] at hcall2
      replace b2 := Aside0.mk b2
      cases o4 with
      | true =>
        replace ht := Aside0.mk ht
        gi_wp2_with (fail)
        refine ⟨trivial, ?_⟩
        gi_at_call 71
        refine (CallsIn.inRound l (callsIn_wide.2 hcall2)).mono ?_
        clear hcall2 k3 k1 f1 k2 f2 q0 q1 q2 q3 q4 q5 q6
        rintro e W3 ⟨rfl, b3⟩
        have b4 := Aside0.mk (b2.out.trans (b3.mono b2.out.size))
        clear b3
        gi_wp2
        exact hgo.out W3 b4.out ht.out
      | false =>
        replace ht := Aside0.mk ht
        gi_wp2_with (fail)
        refine ⟨trivial, ?_⟩
        gi_at_call 71
        refine (CallsIn.inRound l (callsIn_wide.2 hcall2)).mono ?_
        clear hcall2 k3 k1 f1 k2 f2 q0 q1 q2 q3 q4 q5 q6
        rintro e W3 ⟨rfl, b3⟩
        have b4 := b2.out.trans (b3.mono b2.out.size)
        obtain ⟨bX2, k3, k1, f1, k2, f2⟩ := hkeep.out W3 b4
        clear bX2 b3
        have kk2 := Boxed.cell (Boxed.other (show Boxed W3 (w.heap.size + 1 + 1 + 1) 4 (.bool b) from (hkb.out W3 b4)) (by omega : w.heap.size + 1 + 1 + 1 ≠ w.heap.size + 1 + 1) (.int .i64 s))
        have ff2 := Boxed.frozen (Boxed.other (show Boxed W3 (w.heap.size + 1 + 1 + 1) 4 (.bool b) from (hkb.out W3 b4)) (by omega : w.heap.size + 1 + 1 + 1 ≠ w.heap.size + 1 + 1) (.int .i64 s))
        replace b4 := Aside0.mk b4
        gi_wp2
        obtain ⟨r1, r2⟩ := hret.out W3 b4.out ht.out
        exact ⟨r1, rfl, r2⟩
  case done =>
    rintro D xs W hD hxs ⟨i, b, h1, h1b, h2, h3⟩ hK
    rw [hxs] at h3
    have c1 := h1.cell
    have f1 := h1.frozen
    have h1c := h1b.other (by omega : w.heap.size + 1 + 1 + 1 ≠ w.heap.size + 1 + 1) (.int .i64 0)
    have c2 := h1c.cell
    have f2 := h1c.frozen
    have hcn := Aside0.mk (show A.seenBy (T.sees at' me) no id = none from h3)
    gi_wp2
    have g1 := (h1.set (.int .i64 0)).other (by omega : w.heap.size + 1 + 1 ≠ w.heap.size + 1 + 1 + 1) (.bool false)
    have g2 := h1c.set (.bool false)
    have hK1 := (KeepsOthers.setCell W ⟨w.heap.size + 1 + 1, 0, none⟩ (.int .i64 0)).same D _ hK rfl
    have hK2 := (KeepsOthers.setCell (W.setCell ⟨w.heap.size + 1 + 1, 0, none⟩ (.int .i64 0)) ⟨w.heap.size + 1 + 1 + 1, 0, none⟩ (.bool false)).same D _ hK1 rfl
    refine ⟨by simp, .inl ⟨_, _, rfl, run_takeDeferred hK2, ?_⟩⟩
    have hB2 := ((hB0.trans (h2.below hB0.size (fun k e => by omega))).setCell (p := ⟨w.heap.size + 1 + 1, 0, none⟩) (by simp; omega) (.int .i64 0)).setCell (p := ⟨w.heap.size + 1 + 1 + 1, 0, none⟩) (by simp; omega) (.bool false)
    refine ⟨_, results_box2 rfl _ _ rfl rfl ((g1.kept (grownBy_putObj' _ D (.deferred none)) (fun e => by injection e; omega)).cell) ((g2.kept (grownBy_putObj' _ D (.deferred none)) (fun e => by injection e; omega)).cell), by rw [hcn.out]; rfl, ?_⟩
    exact hB2.trans (belowK_b (w := W0) hB0.size _ D _ _ hD hK2 rfl rfl)
  case stop =>
    rintro D c pre W hD hpre ⟨rfl, i, h1, h1b, h2, h3⟩ hK
    have hcn := Aside0.mk (show A.seenBy (T.sees at' me) no id = some i from by
      obtain ⟨r, hr⟩ := hpre
      unfold AH.seenBy
      rw [← hr, List.find?_append, h3]
      rfl)
    gi_wp2
    refine ⟨by simp, .inl ⟨_, _, rfl, run_takeDeferred hK, ?_⟩⟩
    refine ⟨_, results_box2 rfl _ _ rfl rfl ((h1.kept (grownBy_putObj' _ D (.deferred none)) (fun e => by injection e; omega)).cell) ((h1b.kept (grownBy_putObj' _ D (.deferred none)) (fun e => by injection e; omega)).cell), by rw [hcn.out]; rfl, ?_⟩
    exact (hB0.trans (h2.below hB0.size (fun k e => by omega))).trans (belowK_b (w := W0) hB0.size _ D _ _ hD hK rfl rfl)

set_option maxRecDepth 100000 in
set_option maxHeartbeats 8000000 in
theorem seen_yes (h x : Nat) (at' me no id : Int) (A : AH) (T : TT) (F Fx : Nat → Prop) (w : World) (H : HeapIs w h A F) (hA : A.Ok) (hL : A.Low) (HX : TabIs w x T Fx) (hOk : T.Ok) (ho : okW (no, id)) (hlen : (A.rows (no, id)).length < 17592186044000) (hown : A.ownRow T me no id = true) :
    Calls Try.prog 32 #[.pointer (some ⟨h, 0, none⟩), .pointer (some ⟨x, 0, none⟩), .agg #[.int .i64 at', .int .i64 me], .int .i64 no, .int .i64 id] w fun e w' => e = .returned (.tuple #[.int .i64 ((A.seenBy (T.own me) no id).getD 0), .bool (A.seenBy (T.own me) no id).isSome]) ∧ Below w.heap.size w w' := by
  refine (callsIn_wide (n := 12)).1 ?_
  refine callsIn_of_wp_marks Try.func32 rfl trivial ?_ rfl
  simp only [Try.ntmps32, List.size_toArray, List.length_cons, List.length_nil, Nat.reduceAdd, Nat.reduceSub, Array.replicate_succ, Array.replicate_zero, List.push_toArray, List.append_toArray, List.nil_append, List.cons_append]
  have a0 := blk_new w (.cells #[.pointer (some ⟨x, 0, none⟩)] 46)
  replace a0 := blk_alloc (blk_alloc (blk_alloc (blk_alloc (a0) (.cells #[.int .i64 at', .int .i64 me] 52)) (.cells #[.int .i64 0] 3)) (.cells #[.bool false] 4)) (.cells #[.nilFunc] 108)
  have a1 := blk_new (w.alloc (.cells #[.pointer (some ⟨x, 0, none⟩)] 46)) (.cells #[.int .i64 at', .int .i64 me] 52)
  rw [World.size_alloc] at a1
  replace a1 := blk_alloc (blk_alloc (blk_alloc (a1) (.cells #[.int .i64 0] 3)) (.cells #[.bool false] 4)) (.cells #[.nilFunc] 108)
  have a2 := blk_new ((w.alloc (.cells #[.pointer (some ⟨x, 0, none⟩)] 46)).alloc (.cells #[.int .i64 at', .int .i64 me] 52)) (.cells #[.int .i64 0] 3)
  rw [World.size_alloc, World.size_alloc] at a2
  replace a2 := blk_alloc (blk_alloc (a2) (.cells #[.bool false] 4)) (.cells #[.nilFunc] 108)
  have a3 := blk_new (((w.alloc (.cells #[.pointer (some ⟨x, 0, none⟩)] 46)).alloc (.cells #[.int .i64 at', .int .i64 me] 52)).alloc (.cells #[.int .i64 0] 3)) (.cells #[.bool false] 4)
  rw [World.size_alloc, World.size_alloc, World.size_alloc] at a3
  replace a3 := blk_alloc (a3) (.cells #[.nilFunc] 108)
  have a4 := blk_new ((((w.alloc (.cells #[.pointer (some ⟨x, 0, none⟩)] 46)).alloc (.cells #[.int .i64 at', .int .i64 me] 52)).alloc (.cells #[.int .i64 0] 3)).alloc (.cells #[.bool false] 4)) (.cells #[.nilFunc] 108)
  rw [World.size_alloc, World.size_alloc, World.size_alloc, World.size_alloc] at a4
  have hcf : (((((w.alloc (.cells #[.pointer (some ⟨x, 0, none⟩)] 46)).alloc (.cells #[.int .i64 at', .int .i64 me] 52)).alloc (.cells #[.int .i64 0] 3)).alloc (.cells #[.bool false] 4)).alloc (.cells #[.nilFunc] 108)).cell? ⟨w.heap.size + 1 + 1 + 1 + 1, 0, none⟩ = some Value.nilFunc := one_cell a4
  have hff : (((((w.alloc (.cells #[.pointer (some ⟨x, 0, none⟩)] 46)).alloc (.cells #[.int .i64 at', .int .i64 me] 52)).alloc (.cells #[.int .i64 0] 3)).alloc (.cells #[.bool false] 4)).alloc (.cells #[.nilFunc] 108)).frozen? ⟨w.heap.size + 1 + 1 + 1 + 1, 0, none⟩ = false := blk_frozen a4 0
  have B1 : Below w.heap.size w (((((w.alloc (.cells #[.pointer (some ⟨x, 0, none⟩)] 46)).alloc (.cells #[.int .i64 at', .int .i64 me] 52)).alloc (.cells #[.int .i64 0] 3)).alloc (.cells #[.bool false] 4)).alloc (.cells #[.nilFunc] 108)) := ((((((Below.refl _ w).alloc (Nat.le_refl _) _).alloc (by simp; try omega) _).alloc (by simp; try omega) _).alloc (by simp; try omega) _).alloc (by simp; try omega) _)
  have s1 : (((((w.alloc (.cells #[.pointer (some ⟨x, 0, none⟩)] 46)).alloc (.cells #[.int .i64 at', .int .i64 me] 52)).alloc (.cells #[.int .i64 0] 3)).alloc (.cells #[.bool false] 4)).alloc (.cells #[.nilFunc] 108)).heap.size = w.heap.size + 5 := by simp
  obtain ⟨wq, hwq⟩ : ∃ wq, ((((w.alloc (.cells #[.pointer (some ⟨x, 0, none⟩)] 46)).alloc (.cells #[.int .i64 at', .int .i64 me] 52)).alloc (.cells #[.int .i64 0] 3)).alloc (.cells #[.bool false] 4)).alloc (.cells #[.nilFunc] 108) = wq := ⟨_, rfl⟩
  rw [hwq] at hcf hff B1 s1 a0 a1 a2 a3 a4
  replace a0 := blk_far a0 (p := ⟨w.heap.size + 1 + 1 + 1 + 1, 0, none⟩) (by simp; try omega) (.func (.func 72) #[] #[.pointer (some ⟨w.heap.size + 1, 0, none⟩), .pointer (some ⟨w.heap.size, 0, none⟩)])
  replace a1 := blk_far a1 (p := ⟨w.heap.size + 1 + 1 + 1 + 1, 0, none⟩) (by simp; try omega) (.func (.func 72) #[] #[.pointer (some ⟨w.heap.size + 1, 0, none⟩), .pointer (some ⟨w.heap.size, 0, none⟩)])
  replace a2 := blk_far a2 (p := ⟨w.heap.size + 1 + 1 + 1 + 1, 0, none⟩) (by simp; try omega) (.func (.func 72) #[] #[.pointer (some ⟨w.heap.size + 1, 0, none⟩), .pointer (some ⟨w.heap.size, 0, none⟩)])
  replace a3 := blk_far a3 (p := ⟨w.heap.size + 1 + 1 + 1 + 1, 0, none⟩) (by simp; try omega) (.func (.func 72) #[] #[.pointer (some ⟨w.heap.size + 1, 0, none⟩), .pointer (some ⟨w.heap.size, 0, none⟩)])
  replace a4 := blk_put a4 0 (.func (.func 72) #[] #[.pointer (some ⟨w.heap.size + 1, 0, none⟩), .pointer (some ⟨w.heap.size, 0, none⟩)]) rfl
  replace B1 := B1.setCell (p := ⟨w.heap.size + 1 + 1 + 1 + 1, 0, none⟩) (by simp; try omega) (.func (.func 72) #[] #[.pointer (some ⟨w.heap.size + 1, 0, none⟩), .pointer (some ⟨w.heap.size, 0, none⟩)])
  have s2 : (wq.setCell ⟨w.heap.size + 1 + 1 + 1 + 1, 0, none⟩ (.func (.func 72) #[] #[.pointer (some ⟨w.heap.size + 1, 0, none⟩), .pointer (some ⟨w.heap.size, 0, none⟩)])).heap.size = w.heap.size + 5 := by rw [← s1]; simp [World.setCell]
  obtain ⟨w1, hw1⟩ : ∃ w1, wq.setCell ⟨w.heap.size + 1 + 1 + 1 + 1, 0, none⟩ (.func (.func 72) #[] #[.pointer (some ⟨w.heap.size + 1, 0, none⟩), .pointer (some ⟨w.heap.size, 0, none⟩)]) = w1 := ⟨_, rfl⟩
  rw [hw1] at B1 s2 a0 a1 a2 a3 a4
  rw [← hwq] at hcf hff hw1
  clear s1 hwq
  clear wq
  have hso := sown_calls h x at' me no id A T F Fx w1 (H.below B1) hA hL (HX.below B1) hOk ho hlen
  rw [hown] at hso
  have hver0 := Aside0.mk (fun W (hb : Below w.heap.size w W) => versions_calls h no id A F W (H.below hb) ho hlen)
  have x0 := one_cell a0
  have v0 := blk_cell a1 0
  have v1 := blk_cell a1 1
  simp at v0 v1
  have HA := Aside0.mk (And.intro a0 (And.intro a1 (And.intro a2 (And.intro a3 (And.intro a4 (And.intro B1 s2))))))
  have HL := Aside0.mk hL
  have hXb := Aside0.mk HX.bound
  have hth := Aside0.mk (fun s (hs : s ∈ A.rows (no, id)) => hA.there_of hs)
  have HO := Aside0.mk hOk
  have HH := Aside0.mk H
  have HT := Aside0.mk HX
  clear a0 a1 a2 a3 a4 B1 s2 H HX ho hA hL hlen hOk hown
  gi_wp2_with (fail)
  refine ⟨trivial, ?_⟩
  gi_at_call 31
  refine (callsIn_wide.2 hso).mono ?_
  clear hso hcf hff hw1 x0 v0 v1
  rintro e w2 ⟨rfl, b2⟩
  obtain ⟨a0, a1, a2, a3, a4, B1, s2⟩ := HA.out
  have hsz2 := b2.size
  replace a0 := blk_far (blk_below a0 b2) (p := ⟨w.heap.size + 1 + 1 + 1 + 1, 0, none⟩) (by simp; try omega) (.func (.func 74) #[] #[.pointer (some ⟨w.heap.size + 1, 0, none⟩), .pointer (some ⟨w.heap.size, 0, none⟩)])
  replace a1 := blk_far (blk_below a1 b2) (p := ⟨w.heap.size + 1 + 1 + 1 + 1, 0, none⟩) (by simp; try omega) (.func (.func 74) #[] #[.pointer (some ⟨w.heap.size + 1, 0, none⟩), .pointer (some ⟨w.heap.size, 0, none⟩)])
  replace a2 := blk_far (blk_below a2 b2) (p := ⟨w.heap.size + 1 + 1 + 1 + 1, 0, none⟩) (by simp; try omega) (.func (.func 74) #[] #[.pointer (some ⟨w.heap.size + 1, 0, none⟩), .pointer (some ⟨w.heap.size, 0, none⟩)])
  replace a3 := blk_far (blk_below a3 b2) (p := ⟨w.heap.size + 1 + 1 + 1 + 1, 0, none⟩) (by simp; try omega) (.func (.func 74) #[] #[.pointer (some ⟨w.heap.size + 1, 0, none⟩), .pointer (some ⟨w.heap.size, 0, none⟩)])
  have hcf := one_cell (blk_below a4 b2)
  have hff := blk_frozen (blk_below a4 b2) 0
  replace a4 := blk_put (blk_below a4 b2) 0 (.func (.func 74) #[] #[.pointer (some ⟨w.heap.size + 1, 0, none⟩), .pointer (some ⟨w.heap.size, 0, none⟩)]) rfl
  replace B1 := (B1.trans (b2.mono B1.size)).setCell (p := ⟨w.heap.size + 1 + 1 + 1 + 1, 0, none⟩) (by simp; try omega) (.func (.func 74) #[] #[.pointer (some ⟨w.heap.size + 1, 0, none⟩), .pointer (some ⟨w.heap.size, 0, none⟩)])
  replace s2 : w.heap.size + 5 ≤ (w2.setCell ⟨w.heap.size + 1 + 1 + 1 + 1, 0, none⟩ (.func (.func 74) #[] #[.pointer (some ⟨w.heap.size + 1, 0, none⟩), .pointer (some ⟨w.heap.size, 0, none⟩)])).heap.size := by rw [← s2]; simpa [World.setCell] using hsz2
  obtain ⟨w3, hw3⟩ : ∃ w3, w2.setCell ⟨w.heap.size + 1 + 1 + 1 + 1, 0, none⟩ (.func (.func 74) #[] #[.pointer (some ⟨w.heap.size + 1, 0, none⟩), .pointer (some ⟨w.heap.size, 0, none⟩)]) = w3 := ⟨_, rfl⟩
  rw [hw3] at a0 a1 a2 a3 a4 B1 s2
  have hver := hver0.out w3 B1
  replace HA := Aside0.mk (And.intro a0 (And.intro a1 (And.intro a2 (And.intro a3 (And.intro a4 (And.intro B1 s2))))))
  clear hver0 a0 a1 a2 a3 a4 B1 s2 hsz2 b2
  gi_wp2_with (fail)
  refine ⟨trivial, ?_⟩
  gi_at_call 70
  refine (callsIn_wide.2 hver).mono ?_
  clear hver
  rintro e W0 ⟨bl, bh, v, rfl, hh⟩
  replace hh := Aside0.mk hh
  gi_wp2
  obtain ⟨hbl, hbh, hne, bxl, bxh, hR, B2⟩ := hh.out
  clear hh
  obtain ⟨a0, a1, a2, a3, a4, B1, s2⟩ := HA.out
  replace a0 := blk_below a0 B2
  replace a1 := blk_below a1 B2
  replace a2 := blk_below a2 B2
  replace a3 := blk_below a3 B2
  replace a4 := blk_below a4 B2
  have hN := B2.size
  have hB0 := B1.trans (B2.mono B1.size)
  have HT0 := HT.out.below hB0
  have HH0 := HH.out.below hB0
  have hHb := HH.out.bound
  have hsb : ∀ k, W0.heap.size ≤ k → (k = w.heap.size + 1 + 1 ∨ k = w.heap.size + 1 + 1 + 1 ∨ W0.heap.size ≤ k) := fun k hk => .inr (.inr hk)
  replace bxl := Aside0.mk bxl
  replace bxh := Aside0.mk bxh
  replace hbl := Nat.le_trans s2 hbl
  replace hbh := Nat.le_trans s2 hbh
  have hR5 := Kd.R_mono (Kd.R_bound hR) (ok' := fun k => w.heap.size + 5 ≤ k ∧ k < W0.heap.size) (fun k hk => ⟨Nat.le_trans s2 hk.2.1, hk.2.2.1⟩)
  replace hN := Nat.le_trans s2 hN
  have hblt := blk_lt bxl.out
  have hbht := blk_lt bxh.out
  clear HA B1 B2 HH HT s2 hR
  refine rangeFunc_V rfl (by omega) (gf := 94) (lb := #[.pointer (some ⟨bl, 0, none⟩), .pointer (some ⟨bh, 0, none⟩)]) rfl trivial (enters_of Try.func94 (by kernel_rfl) rfl)
    (versions1_seq h bl bh (A.rows (no, id)) A F (fun k => k = w.heap.size + 1 + 1 ∨ k = w.heap.size + 1 + 1 + 1 ∨ W0.heap.size ≤ k) _ _ W0 v HH0 HL.out hth.out bxl.out bxh.out hR5 (fun k hk e => by have := hHb k hk; omega) (by omega) (by omega) (fun k hk hk2 e => by omega) _ (by omega))
    (fun X Y k o hc hk hx ho _ => (hc.block k (Array.getElem?_eq_some_iff.1 hx).1 (fun h => h)).trans hx)
    (fun h1 h2 => h1.trans h2 (fun _ _ h => h) (fun _ _ h => h)) (fun W l o o' hl _ _ => chg_put o' hl (fun k hk => .inr (.inr hk))) (fun _ => rfl)
    (fun pre W => ∃ (i : Int) (b : Bool), Boxed W (w.heap.size + 1 + 1) 3 (.int .i64 i) ∧ Boxed W (w.heap.size + 1 + 1 + 1) 4 (.bool b) ∧ Chg W0 W (fun k => k = w.heap.size + 1 + 1 ∨ k = w.heap.size + 1 + 1 + 1 ∨ W0.heap.size ≤ k) ∧ (versOf pre).find? (fun s => shown (T.own me) (A.at s)) = none)
    (fun c pre W => c = .ret ∧ ∃ i : Int, Boxed W (w.heap.size + 1 + 1) 3 (.int .i64 i) ∧ Boxed W (w.heap.size + 1 + 1 + 1) 4 (.bool true) ∧ Chg W0 W (fun k => k = w.heap.size + 1 + 1 ∨ k = w.heap.size + 1 + 1 + 1 ∨ W0.heap.size ≤ k) ∧ (versOf pre).find? (fun s => shown (T.own me) (A.at s)) = some i)
    (fun s X Y row hs hg hr => by
      obtain ⟨i, b, h1, h1b, h2, h3⟩ := hs
      exact ⟨i, b, h1.kept hg (fun e => by have := (hr _ e.symm).1; omega), h1b.kept hg (fun e => by have := (hr _ e.symm).1; omega), chg_own hsb h2 hg (fun r e => (hr r e).1), h3⟩)
    (fun c s X Y row hs hg hr => by
      obtain ⟨h0, i, h1, h1b, h2, h3⟩ := hs
      exact ⟨h0, i, h1.kept hg (fun e => by have := (hr _ e.symm).1; omega), h1b.kept hg (fun e => by have := (hr _ e.symm).1; omega), chg_own hsb h2 hg (fun r e => (hr r e).1), h3⟩)
    (fun s X Y hs hc => by
      obtain ⟨i, b, h1, h1b, h2, h3⟩ := hs
      exact ⟨i, b, hc.obj h1 (fun h => h), hc.obj h1b (fun h => h), chg_ab h2 hc, h3⟩)
    (fun c s X Y hs hc => by
      obtain ⟨h0, i, h1, h1b, h2, h3⟩ := hs
      exact ⟨h0, i, hc.obj h1 (fun h => h), hc.obj h1b (fun h => h), chg_ab h2 hc, h3⟩)
    ⟨0, false, a2, a3, Chg.refl _ _, rfl⟩
    (fun (p : Ver A) a' W => ∃ Bx, W0.heap.size ≤ Bx ∧ W.heap[Bx]? = some (.cells #[.int .i64 (A.at p.slot).f0, .int .i64 (A.at p.slot).f1, .int .i64 (A.at p.slot).f2, .int .i64 (A.at p.slot).f3, .int .i64 (A.at p.slot).f4, .int .i64 (A.at p.slot).f5, .slice p.a p.n p.c] 39 (0, 0)) ∧
      a' = { tmps := #[.pointer (some ⟨h, 0, none⟩), .pointer (some ⟨x, 0, none⟩), .agg #[.int .i64 at', .int .i64 me], .int .i64 no, .int .i64 id, undef, .pointer (some ⟨w.heap.size, 0, none⟩), .pointer (some ⟨w.heap.size + 1, 0, none⟩), undef, undef, .pointer (some ⟨w.heap.size + 1 + 1, 0, none⟩), .pointer (some ⟨w.heap.size + 1 + 1 + 1, 0, none⟩), .pointer (some ⟨w.heap.size + 1 + 1 + 1 + 1, 0, none⟩), .int .i64 p.slot, .pointer (some ⟨Bx, 0, none⟩), .func (.func 72) #[] #[.pointer (some ⟨w.heap.size + 1, 0, none⟩), .pointer (some ⟨w.heap.size, 0, none⟩)], .pointer (some ⟨h, 0, none⟩), .pointer (some ⟨x, 0, none⟩), .agg #[.int .i64 at', .int .i64 me], .int .i64 no, .int .i64 id, .bool true, .func (.func 74) #[] #[.pointer (some ⟨w.heap.size + 1, 0, none⟩), .pointer (some ⟨w.heap.size, 0, none⟩)], .pointer (some ⟨h, 0, none⟩), .int .i64 no, .int .i64 id, .func (.func 94) #[] #[.pointer (some ⟨bl, 0, none⟩), .pointer (some ⟨bh, 0, none⟩)], .int .i64 p.slot, tupV (A.at p.slot) p.a p.n p.c, undef, undef, undef, undef, undef, undef, undef, undef, undef, undef, undef], defers := [] })
    (fun p a' _ X Y row hs hg hr => by
      obtain ⟨Bx, h1, h2, h3⟩ := hs
      exact ⟨Bx, h1, cells_own () X Y row h2 hg hr, h3⟩)
    ?assign ?body ?done ?stop
  case assign =>
    rintro l pre ⟨s, pa, pn, pc, hps⟩ W K ⟨i, b, h1, h1b, h2, h3⟩ hK
    have hle := h2.size
    simp only [Ver.enc, tupV]
    gi_wp2
    exact hK _ _ ((KeepsOthers.alloc _ _).from _) ((Chg.refl W _).alloc _) ⟨i, b, h1.alloc _, h1b.alloc _, h2.alloc _, h3⟩ ⟨W.heap.size, hle, World.alloc_heap_new W _, rfl⟩
  case body =>
    rintro l pre ⟨s, pa, pn, pc, hps⟩ a' W hl ⟨r, hr⟩ ⟨i, b, h1, h1b, h2, h3⟩ ⟨Bx, hBx, bX, rfl⟩ hlt
    have hn1 : 1 ≤ 12 - 1 - 1 := by omega
    have a0' := h2.obj a0 (by omega)
    have a1' := h2.obj a1 (by omega)
    have a4' := h2.obj a4 (by omega)
    have HTW := HT0.chg h2 (fun k hk e => by have := hXb.out k hk; omega)
    have hown := Aside0.mk (fun (W2 : World) (hb : Below W.heap.size W W2) (i : Int) => seen2_calls (w.heap.size + 1) w.heap.size x at' me T Fx W2 (HTW.below hb) HO.out (blk_below a1' hb) (blk_below a0' hb) i)
    have hend := Aside0.mk (fun (W2 : World) (hb : Below W.heap.size W W2) => ended_seen2 (A.at s) pa pn pc (w.heap.size + 1) w.heap.size (T.own me (A.at s).f4) W2 (fun _ W3 hb3 => hown.out W3 (hb.trans (hb3.mono hb.size)) _))
    have hfin : ∀ W2, Below W.heap.size W W2 → Chg W W2 (fun k => k = w.heap.size + 1 + 1 ∨ k = w.heap.size + 1 + 1 + 1) ∧ Boxed W2 (w.heap.size + 1 + 1) 3 (.int .i64 i) ∧ Boxed W2 (w.heap.size + 1 + 1 + 1) 4 (.bool b) ∧ Chg W0 W2 (fun k => k = w.heap.size + 1 + 1 ∨ k = w.heap.size + 1 + 1 + 1 ∨ W0.heap.size ≤ k) := fun W2 hb =>
      ⟨Chg.of_below hb _, blk_below h1 hb, blk_below h1b hb, h2.trans (Chg.of_below hb (fun _ => False)) (fun _ _ h => h) (fun _ _ h => h.elim)⟩
    have hret : ∀ W2, Below W.heap.size W W2 → shown (T.own me) (A.at s) = true → KeepsFrom W0.heap.size W ((W2.setCell ⟨w.heap.size + 1 + 1, 0, none⟩ (.int .i64 s)).setCell ⟨w.heap.size + 1 + 1 + 1, 0, none⟩ (.bool true)) ∧ (∃ i : Int, Boxed ((W2.setCell ⟨w.heap.size + 1 + 1, 0, none⟩ (.int .i64 s)).setCell ⟨w.heap.size + 1 + 1 + 1, 0, none⟩ (.bool true)) (w.heap.size + 1 + 1) 3 (.int .i64 i) ∧
        Boxed ((W2.setCell ⟨w.heap.size + 1 + 1, 0, none⟩ (.int .i64 s)).setCell ⟨w.heap.size + 1 + 1 + 1, 0, none⟩ (.bool true)) (w.heap.size + 1 + 1 + 1) 4 (.bool true) ∧ Chg W0 ((W2.setCell ⟨w.heap.size + 1 + 1, 0, none⟩ (.int .i64 s)).setCell ⟨w.heap.size + 1 + 1 + 1, 0, none⟩ (.bool true)) (fun k => k = w.heap.size + 1 + 1 ∨ k = w.heap.size + 1 + 1 + 1 ∨ W0.heap.size ≤ k) ∧ (versOf (pre ++ [⟨s, pa, pn, pc, hps⟩])).find? (fun s => shown (T.own me) (A.at s)) = some i) := fun W2 hb ht => by
      obtain ⟨g1, g2, g2b, g3⟩ := hfin W2 hb
      refine ⟨keepsFrom_chg ((g1.setCell (p := ⟨w.heap.size + 1 + 1, 0, none⟩) (.inl (.inl rfl)) _).setCell (p := ⟨w.heap.size + 1 + 1 + 1, 0, none⟩) (.inl (.inr rfl)) _) (fun k _ e => by omega), s, (g2.set _).other (by omega) _, (g2b.other (by omega) _).set _, (g3.setCell (p := ⟨w.heap.size + 1 + 1, 0, none⟩) (.inl (.inl rfl)) _).setCell (p := ⟨w.heap.size + 1 + 1 + 1, 0, none⟩) (.inl (.inr (.inl rfl))) _, ?_⟩
      rw [versOf_more, List.find?_append, h3]
      simp [ht]
    have hgo : ∀ W2, Below W.heap.size W W2 → shown (T.own me) (A.at s) = false → KeepsFrom W0.heap.size W W2 ∧ Chg W W2 (fun k => k = w.heap.size + 1 + 1 ∨ k = w.heap.size + 1 + 1 + 1 ∨ W0.heap.size ≤ k) ∧ ∃ (i : Int) (b : Bool), Boxed W2 (w.heap.size + 1 + 1) 3 (.int .i64 i) ∧ Boxed W2 (w.heap.size + 1 + 1 + 1) 4 (.bool b) ∧ Chg W0 W2 (fun k => k = w.heap.size + 1 + 1 ∨ k = w.heap.size + 1 + 1 + 1 ∨ W0.heap.size ≤ k) ∧ (versOf (pre ++ [⟨s, pa, pn, pc, hps⟩])).find? (fun s => shown (T.own me) (A.at s)) = none := fun W2 hb ht => by
      obtain ⟨g1, g2, g2b, g3⟩ := hfin W2 hb
      refine ⟨keepsFrom_chg g1 (fun k _ e => by omega), g1.mono (fun _ _ e => by rcases e with e | e; exact .inl e; exact .inr (.inl e)), i, b, g2, g2b, g3, ?_⟩
      rw [versOf_more, List.find?_append, h3]
      simp [ht]
    have ht : shown (T.own me) (A.at s) = (T.own me (A.at s).f2 && !(decide ((A.at s).f4 ≠ 0) && T.own me (A.at s).f4)) := rfl
    have k3 := one_cell a4'
    have k1 := h1.cell
    have f1 := h1.frozen
    have k2 := h1b.cell
    have f2 := h1b.frozen
    replace hret := Aside0.mk hret
    replace hgo := Aside0.mk hgo
    have hkeep : ∀ W2, Below W.heap.size W W2 → W2.heap[Bx]? = some (.cells #[.int .i64 (A.at s).f0, .int .i64 (A.at s).f1, .int .i64 (A.at s).f2, .int .i64 (A.at s).f3, .int .i64 (A.at s).f4, .int .i64 (A.at s).f5, .slice pa pn pc] 39 (0, 0)) ∧ W2.cell? ⟨w.heap.size + 1 + 1 + 1 + 1, 0, none⟩ = some (.func (.func 74) #[] #[.pointer (some ⟨w.heap.size + 1, 0, none⟩), .pointer (some ⟨w.heap.size, 0, none⟩)]) ∧
        W2.cell? ⟨w.heap.size + 1 + 1, 0, none⟩ = some (.int .i64 i) ∧ W2.frozen? ⟨w.heap.size + 1 + 1, 0, none⟩ = false ∧ W2.cell? ⟨w.heap.size + 1 + 1 + 1, 0, none⟩ = some (.bool b) ∧ W2.frozen? ⟨w.heap.size + 1 + 1 + 1, 0, none⟩ = false := fun W2 hb =>
      ⟨blk_below bX hb, one_cell (blk_below a4' hb), Boxed.cell (blk_below h1 hb), Boxed.frozen (blk_below h1 hb), Boxed.cell (blk_below h1b hb), Boxed.frozen (blk_below h1b hb)⟩
    replace hkeep := Aside0.mk hkeep
    have hkb := Aside0.mk (fun W2 (hb : Below W.heap.size W W2) => (blk_below h1b hb : W2.heap[w.heap.size + 1 + 1 + 1]? = _))
    have q0 := blk_cell bX 0
    have q2 := blk_cell bX 2
    simp at q0 q2
    clear h1 h1b h2 h3 a0' a1' a4' HTW hfin hr bX a0 a1 a2 a3 a4 HT0 HH0 hsb hR5 bxl bxh
    generalize hF2 : T.own me (A.at s).f2 = o2 at ht
    generalize hF4 : (decide ((A.at s).f4 ≠ 0) && T.own me (A.at s).f4) = o4 at ht
    have hcall := hown.out W (Below.refl _ _) (A.at s).f2
    rw [hF2] at hcall
    rw [hF4] at hend
    clear hown hF2 hF4
    cases o2 with
    | false =>
      replace ht : Aside0 (shown (T.own me) (A.at s) = false) := ⟨by rw [ht]; simp⟩
      gi_wp2_with (fail)
      refine ⟨trivial, ?_⟩
      gi_at_call 74
      refine (CallsIn.inRound l (callsIn_wide.2 hcall)).mono ?_
      clear hcall k3 k1 f1 k2 f2 q0 q2
      rintro e W2 ⟨rfl, b2⟩
      obtain ⟨bX2, k3, k1, f1, k2, f2⟩ := hkeep.out W2 b2
      have q0 := blk_cell bX2 0
      have q1 := blk_cell bX2 1
      have q2 := blk_cell bX2 2
      have q3 := blk_cell bX2 3
      have q4 := blk_cell bX2 4
      have q5 := blk_cell bX2 5
      have q6 := blk_cell bX2 6
      simp at q0 q1 q2 q3 q4 q5 q6
      clear bX2
      replace b2 := Aside0.mk b2
      gi_wp2
      refine ⟨trivial, ?_⟩
      gi_wp2
      exact hgo.out W2 b2.out ht.out
    | true =>
      replace ht : shown (T.own me) (A.at s) = !o4 := by rw [ht]; simp
      gi_wp2_with (fail)
      refine ⟨trivial, ?_⟩
      gi_at_call 74
      refine (CallsIn.inRound l (callsIn_wide.2 hcall)).mono ?_
      clear hcall k3 k1 f1 k2 f2 q0 q2
      rintro e W2 ⟨rfl, b2⟩
      obtain ⟨bX2, k3, k1, f1, k2, f2⟩ := hkeep.out W2 b2
      have q0 := blk_cell bX2 0
      have q1 := blk_cell bX2 1
      have q2 := blk_cell bX2 2
      have q3 := blk_cell bX2 3
      have q4 := blk_cell bX2 4
      have q5 := blk_cell bX2 5
      have q6 := blk_cell bX2 6
      simp at q0 q1 q2 q3 q4 q5 q6
      clear bX2
      have hcall2 := hend.out W2 b2
      rw [tupV] at hcall2
      replace b2 := Aside0.mk b2
      cases o4 with
      | true =>
        replace ht := Aside0.mk ht
        gi_wp2_with (fail)
        refine ⟨trivial, ?_⟩
        gi_at_call 71
        refine (CallsIn.inRound l (callsIn_wide.2 hcall2)).mono ?_
        clear hcall2 k3 k1 f1 k2 f2 q0 q1 q2 q3 q4 q5 q6
        rintro e W3 ⟨rfl, b3⟩
        have b4 := Aside0.mk (b2.out.trans (b3.mono b2.out.size))
        clear b3
        gi_wp2
        exact hgo.out W3 b4.out ht.out
      | false =>
        replace ht := Aside0.mk ht
        gi_wp2_with (fail)
        refine ⟨trivial, ?_⟩
        gi_at_call 71
        refine (CallsIn.inRound l (callsIn_wide.2 hcall2)).mono ?_
        clear hcall2 k3 k1 f1 k2 f2 q0 q1 q2 q3 q4 q5 q6
        rintro e W3 ⟨rfl, b3⟩
        have b4 := b2.out.trans (b3.mono b2.out.size)
        obtain ⟨bX2, k3, k1, f1, k2, f2⟩ := hkeep.out W3 b4
        clear bX2 b3
        have kk2 := Boxed.cell (Boxed.other (show Boxed W3 (w.heap.size + 1 + 1 + 1) 4 (.bool b) from (hkb.out W3 b4)) (by omega : w.heap.size + 1 + 1 + 1 ≠ w.heap.size + 1 + 1) (.int .i64 s))
        have ff2 := Boxed.frozen (Boxed.other (show Boxed W3 (w.heap.size + 1 + 1 + 1) 4 (.bool b) from (hkb.out W3 b4)) (by omega : w.heap.size + 1 + 1 + 1 ≠ w.heap.size + 1 + 1) (.int .i64 s))
        replace b4 := Aside0.mk b4
        gi_wp2
        obtain ⟨r1, r2⟩ := hret.out W3 b4.out ht.out
        exact ⟨r1, rfl, r2⟩
  case done =>
    rintro D xs W hD hxs ⟨i, b, h1, h1b, h2, h3⟩ hK
    rw [hxs] at h3
    have c1 := h1.cell
    have f1 := h1.frozen
    have h1c := h1b.other (by omega : w.heap.size + 1 + 1 + 1 ≠ w.heap.size + 1 + 1) (.int .i64 0)
    have c2 := h1c.cell
    have f2 := h1c.frozen
    have hcn := Aside0.mk (show A.seenBy (T.own me) no id = none from h3)
    gi_wp2
    have g1 := (h1.set (.int .i64 0)).other (by omega : w.heap.size + 1 + 1 ≠ w.heap.size + 1 + 1 + 1) (.bool false)
    have g2 := h1c.set (.bool false)
    have hK1 := (KeepsOthers.setCell W ⟨w.heap.size + 1 + 1, 0, none⟩ (.int .i64 0)).same D _ hK rfl
    have hK2 := (KeepsOthers.setCell (W.setCell ⟨w.heap.size + 1 + 1, 0, none⟩ (.int .i64 0)) ⟨w.heap.size + 1 + 1 + 1, 0, none⟩ (.bool false)).same D _ hK1 rfl
    refine ⟨by simp, .inl ⟨_, _, rfl, run_takeDeferred hK2, ?_⟩⟩
    have hB2 := ((hB0.trans (h2.below hB0.size (fun k e => by omega))).setCell (p := ⟨w.heap.size + 1 + 1, 0, none⟩) (by simp; omega) (.int .i64 0)).setCell (p := ⟨w.heap.size + 1 + 1 + 1, 0, none⟩) (by simp; omega) (.bool false)
    refine ⟨_, results_box2 rfl _ _ rfl rfl ((g1.kept (grownBy_putObj' _ D (.deferred none)) (fun e => by injection e; omega)).cell) ((g2.kept (grownBy_putObj' _ D (.deferred none)) (fun e => by injection e; omega)).cell), by rw [hcn.out]; rfl, ?_⟩
    exact hB2.trans (belowK_b (w := W0) hB0.size _ D _ _ hD hK2 rfl rfl)
  case stop =>
    rintro D c pre W hD hpre ⟨rfl, i, h1, h1b, h2, h3⟩ hK
    have hcn := Aside0.mk (show A.seenBy (T.own me) no id = some i from by
      obtain ⟨r, hr⟩ := hpre
      unfold AH.seenBy
      rw [← hr, List.find?_append, h3]
      rfl)
    gi_wp2
    refine ⟨by simp, .inl ⟨_, _, rfl, run_takeDeferred hK, ?_⟩⟩
    refine ⟨_, results_box2 rfl _ _ rfl rfl ((h1.kept (grownBy_putObj' _ D (.deferred none)) (fun e => by injection e; omega)).cell) ((h1b.kept (grownBy_putObj' _ D (.deferred none)) (fun e => by injection e; omega)).cell), by rw [hcn.out]; rfl, ?_⟩
    exact (hB0.trans (h2.below hB0.size (fun k e => by omega))).trans (belowK_b (w := W0) hB0.size _ D _ _ hD hK rfl rfl)

theorem seen_calls (h x : Nat) (at' me no id : Int) (A : AH) (T : TT) (F Fx : Nat → Prop) (w : World) (H : HeapIs w h A F) (hA : A.Ok) (hL : A.Low) (HX : TabIs w x T Fx) (hOk : T.Ok) (ho : okW (no, id)) (hlen : (A.rows (no, id)).length < 17592186044000) :
    Calls Try.prog 32 #[.pointer (some ⟨h, 0, none⟩), .pointer (some ⟨x, 0, none⟩), .agg #[.int .i64 at', .int .i64 me], .int .i64 no, .int .i64 id] w fun e w' => e = .returned (.tuple #[.int .i64 ((A.seen T at' me no id).getD 0), .bool (A.seen T at' me no id).isSome]) ∧ Below w.heap.size w w' := by
  unfold AH.seen
  cases ho2 : A.ownRow T me no id with
  | true => exact seen_yes h x at' me no id A T F Fx w H hA hL HX hOk ho hlen ho2
  | false => exact seen_no h x at' me no id A T F Fx w H hA hL HX hOk ho hlen ho2
end Go.Proofs.Ytljahhgankcalaa

/-! sight.Newest, Fresh, Dead. Printed by gendead.py. -/
namespace Go.Proofs.Ytljahhgankcalaa
open Go.RowKit Go.Maps Go.MapKept Go.WideMaps Go.Shelf
open Go.Proofs.YtljahhgankcalaaW.PrintWords Go.Proofs.YtljahhgankcalaaW.PrintLast Go.Proofs.YtljahhgankcalaaW.PrintMore
set_option linter.unusedVariables false
set_option linter.unusedSimpArgs false

/-- A heap and a table, ready to be looked at. -/
structure Look (w : World) (h x : Nat) (A : AH) (T : TT) (F Fx : Nat → Prop) : Prop where
  heap : HeapIs w h A F
  ok : A.Ok
  lim : A.Low
  tab : TabIs w x T Fx
  tok : T.Ok
  short : ∀ p, (A.rows p).length < 17592186044000
theorem Look.below {w w1 : World} {h x : Nat} {A : AH} {T : TT} {F Fx : Nat → Prop} (L : Look w h x A T F Fx) (hb : Below w.heap.size w w1) : Look w1 h x A T F Fx := ⟨L.heap.below hb, L.ok, L.lim, L.tab.below hb, L.tok, L.short⟩
def AH.newest (A : AH) (T : TT) (no id : Int) : Option Int := A.seen T T.last 0 no id
def AH.fresh (A : AH) (T : TT) (at' me no id : Int) : Bool :=
  (((A.seen T at' me no id).getD 0 == (A.newest T no id).getD 0) && ((A.seen T at' me no id).isSome == (A.newest T no id).isSome)) || A.ownRow T me no id
def AH.dead (A : AH) (T : TT) (at' slot : Int) : Bool := A.there slot && (!T.counts (A.at slot).f2 || (decide ((A.at slot).f4 ≠ 0) && T.old at' (A.at slot).f4))

section
variable {h x : Nat} {A : AH} {T : TT} {F Fx : Nat → Prop} {w : World}
theorem Look.seen (L : Look w h x A T F Fx) (at' me no id : Int) (ho : okW (no, id)) :
    Calls Try.prog 32 #[.pointer (some ⟨h, 0, none⟩), .pointer (some ⟨x, 0, none⟩), .agg #[.int .i64 at', .int .i64 me], .int .i64 no, .int .i64 id] w fun e w' => e = .returned (.tuple #[.int .i64 ((A.seen T at' me no id).getD 0), .bool (A.seen T at' me no id).isSome]) ∧ Below w.heap.size w w' :=
  seen_calls h x at' me no id A T F Fx w L.heap L.ok L.lim L.tab L.tok ho (L.short _)
theorem Look.own (L : Look w h x A T F Fx) (at' me no id : Int) (ho : okW (no, id)) :
    Calls Try.prog 31 #[.pointer (some ⟨h, 0, none⟩), .pointer (some ⟨x, 0, none⟩), .agg #[.int .i64 at', .int .i64 me], .int .i64 no, .int .i64 id] w fun e w' => e = .returned (.bool (A.ownRow T me no id)) ∧ Below w.heap.size w w' :=
  sown_calls h x at' me no id A T F Fx w L.heap L.ok L.lim L.tab L.tok ho (L.short _)

theorem Look.newest (L : Look w h x A T F Fx) (no id : Int) (ho : okW (no, id)) :
    Calls Try.prog 33 #[.pointer (some ⟨h, 0, none⟩), .pointer (some ⟨x, 0, none⟩), .int .i64 no, .int .i64 id] w fun e w' => e = .returned (.tuple #[.int .i64 ((A.newest T no id).getD 0), .bool (A.newest T no id).isSome]) ∧ Below w.heap.size w w' := by
  have hn := now_calls x T Fx w L.tab 0
  have hs := Aside0.mk (fun W (hb : Below w.heap.size w W) => (L.below hb).seen T.last 0 no id ho)
  unfold AH.newest
  clear L
  go_enter Try.func33, Try.ntmps33
  go_wp2_with fail
  refine hn.mono ?_
  clear hn
  rintro e w1 ⟨rfl, b1⟩
  replace b1 := Aside0.mk b1
  go_wp2_with fail
  refine (hs.out w1 b1.out).mono ?_
  rintro e w2 ⟨rfl, b2⟩
  have b3 := Aside0.mk (b1.out.trans (b2.mono b1.out.size))
  clear b2
  go_wp2
  go_ret2
  exact ⟨rfl, b3.out⟩

set_option maxRecDepth 100000 in
set_option maxHeartbeats 2000000 in
theorem Look.fresh (L : Look w h x A T F Fx) (at' me no id : Int) (ho : okW (no, id)) :
    Calls Try.prog 30 #[.pointer (some ⟨h, 0, none⟩), .pointer (some ⟨x, 0, none⟩), .agg #[.int .i64 at', .int .i64 me], .int .i64 no, .int .i64 id] w fun e w' => e = .returned (.bool (A.fresh T at' me no id)) ∧ Below w.heap.size w w' := by
  have B0 : Below w.heap.size w (w.alloc (.cells #[.int .i64 at', .int .i64 me] 52)) := (Below.refl _ w).alloc (Nat.le_refl _) _
  have hblk := blk_new w (.cells #[.int .i64 at', .int .i64 me] 52)
  obtain ⟨w1, hw1⟩ : ∃ w1, w.alloc (.cells #[.int .i64 at', .int .i64 me] 52) = w1 := ⟨_, rfl⟩
  rw [hw1] at B0 hblk
  have L1 := L.below B0
  have hs := L1.seen at' me no id ho
  have hn := Aside0.mk (fun W (hb : Below w1.heap.size w1 W) => (L1.below hb).newest no id ho)
  have hov := Aside0.mk (fun W (hb : Below w1.heap.size w1 W) => (L1.below hb).own at' me no id ho)
  have c0 := blk_cell hblk 0
  have c1 := blk_cell hblk 1
  simp at c0 c1
  have HX := Aside0.mk (And.intro B0 hblk)
  have hcl : ∀ W, Below w1.heap.size w1 W → W.cell? ⟨w.heap.size, 0, none⟩ = some (.int .i64 at') ∧ W.cell? ⟨w.heap.size, 1, none⟩ = some (.int .i64 me) := fun W hb => ⟨blk_cell (blk_below hblk hb) 0, blk_cell (blk_below hblk hb) 1⟩
  replace hcl := Aside0.mk hcl
  unfold AH.fresh
  clear L L1 B0 hblk ho
  generalize (A.seen T at' me no id).getD 0 = s1 at hs ⊢
  generalize (A.seen T at' me no id).isSome = s2 at hs ⊢
  generalize (A.newest T no id).getD 0 = n1 at hn ⊢
  generalize (A.newest T no id).isSome = n2 at hn ⊢
  cases he : (s1 == n1) <;> cases hi : (s2 == n2)
  all_goals
    go_enter Try.func30, Try.ntmps30
    go_wp2_with fail
    refine hs.mono ?_
    clear hs c0 c1 hw1
    rintro e w2 ⟨rfl, b2⟩
    replace b2 := Aside0.mk b2
    go_wp2_with fail
    refine (hn.out w2 b2.out).mono ?_
    rintro e w3 ⟨rfl, b3⟩
    have b4 := b2.out.trans (b3.mono b2.out.size)
    obtain ⟨c0, c1⟩ := hcl.out w3 b4
    clear b3
    have hov3 := hov.out w3 b4
    replace b4 := Aside0.mk b4
    go_wp2_with (go_at_call 31; refine hov3.mono ?_; clear hov3; rintro e w5 ⟨rfl, b5⟩; replace b4 := Aside0.mk (b4.out.trans (b5.mono b4.out.size)); clear b5)
    go_ret
    exact ⟨by simp, HX.out.1.trans (b4.out.mono HX.out.1.size)⟩
end

set_option maxRecDepth 100000 in
set_option maxHeartbeats 2000000 in
theorem dead1_calls (bx bt x : Nat) (at' : Int) (T : TT) (F : Nat → Prop) (w : World) (H : TabIs w x T F) (hOk : T.Ok) (hbx : w.heap[bx]? = some (.cells #[.pointer (some ⟨x, 0, none⟩)] 46 (0, 0))) (hbt : w.heap[bt]? = some (.cells #[.int .i64 at'] 3 (0, 0))) (id : Int) :
    Calls Try.prog 75 #[.int .i64 id, .pointer (some ⟨bx, 0, none⟩), .pointer (some ⟨bt, 0, none⟩)] w fun e w' => e = .returned (.bool (T.old at' id)) ∧ Below w.heap.size w w' := by
  have htop := Aside0.mk (fun W (hb : Below w.heap.size w W) => top_calls x T F W (H.below hb) hOk id)
  have hnum := Aside0.mk (fun W (hb : Below w.heap.size w W) => number_calls x T F W (H.below hb) hOk (T.top id))
  have hcn := Aside0.mk (fun W (hb : Below w.heap.size w W) => counts_calls x T F W (H.below hb) hOk id)
  have c1 := one_cell hbx
  have c2 := one_cell hbt
  have mv : ∀ (W : World), Below w.heap.size w W → W.cell? ⟨bx, 0, none⟩ = some (.pointer (some ⟨x, 0, none⟩)) ∧ W.cell? ⟨bt, 0, none⟩ = some (.int .i64 at') := fun W hb => ⟨one_cell (blk_below hbx hb), one_cell (blk_below hbt hb)⟩
  replace mv := Aside0.mk mv
  have hold : T.old at' id = (T.counts id && decide (0 < T.number (T.top id)) && decide (T.number (T.top id) ≤ at')) := by
    unfold TT.old TT.done
    cases hc : T.counts id with
    | true => simp
    | false => simp
  rw [hold]
  clear H hbx hbt hold
  generalize T.number (T.top id) = n at hnum ⊢
  generalize T.counts id = cn at hcn ⊢
  cases h1 : decide (0 < n) <;> cases h2 : decide (n ≤ at') <;> cases cn
  all_goals
    go_enter Try.func75, Try.ntmps75
    go_upto_region 1 with (fail)
    refine wp_region_held_drew (S := fun w' => w'.cell? ⟨bx, 0, none⟩ = some (.pointer (some ⟨x, 0, none⟩))) (by kernel_rfl) ?_ (fun hHeld => ?_)
    · go_keep
    refine wpAnyH_take (i := 0) (v := ?_) rfl (by kernel_rfl) (by kernel_rfl) (by kernel_rfl) (fun _ _ _ h => h) (Or.inl ⟨by rfl, ?_⟩) (by assumption) ?_
    rotate_left
    · intro w hSw
      try dsimp only at hSw
      go_simp
      try with_reducible rfl
    try simp only [Act.put, List.getElem_toArray, List.getElem_cons_zero, List.getElem_cons_succ, List.setIfInBounds_toArray, List.set_cons_zero, List.set_cons_succ]
    refine wpAnyH_take (i := 1) (v := ?_) rfl (by kernel_rfl) (by kernel_rfl) (by kernel_rfl) (fun _ _ _ h => h) (Or.inl ⟨by rfl, ?_⟩) (by assumption) ?_
    rotate_left
    · intro w hSw
      try dsimp only at hSw
      go_simp
      try with_reducible rfl
    try simp only [Act.put, List.getElem_toArray, List.getElem_cons_zero, List.getElem_cons_succ, List.setIfInBounds_toArray, List.set_cons_zero, List.set_cons_succ]
    refine wpAnyH_take (i := 2) (v := ?_) rfl (by kernel_rfl) (by kernel_rfl) (by kernel_rfl) (fun _ _ _ h => h) (Or.inl ⟨by rfl, ?_⟩) (by assumption) ?_
    rotate_left
    · intro w hSw
      try dsimp only at hSw
      go_simp
      try with_reducible rfl
    try simp only [Act.put, List.getElem_toArray, List.getElem_cons_zero, List.getElem_cons_succ, List.setIfInBounds_toArray, List.set_cons_zero, List.set_cons_succ]
    refine wpAnyH_ready (rs := [3]) (by kernel_rfl) (by simp) ?_
    refine AllReadyH.cons rfl (fun K hK => ?_) AllReadyH.nil
    go_simp
    (go_at_call 66; refine (htop.out _ (Below.refl _ _).drew).mono ?_; rintro e w2 ⟨rfl, hb2⟩; replace hb2 : Below w.heap.size w w2 := ⟨hb2.os, hb2.tape, hb2.output, hb2.size, hb2.block⟩; obtain ⟨r0, r1⟩ := mv.out w2 hb2; replace hb2 := Aside0.mk hb2)
    refine hK.out _ _ ?_ (fun hHeld => ?_)
    · go_keep
    clear hK K
    try simp only [Act.put, List.getElem_toArray, List.getElem_cons_zero, List.getElem_cons_succ, List.setIfInBounds_toArray, List.set_cons_zero, List.set_cons_succ]
    refine wpAnyH_ready (rs := [4]) (by kernel_rfl) (by simp) ?_
    refine AllReadyH.cons rfl (fun K hK => ?_) AllReadyH.nil
    go_simp
    (go_at_call 67; refine (hnum.out _ hb2.out).mono ?_; rintro e w3 ⟨rfl, hb3⟩; replace hb3 : Below w.heap.size w w3 := hb2.out.trans (hb3.mono hb2.out.size); obtain ⟨r0, r1⟩ := mv.out w3 hb3; replace hb3 := Aside0.mk hb3)
    refine hK.out _ _ ?_ (fun hHeld => ?_)
    · go_keep
    clear hK K
    try simp only [Act.put, List.getElem_toArray, List.getElem_cons_zero, List.getElem_cons_succ, List.setIfInBounds_toArray, List.set_cons_zero, List.set_cons_succ]
    refine wpAnyH_take (i := 5) (v := ?_) rfl (by kernel_rfl) (by kernel_rfl) (by kernel_rfl) (fun _ _ _ h => h) (Or.inl ⟨by rfl, ?_⟩) (by assumption) ?_
    rotate_left
    · intro w hSw
      try dsimp only at hSw
      go_simp
      try with_reducible rfl
    try simp only [Act.put, List.getElem_toArray, List.getElem_cons_zero, List.getElem_cons_succ, List.setIfInBounds_toArray, List.set_cons_zero, List.set_cons_succ]
    refine wpAnyH_done (by kernel_rfl) ?_ _
    clear c1 c2
    have hc3 := hcn.out w3 hb3.out
    go_wp2_with (go_at_call 65; refine hc3.mono ?_; clear hc3; rintro e w4 ⟨rfl, hb4⟩; have hb5 := hb3.out.trans (hb4.mono hb3.out.size); obtain ⟨r2, r3⟩ := mv.out w4 hb5; replace hb5 := Aside0.mk hb5; clear hb4)
    go_ret
    exact ⟨by simp, hb5.out⟩
end Go.Proofs.Ytljahhgankcalaa

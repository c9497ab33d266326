import Derived.Test.YtdammjolkcjogaaMp
import Derived.Test.YtdammjolkcjogaaMs
import Derived.Test.YtdammjolkcjogaaWNEv
import Derived.Test.YtdammjolkcjogaaWMore
import Derived.WalkSpells
import Derived.Deep.RegionHeld3
import Derived.Lib.SliceRun
/-! model: an instance as a plain value; New, table, slices.Clone, Put, Row, Next. -/
namespace Go.Proofs.Ytdammjolkcjogaa
open Go.RowKit Go.Maps Go.MapKept Go.WideMaps
open Go.Proofs.YtdammjolkcjogaaW.PrintWords Go.Proofs.YtdammjolkcjogaaW.PrintLast Go.Proofs.YtdammjolkcjogaaW.PrintMore
open PModelNames
set_option linter.unusedVariables false
set_option linter.unusedSimpArgs false

abbrev AVal := S53
abbrev kVal : Kd AVal := k53
abbrev kInt : Kd Int := Kd.int .i64
def okI (a : Int) : Prop := (Lit.int .i64 a).wf = true
theorem keyInt : KeyEnc Try.prog 3 (Value.int .i64) okI := intKey Try.underlying3
/-- F, and what has been made from w to w1. -/
def ext (F : Nat → Prop) (w w1 : World) (k : Nat) : Prop := F k ∨ (w.heap.size ≤ k ∧ k < w1.heap.size)
/-- An instance: each table's rows, and its highest ID. -/
structure MI where
  rows : Int → Int → Option (List AVal)
  last : Int → Int
def MI.empty : MI := ⟨fun _ _ => none, fun _ => 0⟩
def ptr2 (x : Nat × Nat) : Value := .pointer (some ⟨x.1, 0, none⟩)
/-- The instance at m reads as I, by blocks of F alone. -/
structure InstAt (w : World) (m : Nat) (I : MI) (F : Nat → Prop) (mb : Nat) (tb : Int → Option (Nat × Nat)) (rv : Int → Int → Option Value) : Prop where
  blk : w.heap[m]? = some (.cells #[.map (some mb)] 62 (0, 0))
  amap : MapOf (Value.int .i64) ptr2 okI w mb tb
  tabs : ∀ no t r, tb no = some (t, r) → w.heap[t]? = some (.cells #[.map (some r), .int .i64 (I.last no)] 59 (0, 0)) ∧ MapOf (Value.int .i64) id okI w r (rv no) ∧ F t ∧ F r ∧ r ≠ mb
  off : ∀ no, tb no = none → (∀ id, rv no id = none) ∧ I.last no = 0
  vals : ∀ no id v, rv no id = some v → ∃ l, I.rows no id = some l ∧ Kd.R kVal 53 w 0 F v l
  none_ : ∀ no id, rv no id = none → I.rows no id = none
  apart : ∀ no no' t r t' r', tb no = some (t, r) → tb no' = some (t', r') → no ≠ no' → t ≠ t' ∧ r ≠ r'
  mF : F m
  bF : F mb
  bound : ∀ k, F k → k < w.heap.size
/-- The same; only the tables D are there. -/
def InstIs (w : World) (m : Nat) (I : MI) (F : Nat → Prop) (D : List Int) : Prop := ∃ mb tb rv, InstAt w m I F mb tb rv ∧ ∀ n x, tb n = some x → n ∈ D
section
variable {w w1 : World} {m : Nat} {I : MI} {F S : Nat → Prop} {mb : Nat} {tb : Int → Option (Nat × Nat)} {rv : Int → Int → Option Value}
theorem InstAt.chg (H : InstAt w m I F mb tb rv) (hc : Chg w w1 S) (hS : ∀ k, F k → ¬ S k) : InstAt w1 m I F mb tb rv where
  blk := (hc.block m (H.bound m H.mF) (hS m H.mF)).trans H.blk
  amap := H.amap.chg hc (hS _ H.bF)
  tabs := fun no t r h => by
    obtain ⟨h1, h2, h3, h4, h5⟩ := H.tabs no t r h
    exact ⟨(hc.block t (H.bound t h3) (hS t h3)).trans h1, h2.chg hc (hS _ h4), h3, h4, h5⟩
  off := H.off
  vals := fun no id v h => by
    obtain ⟨l, h1, h2⟩ := H.vals no id v h
    exact ⟨l, h1, R_chg h2 hc (fun k _ _ hk _ _ => hS k hk)⟩
  none_ := H.none_
  apart := H.apart
  mF := H.mF
  bF := H.bF
  bound := fun k hk => Nat.lt_of_lt_of_le (H.bound k hk) hc.size
theorem InstAt.mono {G : Nat → Prop} (H : InstAt w m I F mb tb rv) (h1 : ∀ k, F k → G k) (h2 : ∀ k, G k → k < w.heap.size) : InstAt w m I G mb tb rv where
  blk := H.blk
  amap := H.amap
  tabs := fun no t r h => by
    obtain ⟨a1, a2, a3, a4, a5⟩ := H.tabs no t r h
    exact ⟨a1, a2, h1 _ a3, h1 _ a4, a5⟩
  off := H.off
  vals := fun no id v h => by
    obtain ⟨l, a1, a2⟩ := H.vals no id v h
    exact ⟨l, a1, Kd.R_mono a2 h1⟩
  none_ := H.none_
  apart := H.apart
  mF := h1 _ H.mF
  bF := h1 _ H.bF
  bound := h2
theorem InstAt.below (H : InstAt w m I F mb tb rv) (hb : Below w.heap.size w w1) : InstAt w1 m I F mb tb rv := H.chg (Chg.of_below hb (fun _ => False)) (fun _ _ h => h)
theorem InstIs.chg {D : List Int} (H : InstIs w m I F D) (hc : Chg w w1 S) (hS : ∀ k, F k → ¬ S k) : InstIs w1 m I F D := by
  obtain ⟨mb, tb, rv, H, h2⟩ := H
  exact ⟨mb, tb, rv, H.chg hc hS, h2⟩
theorem InstIs.below {D : List Int} (H : InstIs w m I F D) (hb : Below w.heap.size w w1) : InstIs w1 m I F D := H.chg (Chg.of_below hb (fun _ => False)) (fun _ _ h => h)
theorem InstIs.bound {D : List Int} (H : InstIs w m I F D) : ∀ k, F k → k < w.heap.size := by
  obtain ⟨mb, tb, rv, H, _⟩ := H
  exact H.bound
theorem InstAt.tne (H : InstAt w m I F mb tb rv) {no : Int} {t r : Nat} (h : tb no = some (t, r)) : t ≠ m ∧ t ≠ mb ∧ t ≠ r := by
  obtain ⟨h1, h2, _, _, _⟩ := H.tabs no t r h
  refine ⟨fun e => ?_, fun e => ?_, fun e => ?_⟩
  · rw [e, H.blk] at h1
    injection h1 with h1
    injection h1 with _ h1 _
    exact absurd h1 (by decide)
  · obtain ⟨es, c, he⟩ := H.amap.isMap
    rw [e, he] at h1
    cases h1
  · obtain ⟨es, c, he⟩ := h2.isMap
    rw [e, he] at h1
    cases h1
end
theorem new_calls (w : World) : Calls Try.prog 8 #[] w fun e w' => ∃ m, e = .returned (.pointer (some ⟨m, 0, none⟩)) ∧ w.heap.size ≤ m ∧ InstIs w' m MI.empty (fun k => w.heap.size ≤ k ∧ k < w'.heap.size) [] ∧ Below w.heap.size w w' := by
  have hmm := @run_makeMap Try.prog
  go_enter Try.func8, Try.ntmps8
  go_wp2
  go_ret
  have h1 : MapOf (Value.int .i64) ptr2 okI (w.alloc (.map #[] 0)) w.heap.size (fun _ => none) := MapOf.made w _ _ _
  refine ⟨_, rfl, by simp, ⟨w.heap.size, fun _ => none, fun _ _ => none, ?_, fun n x h => by cases h⟩, ((Below.refl _ w).alloc (Nat.le_refl _) _).alloc (by simp) _⟩
  exact {
    blk := (by have h := heap_alloc_new (w.alloc (.map #[] 0)) (.cells #[.map (some w.heap.size)] 62); rwa [World.size_alloc] at h)
    amap := h1.alloc _
    tabs := fun no t r h => by cases h
    off := fun no _ => ⟨fun _ => rfl, rfl⟩
    vals := fun no id v h => by cases h
    none_ := fun no id _ => rfl
    apart := fun no no' t r t' r' h => by cases h
    mF := ⟨by simp, by simp⟩
    bF := ⟨Nat.le_refl _, by simp; omega⟩
    bound := fun k hk => hk.2 }
theorem Try.zeroTab (w : World) : (zeroValue 54).run Try.prog w = .ok (.pointer none) w := by kernel_rfl
theorem Try.zeroRow (w : World) : (zeroValue 25).run Try.prog w = .ok (.slice none 0 0) w := by kernel_rfl
section
variable {w : World} {m : Nat} {I : MI} {F : Nat → Prop} {mb : Nat} {tb : Int → Option (Nat × Nat)} {rv : Int → Int → Option Value}
theorem InstAt.newtab {w3 : World} {no : Int} {t r : Nat} (H : InstAt w m I F mb tb rv) (hn : tb no = none) (hc : Chg w w3 (fun k => k = mb)) (hm : MapOf (Value.int .i64) ptr2 okI w3 mb (upd tb no (some (t, r)))) (ht : w3.heap[t]? = some (.cells #[.map (some r), .int .i64 0] 59 (0, 0)))
    (hr : MapOf (Value.int .i64) id okI w3 r (fun _ => (none : Option Value))) (h1 : w.heap.size ≤ t) (h2 : w.heap.size ≤ r) : InstAt w3 m I (ext F w w3) mb (upd tb no (some (t, r))) rv := by
  have hmb := H.bound mb H.bF
  have htl := blk_lt ht
  have hrl := hr.lt
  have hmm : m ≠ mb := fun e => by
    obtain ⟨es, c, he⟩ := H.amap.isMap
    have := H.blk
    rw [e, he] at this
    cases this
  exact {
    blk := (hc.block m (H.bound m H.mF) hmm).trans H.blk
    amap := hm
    tabs := fun no' t' r' h => by
      by_cases e : no' = no
      · subst e
        rw [upd_same] at h
        injection h with h
        injection h with e1 e2
        subst e1
        subst e2
        obtain ⟨h3, h4⟩ := H.off no' hn
        rw [h4]
        exact ⟨ht, hr.congr h3, .inr ⟨h1, htl⟩, .inr ⟨h2, hrl⟩, by omega⟩
      · rw [upd_other _ _ e] at h
        obtain ⟨a1, a2, a3, a4, a5⟩ := H.tabs no' t' r' h
        exact ⟨(hc.block t' (H.bound t' a3) (H.tne h).2.1).trans a1, a2.chg hc a5, .inl a3, .inl a4, a5⟩
    off := fun no' h => by
      by_cases e : no' = no
      · subst e
        rw [upd_same] at h
        cases h
      · rw [upd_other _ _ e] at h
        exact H.off no' h
    vals := fun no' id v h => by
      obtain ⟨l, a1, a2⟩ := H.vals no' id v h
      refine ⟨l, a1, Kd.R_mono (R_chg a2 hc (fun k q cells _ _ hk e => ?_)) (fun k hk => .inl hk)⟩
      obtain ⟨es, c, he⟩ := H.amap.isMap
      rw [e, he] at hk
      cases hk
    none_ := H.none_
    apart := fun no1 no2 t1 r1 t2 r2 g1 g2 hne => by
      by_cases e1 : no1 = no
      · subst e1
        rw [upd_same] at g1
        rw [upd_other _ _ (Ne.symm hne)] at g2
        injection g1 with g1
        injection g1 with e3 e4
        subst e3
        subst e4
        obtain ⟨_, _, a3, a4, _⟩ := H.tabs no2 t2 r2 g2
        have := H.bound _ a3
        have := H.bound _ a4
        omega
      · rw [upd_other _ _ e1] at g1
        by_cases e2 : no2 = no
        · subst e2
          rw [upd_same] at g2
          injection g2 with g2
          injection g2 with e3 e4
          subst e3
          subst e4
          obtain ⟨_, _, a3, a4, _⟩ := H.tabs no1 t1 r1 g1
          have := H.bound _ a3
          have := H.bound _ a4
          omega
        · rw [upd_other _ _ e2] at g2
          exact H.apart no1 no2 t1 r1 t2 r2 g1 g2 hne
    mF := .inl H.mF
    bF := .inl H.bF
    bound := fun k hk => by
      rcases hk with hk | hk
      · exact Nat.lt_of_lt_of_le (H.bound k hk) hc.size
      · exact hk.2 }
theorem table_old (H : InstAt w m I F mb tb rv) {no : Int} {t r : Nat} (h : tb no = some (t, r)) (ho : okI no) : Calls Try.prog 21 #[.pointer (some ⟨m, 0, none⟩), .int .i64 no] w fun e w' => e = .returned (.pointer (some ⟨t, 0, none⟩)) ∧ w' = w := by
  have hlk := H.amap.look keyInt Try.underlying60 (Try.zeroTab _) false ho
  rw [h] at hlk
  have hlk2 : (Instr.lookup 60 (.map (some mb)) (.int .i64 no) false).run Try.prog w = .ok (.pointer (some ⟨t, 0, none⟩)) w := hlk
  have c0 := blk_cell H.blk 0
  simp at c0
  clear H hlk h
  go_enter Try.func21, Try.ntmps21
  go_wp2
  go_ret
  exact ⟨rfl, rfl⟩
set_option maxRecDepth 100000 in
set_option maxHeartbeats 1000000 in
theorem table_new (H : InstAt w m I F mb tb rv) {no : Int} (h : tb no = none) (ho : okI no) : Calls Try.prog 21 #[.pointer (some ⟨m, 0, none⟩), .int .i64 no] w fun e w' => ∃ t r, e = .returned (.pointer (some ⟨t, 0, none⟩)) ∧ InstAt w' m I (ext F w w') mb (upd tb no (some (t, r))) rv ∧ Chg w w' F := by
  have hmm := @run_makeMap Try.prog
  have hlk := H.amap.look keyInt Try.underlying60 (Try.zeroTab _) false ho
  rw [h] at hlk
  have hlk2 : (Instr.lookup 60 (.map (some mb)) (.int .i64 no) false).run Try.prog w = .ok (.pointer none) w := hlk
  have hm0 := MapOf.made w (Value.int .i64) (fun v : Value => v) okI
  obtain ⟨w1, hw1⟩ : ∃ w1, w.alloc (.map #[] 0) = w1 := ⟨_, rfl⟩
  have B1 : Below w.heap.size w w1 := by rw [← hw1]; exact (Below.refl _ w).alloc (Nat.le_refl _) _
  have s1 : w1.heap.size = w.heap.size + 1 := by rw [← hw1]; simp
  rw [hw1] at hm0
  have hn2 := heap_alloc_new w1 (.cells #[.map (some w.heap.size), .int .i64 0] 59)
  obtain ⟨w2, hw2⟩ : ∃ w2, w1.alloc (.cells #[.map (some w.heap.size), .int .i64 0] 59) = w2 := ⟨_, rfl⟩
  have B2 : Below w.heap.size w w2 := by rw [← hw2]; exact B1.alloc (by omega) _
  have s2 : w2.heap.size = w.heap.size + 2 := by rw [← hw2]; simp; omega
  have hm2 : MapOf (Value.int .i64) (fun v : Value => v) okI w2 w.heap.size (fun _ => none) := by rw [← hw2]; exact hm0.alloc _
  rw [hw2, s1] at hn2
  have H2 := H.below B2
  obtain ⟨w3, hup, hm3, hc3, hs3⟩ := H2.amap.store keyInt Try.underlying60 ho (w.heap.size + 1, w.heap.size)
  simp only [ptr2] at hup
  have hmb := H.bound mb H.bF
  have hc : Chg w w3 (fun k => k = mb) := (Chg.of_below B2 (fun _ => False)).trans hc3 (fun _ _ h => h.elim) (fun _ _ h => h)
  have ht3 := (hc3.block (w.heap.size + 1) (by omega) (by omega)).trans hn2
  have hr3 := hm2.chg hc3 (by omega)
  have hN := H.newtab h hc hm3 ht3 hr3 (by omega) (Nat.le_refl _)
  have hlk3 := hN.amap.look keyInt Try.underlying60 (Try.zeroTab _) false ho
  rw [upd_same] at hlk3
  have hlk4 : (Instr.lookup 60 (.map (some mb)) (.int .i64 no) false).run Try.prog w3 = .ok (.pointer (some ⟨w.heap.size + 1, 0, none⟩)) w3 := hlk3
  have c0 := blk_cell H.blk 0
  have c2 := blk_cell H2.blk 0
  have c3 := blk_cell hN.blk 0
  have c1 := blk_cell (H.below B1).blk 0
  simp at c0 c1 c2 c3
  have HF := Aside0.mk (And.intro hN (hc.mono (fun k _ e => by rw [e]; exact H.bF) : Chg w w3 F))
  clear H H2 hN hlk hlk3 hc hm3 ht3 hr3 hm2 hm0 hn2 hc3 B1 B2
  go_enter Try.func21, Try.ntmps21
  go_wp2
  go_ret
  exact ⟨_, _, rfl, HF.out.1, HF.out.2⟩
end
end Go.Proofs.Ytdammjolkcjogaa

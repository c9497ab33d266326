import Derived.Test.YtljahhgankcalaaRw
import Derived.RangeFuncNested
import Derived.Test.YtljahhgankcalaaHddM
import Derived.Test.YtljahhgankcalaaPSightDeadx1
import Derived.RangeFuncBound
import Derived.RangeFuncCalls
import Derived.RangeFuncLeaves
import Derived.Shelf.Abstract
import Derived.Shelf.RegionOpen
import Derived.WalkKit
import Derived.OwnWalkIn
import Derived.TacticsInMore
import Derived.LoopNIn
import Derived.LoopIn
/-! A range over a function whose iterator has cells of its own: the rounds' law with a word 'Ab' for the iterator's own steps. -/
namespace Go.Proofs.Ytljahhgankcalaa
open Go Go.RowKit
variable {F : Fence} {n : Nat} {P : Program}

/-- What an iterator does: 'Ab' are its own steps; 'Kp' is what a round that goes on keeps for it. -/
def SeqV {α : Type} (F : Fence) (n : Nat) (P : Program) (g : Nat) (lb : Array Value) (encs : α → Array Value) (Ab Kp : World → World → Prop) (S Sp : List α → Prop) (N : Nat) (w : World) : Prop :=
  ∀ (l : Nat) (J Jx : List α → World → Prop) (W : World), Below w.heap.size w W → (∀ s X Y, J s X → Ab X Y → J s Y) → (∀ s X Y, Jx s X → Ab X Y → Jx s Y) →
    (∀ pre x W1, J pre W1 → pre.length < N → YieldAt F (n - 1) P l (encs x) W1 fun e W' =>
      (e = .returned (.bool true) ∧ J (pre ++ [x]) W' ∧ Kp W1 W') ∨ (e = .returned (.bool false) ∧ Jx (pre ++ [x]) W')) →
    J [] W →
    CallsIn F n P g (#[.func (.yield l) #[] #[]] ++ lb) W fun e W' => (∃ v, e = .returned v) ∧ ((∃ xs, S xs ∧ J xs W') ∨ (∃ pre, Sp pre ∧ Jx pre W'))

theorem rangeFunc_V {α : Type} {g : Operand} {ps : Array Tmp} {assign body : Code} {Q : Exit → Act → World → Prop} {a : Act} {w : World}
    (hro : F.round = none) (h1 : 1 ≤ n) {gf : Nat} {lb : Array Value} (hg : a.eval g = .func (.func gf) #[] lb) (hFg : F.fn gf) (eg : ∀ args w, (callFunc gf args).run P w = .ok (.enter gf args) w)
    {encs : α → Array Value} {Ab Kp : World → World → Prop} {S Sp : List α → Prop} {N : Nat} (hseq : SeqV F (n - 1) P gf lb encs Ab Kp S Sp N w)
    (hAb : ∀ X Y k o, Ab X Y → w.heap.size ≤ k → X.heap[k]? = some o → o.isCells = false → o.isWalk = false → Y.heap[k]? = some o)
    (hKt : ∀ {X Y Z : World}, Kp X Y → Kp Y Z → Kp X Z) (hKb : ∀ (W : World) (l : Nat) (o o' : Obj), w.heap.size ≤ l → W.heap[l]? = some o → (∃ r, o = .loop r) → Kp W (W.putObj l o')) (hps : ∀ x, (encs x).size = ps.size)
    (I : List α → World → Prop) (Ix : Code → List α → World → Prop) (hI : OwnFrom w.heap.size I) (hIx : ∀ c, OwnFrom w.heap.size (Ix c))
    (hIA : ∀ s X Y, I s X → Ab X Y → I s Y) (hIxA : ∀ c s X Y, Ix c s X → Ab X Y → Ix c s Y) (h0 : I [] w) (Ax : α → Act → World → Prop) (hAx : ∀ x a', OwnFrom w.heap.size (fun (_ : Unit) W => Ax x a' W))
    (hassign : ∀ (l : Nat) (pre : List α) (x : α) (W : World) (K : Act → World → Prop), I pre W → (∀ a' W', KeepsFrom w.heap.size W W' → Kp W W' → I pre W' → Ax x a' W' → K a' W') →
      assign.wpIn (F.inRound l) (n - 1 - 1) P (Exit.then K (fun _ _ _ => False)) { tmps := (ps.zip (encs x)).foldl (fun t (p, v) => t.setIfInBounds p v) a.tmps, defers := [] } W)
    (hbody : ∀ (l : Nat) (pre : List α) (x : α) (a' : Act) (W : World), w.heap.size ≤ l → (∃ r, W.heap[l]? = some (.loop r)) → I pre W → Ax x a' W → pre.length < N → body.wpIn (F.inRound l) (n - 1 - 1) P (ownPostG w.heap.size Kp I Ix (pre ++ [x]) W) a' W)
    (hdone : ∀ (D : Nat) (xs : List α) (W : World), w.heap.size ≤ D → S xs → I xs W → W.heap[D]? = some (.deferred (some [])) → Q .normal { a with defers := { target := .collected D, args := #[] } :: a.defers } W)
    (hstop : ∀ (D : Nat) (c : Code) (pre : List α) (W : World), w.heap.size ≤ D → Sp pre → Ix c pre W → W.heap[D]? = some (.deferred (some [])) → c.wpIn F n P Q { a with defers := { target := .collected D, args := #[] } :: a.defers } W) :
    (Code.rangeFunc g ps assign body).wpIn F n P Q a w := by
  refine wpIn_rangeFunc ?_
  intro fn hfn
  rw [hro]
  let rec' : LoopState → Option Code → Loop := fun st pe => { state := st, pending := pe, fn, tmps := a.tmps, params := ps, assign, body, defers := w.heap.size }
  obtain ⟨rec, hrec⟩ : ∃ rec, rec = rec' := ⟨_, rfl⟩
  obtain ⟨W1, hW1⟩ : ∃ W1, (w.alloc (.deferred (some []))).alloc (.loop (rec .ready none)) = W1 := ⟨_, rfl⟩
  have hL1 : W1.heap[w.heap.size + 1]? = some (.loop (rec .ready none)) := by
    rw [← hW1]
    have := World.alloc_heap_new (w.alloc (.deferred (some []))) (.loop (rec .ready none))
    rwa [World.size_alloc] at this
  have hD1 : W1.heap[w.heap.size]? = some (.deferred (some [])) := by
    rw [← hW1]
    exact (Below.heap_alloc _ _ _ (by simp)).trans (World.alloc_heap_new w _)
  have hI1 : I [] W1 := by
    rw [← hW1]
    exact hI.alloc _ (hI.alloc _ h0)
  have hb1 : Below w.heap.size w W1 := by
    rw [← hW1]
    exact ((Below.refl _ w).alloc (Nat.le_refl _) _).alloc (by simp) _
  -- the record and the block for deferred calls lie as they are told
  let Bk : LoopState → Option Code → World → Prop := fun st pe W => W.heap[w.heap.size + 1]? = some (.loop (rec st pe)) ∧ W.heap[w.heap.size]? = some (.deferred (some []))
  refine ⟨w.heap.size + 1, [{ target := .collected w.heap.size, args := #[] }], W1, { target := .fn (.func gf) lb, args := #[.func (.yield (w.heap.size + 1)) #[] #[]] }, W1, gf,
    #[.func (.yield (w.heap.size + 1)) #[] #[]] ++ lb, W1, ?_, ?_, ?_, ?_, fun _ => h1, ?_⟩
  · rw [← hW1, hrec]
    exact run_enterLoop_outer _ _ _ _ _
  · simp only [resolve, hg]
    simp [go_sem]
  · intro f' hf'
    simp [Target.leads] at hf'
    subst hf'
    exact hFg
  · simp [invoke, go_sem, eg]
  · refine (hseq (w.heap.size + 1) (fun pre W => I pre W ∧ Bk .ready none W) (fun pre W => ∃ c, Ix c pre W ∧ Bk .done (some c) W) W1 hb1
      (fun s X Y hs ha => ⟨hIA s X Y hs.1 ha, hAb X Y _ _ ha (by omega) hs.2.1 rfl rfl, hAb X Y _ _ ha (Nat.le_refl _) hs.2.2 rfl rfl⟩)
      (fun s X Y hs ha => by
        obtain ⟨c, hc, hl, hk⟩ := hs
        exact ⟨c, hIxA c s X Y hc ha, hAb X Y _ _ ha (by omega) hl rfl rfl, hAb X Y _ _ ha (Nat.le_refl _) hk rfl rfl⟩)
      ?_ ⟨hI1, hL1, hD1⟩).mono ?_
    · -- one round
      rintro pre x W ⟨hi, hl, hk⟩ hlen
      have hy := run_yield (P := P) (args := encs x) hl (by rw [hrec]; exact hps x)
      rw [hrec] at hy
      refine ⟨fn, _, assign, body, hy, roundIn_of_wpIn hfn (hassign _ pre x W _ hi ?_)⟩
      clear hy
      intro a' V hkf hkp hiV hax
      have hlV := hkf.same _ _ (by omega) hl rfl
      have hkV := hkf.same _ _ (Nat.le_refl _) hk rfl
      have hlt : w.heap.size + 1 < V.heap.size := (Array.getElem?_eq_some_iff.1 hlV).1
      refine ⟨_, run_beginRound hlV (by rw [hrec]), ?_⟩
      obtain ⟨V2, hV2⟩ : ∃ V2, V.putObj (w.heap.size + 1) (.loop { rec .ready none with state := .busy }) = V2 := ⟨_, rfl⟩
      have hl2 : V2.heap[w.heap.size + 1]? = some (.loop { rec .ready none with state := .busy }) := by rw [← hV2]; exact World.putObj_heap_same hlt
      have hk2 : V2.heap[w.heap.size]? = some (.deferred (some [])) := by rw [← hV2]; exact (World.putObj_heap_other (by omega)).trans hkV
      have hw2 : Kp W V2 := by rw [← hV2]; exact hKt hkp (hKb _ _ _ _ (by omega) hlV ⟨_, rfl⟩)
      have hi2 : I pre V2 := by rw [← hV2]; exact hI.putObj _ hiV (by omega) hlV rfl
      have ha2 : Ax x a' V2 := by rw [← hV2]; exact (hAx x a').putObj (s := ()) _ hax (by omega) hlV rfl
      rw [hV2]
      refine wpIn_mono (hbody _ pre x a' V2 (by omega) ⟨_, hl2⟩ hi2 ha2 hlen) ?_
      have fin : ∀ (jump : Option Code) (Z : World), KeepsFrom w.heap.size V2 Z → ∃ Z', Z' = Z.putObj (w.heap.size + 1) (.loop (rec (if jump.isNone then .ready else .done) jump)) ∧
          (Instr.endRound (w.heap.size + 1) jump).run P Z = .ok (.bool jump.isNone) Z' ∧ Z.heap[w.heap.size + 1]? = some (.loop { rec .ready none with state := .busy }) ∧ Bk (if jump.isNone then .ready else .done) jump Z' := fun jump Z hkz => by
        have hz := hkz.same _ _ (by omega) hl2 rfl
        have he := run_endRound (P := P) jump hz
        rw [hrec] at he hz
        refine ⟨_, rfl, by rw [hrec]; exact he, by rw [hrec]; exact hz, World.putObj_heap_same (Array.getElem?_eq_some_iff.1 hz).1, (World.putObj_heap_other (by omega)).trans (hkz.same _ _ (Nat.le_refl _) hk2 rfl)⟩
      have leave : ∀ (c : Code) (Z : World), KeepsFrom w.heap.size V2 Z ∧ Ix c (pre ++ [x]) Z → ∃ v Z', (Instr.endRound (w.heap.size + 1) (some c)).run P Z = .ok v Z' ∧
          ((Ending.returned v = .returned (.bool true) ∧ (I (pre ++ [x]) Z' ∧ Bk .ready none Z') ∧ Kp W Z') ∨ (Ending.returned v = .returned (.bool false) ∧ ∃ c, Ix c (pre ++ [x]) Z' ∧ Bk .done (some c) Z')) := fun c Z hp => by
        obtain ⟨Z', hZ, hr, hz, hb⟩ := fin (some c) Z hp.1
        refine ⟨_, _, hr, .inr ⟨rfl, c, ?_, hb⟩⟩
        rw [hZ]
        exact (hIx c).putObj _ hp.2 (by omega) hz rfl
      rintro e a3 Z hp
      cases e with
      | normal =>
        obtain ⟨hkz, hkp3, hi3⟩ := hp
        obtain ⟨Z', hZ, hr, hz, hb⟩ := fin none Z hkz
        refine ⟨_, _, hr, .inl ⟨rfl, ⟨?_, hb⟩, ?_⟩⟩
        · rw [hZ]
          exact hI.putObj _ hi3 (by omega) hz rfl
        · rw [hZ]
          exact hKt (hKt hw2 hkp3) (hKb _ _ _ _ (by omega) hz ⟨_, rfl⟩)
      | ret => exact leave .ret Z hp
      | exit id => exact leave (.exit id) Z hp
      | goto t => exact leave (.goto t) Z hp
      | panic ch => exact hp.elim
      | outgrown => exact hp.elim
    · -- behind the iterator
      rintro e Z ⟨⟨v, rfl⟩, (⟨xs, hS, hi, hl, hk⟩ | ⟨pre, hSp, c, hi, hl, hk⟩)⟩
      · exact ⟨none, _, by have := run_endLoop (P := P) hl (by rw [hrec]; simp [rec']); rw [hrec] at this; exact this, hdone _ xs _ (Nat.le_refl _) hS (hI.putObj _ hi (by omega) hl rfl) ((World.putObj_heap_other (by omega)).trans hk)⟩
      · exact ⟨some c, _, by have := run_endLoop (P := P) hl (by rw [hrec]; simp [rec']); rw [hrec] at this; exact this, hstop _ c pre _ (Nat.le_refl _) hSp ((hIx c).putObj _ hi (by omega) hl rfl) ((World.putObj_heap_other (by omega)).trans hk)⟩
end Go.Proofs.Ytljahhgankcalaa

/-! The table of transactions: the plain model 'TT', what it is in memory ('TabIs'); is, at, Last, New. -/
namespace Go.Proofs.Ytljahhgankcalaa
open Go.RowKit Go.Maps Go.MapKept Go.WideMaps
open Go.Proofs.YtljahhgankcalaaW.PrintWords Go.Proofs.YtljahhgankcalaaW.PrintLast Go.Proofs.YtljahhgankcalaaW.PrintMore
set_option linter.unusedVariables false
set_option linter.unusedSimpArgs false

abbrev TOne := PSightDead.S115
abbrev kOne : Kd TOne := PSightDead.k115
abbrev zOne : TOne := PSightDead.z115

/-- Transactions: that of the ID n at n - 1: what it stands below, its state, its number; how many numbers were given. -/
structure TT where
  all : List TOne
  last : Int
def TT.empty : TT := ⟨[], 0⟩
def TT.is (T : TT) (id : Int) : Bool := decide (1 ≤ id) && decide (id ≤ (T.all.length : Int))
def TT.at (T : TT) (id : Int) : TOne := T.all.getD (id - 1).toNat zOne
/-- What the code goes by: who stands below another one is younger. -/
structure TT.Ok (T : TT) : Prop where
  par : ∀ i (h : i < T.all.length), 0 ≤ T.all[i].f0 ∧ T.all[i].f0 ≤ (i : Int)
  last0 : 0 ≤ T.last
theorem TT.is_iff (T : TT) (id : Int) : T.is id = true ↔ 1 ≤ id ∧ id ≤ (T.all.length : Int) := by simp [TT.is]

structure TabAt (w : World) (x : Nat) (T : TT) (F : Nat → Prop) (v : Value) : Prop where
  blk : w.heap[x]? = some (.cells #[v, .int .i64 T.last] 113 (0, 0))
  all : Kd.R kOne 115 w 0 (fun k => F k ∧ k ≠ x) v T.all
  hF : F x
  bound : ∀ k, F k → k < w.heap.size
def TabIs (w : World) (x : Nat) (T : TT) (F : Nat → Prop) : Prop := ∃ v, TabAt w x T F v
section
variable {w w1 : World} {x : Nat} {T : TT} {F S : Nat → Prop} {v : Value}
theorem TabAt.move (H : TabAt w x T F v) (hm : ∀ k, F k → w1.heap[k]? = w.heap[k]?) (hs : w.heap.size ≤ w1.heap.size) : TabAt w1 x T F v where
  blk := (hm x H.hF).trans H.blk
  all := Kd.R_step H.all (fun k hk _ => hm k hk.1)
  hF := H.hF
  bound := fun k hk => Nat.lt_of_lt_of_le (H.bound k hk) hs
theorem TabIs.move (H : TabIs w x T F) (hm : ∀ k, F k → w1.heap[k]? = w.heap[k]?) (hs : w.heap.size ≤ w1.heap.size) : TabIs w1 x T F := by
  obtain ⟨v, H⟩ := H
  exact ⟨v, H.move hm hs⟩
theorem TabIs.bound (H : TabIs w x T F) : ∀ k, F k → k < w.heap.size := by
  obtain ⟨v, H⟩ := H
  exact H.bound
theorem TabIs.hF (H : TabIs w x T F) : F x := by
  obtain ⟨v, H⟩ := H
  exact H.hF
theorem TabIs.chg (H : TabIs w x T F) (hc : Chg w w1 S) (hS : ∀ k, F k → ¬ S k) : TabIs w1 x T F := H.move (fun k hk => hc.block k (H.bound k hk) (hS k hk)) hc.size
theorem TabIs.below (H : TabIs w x T F) (hb : Below w.heap.size w w1) : TabIs w1 x T F := H.chg (Chg.of_below hb (fun _ => False)) (fun _ _ h => h)
theorem TabIs.mono {G : Nat → Prop} (H : TabIs w x T F) (hFG : ∀ k, F k → G k) (hG : ∀ k, G k → k < w.heap.size) : TabIs w x T G := by
  obtain ⟨v, H⟩ := H
  exact ⟨v, H.blk, Kd.R_mono H.all (fun k hk => ⟨hFG k hk.1, hk.2⟩), hFG _ H.hF, hG⟩
theorem TabAt.slice (H : TabAt w x T F v) : ∃ a c, v = .slice a T.all.length c ∧ T.all.length ≤ 9223372036854775807 := by
  obtain ⟨a, c, h1, h2, h3⟩ := Kd.R_reads H.all
  exact ⟨a, c, h1, h3.2.1⟩
/-- A transaction's cells. -/
theorem TabAt.one (H : TabAt w x T F v) {i : Nat} (hi : i < T.all.length) : ∃ g cap cur, v = .slice (some ⟨g, 0, none⟩) T.all.length cap ∧ T.all.length ≤ cap ∧ cap ≤ maxLen ∧ F g ∧ g ≠ x ∧ w.heap[g]? = some (.cells cur 115 (0, 0)) ∧ cur.size = cap * 3 ∧
    cur[i * 3]? = some (.int .i64 T.all[i].f0) ∧ cur[i * 3 + 1]? = some (.int .u8 T.all[i].f1) ∧ cur[i * 3 + 2]? = some (.int .i64 T.all[i].f2) := by
  obtain ⟨g, cap, cur, c, hv, hF, _, hg, h1, h2, hs, hM, _, hc⟩ := R_elem H.all hi
  obtain rfl := PSightDead.k115_openM hM
  exact ⟨g, cap, cur, hv, h1, h2, hF.1, hF.2, hg, hs, hc 0 _ rfl, hc 1 _ rfl, hc 2 _ rfl⟩
end

theorem xnew_calls (w : World) : Calls Try.prog 21 #[] w fun e w' => e = .returned (.pointer (some ⟨w.heap.size, 0, none⟩)) ∧ TabIs w' w.heap.size TT.empty (fun k => k = w.heap.size) ∧ Below w.heap.size w w' ∧ w'.heap.size = w.heap.size + 1 := by
  go_enter Try.func21, Try.ntmps21
  go_wp2
  go_ret
  refine ⟨rfl, ⟨.slice none 0 0, ?_, Kd.R_nil _ _ _ _ _, rfl, fun k hk => by simp; omega⟩, (Below.refl _ w).alloc (Nat.le_refl _) _, by simp⟩
  exact blk_new w _

theorem xlast_calls (x : Nat) (T : TT) (F : Nat → Prop) (w : World) (H : TabIs w x T F) :
    Calls Try.prog 61 #[.pointer (some ⟨x, 0, none⟩)] w fun e w' => e = .returned (.int .i64 T.last) ∧ w' = w := by
  obtain ⟨v, H⟩ := H
  have hc : w.cell? ⟨x, 1, none⟩ = some (.int .i64 T.last) := blk_cell H.blk 1
  clear H
  go_enter Try.func61, Try.ntmps61
  go_wp2
  go_ret
  exact ⟨rfl, rfl⟩

theorem xis_calls (x : Nat) (T : TT) (F : Nat → Prop) (w : World) (H : TabIs w x T F) (id : Int) :
    Calls Try.prog 62 #[.pointer (some ⟨x, 0, none⟩), .int .i64 id] w fun e w' => e = .returned (.bool (T.is id)) ∧ w' = w := by
  obtain ⟨v, H⟩ := H
  obtain ⟨a, c, rfl, _⟩ := H.slice
  have hc : w.cell? ⟨x, 0, none⟩ = some (.slice a T.all.length c) := blk_cell H.blk 0
  unfold TT.is
  clear H
  cases h1 : decide (1 ≤ id) <;> cases h2 : decide (id ≤ (T.all.length : Int))
  all_goals
    go_enter Try.func62, Try.ntmps62
    go_wp2
    go_ret
    exact ⟨rfl, rfl⟩

/-- Where the transaction of an ID lies. -/
theorem xat_calls (x : Nat) (g n c : Nat) (w : World) (hc : w.cell? ⟨x, 0, none⟩ = some (.slice (some ⟨g, 0, none⟩) n c)) (i : Nat) (hi : i < n) (hn : n ≤ 9223372036854775807) :
    Calls Try.prog 63 #[.pointer (some ⟨x, 0, none⟩), .int .i64 (i + 1)] w fun e w' => e = .returned (.pointer (some ⟨g, i * 3, none⟩)) ∧ w' = w := by
  have h0 : IntKind.wrap .i64 ((i : Int) + 1 - 1) = (i : Int) := by rw [IntKind.wrap_i64]; omega
  have h1 : decide (i < n) = true := decide_eq_true hi
  have h2 : (0 : Int) ≤ (i : Int) := by omega
  have h3 : (i : Int) < (n : Int) := by omega
  go_enter Try.func63, Try.ntmps63
  go_wp2
  go_ret
  exact ⟨by simp, rfl⟩
end Go.Proofs.Ytljahhgankcalaa

/-! (*Table).up: a transaction, what it stands below, and so on: the iterator; Top, Counts, Number. -/
namespace Go.Proofs.Ytljahhgankcalaa
open Go.RowKit Go.Maps Go.MapKept Go.WideMaps Go.Shelf
open Go.Proofs.YtljahhgankcalaaW.PrintWords Go.Proofs.YtljahhgankcalaaW.PrintLast Go.Proofs.YtljahhgankcalaaW.PrintMore
attribute [local go_sem] Oper.semAt_some
set_option linter.unusedVariables false
set_option linter.unusedSimpArgs false

def TT.upc (T : TT) : Nat → Int → List Int
  | 0, _ => []
  | k + 1, id => if T.is id then id :: T.upc k (T.at id).f0 else []
def TT.up (T : TT) (id : Int) : List Int := T.upc T.all.length id
theorem TT.at_nat (T : TT) {i : Nat} (hi : i < T.all.length) : T.at ((i : Int) + 1) = T.all[i] := by
  unfold TT.at
  rw [show ((i : Int) + 1 - 1).toNat = i from by omega, List.getD_eq_getElem?_getD, List.getElem?_eq_getElem hi]
  rfl
theorem TT.Ok.par_lt {T : TT} (h : T.Ok) {id : Int} (hi : T.is id = true) : 0 ≤ (T.at id).f0 ∧ (T.at id).f0 < id := by
  have h1 := (T.is_iff id).1 hi
  obtain ⟨i, rfl⟩ : ∃ i : Nat, id = (i : Int) + 1 := ⟨(id - 1).toNat, by omega⟩
  have hl : i < T.all.length := by omega
  rw [T.at_nat hl]
  have := h.par i hl
  omega
theorem TT.Ok.upc_more {T : TT} (h : T.Ok) : ∀ (k k' : Nat) (id : Int), id ≤ k → k ≤ k' → T.upc k' id = T.upc k id
  | 0, k', id, h1, h2 => by
    cases k' with
    | zero => rfl
    | succ m =>
      have : T.is id = false := by
        cases e : T.is id with
        | false => rfl
        | true => have := (T.is_iff id).1 e; omega
      simp [TT.upc, this]
  | k + 1, k', id, h1, h2 => by
    obtain ⟨m, rfl⟩ : ∃ m, k' = m + 1 := ⟨k' - 1, by omega⟩
    cases e : T.is id with
    | false => simp [TT.upc, e]
    | true =>
      have hp := h.par_lt e
      simp only [TT.upc, e, if_true]
      rw [h.upc_more k m _ (by omega) (by omega)]
theorem TT.up_no {T : TT} {id : Int} (e : T.is id = false) : T.up id = [] := by
  unfold TT.up
  cases h : T.all.length with
  | zero => rfl
  | succ m => simp [TT.upc, e]
theorem TT.Ok.up_yes {T : TT} (h : T.Ok) {id : Int} (e : T.is id = true) : T.up id = id :: T.up (T.at id).f0 := by
  have h1 := (T.is_iff id).1 e
  have hp := h.par_lt e
  unfold TT.up
  obtain ⟨m, hm⟩ : ∃ m, T.all.length = m + 1 := ⟨T.all.length - 1, by omega⟩
  rw [hm]
  conv => lhs; simp only [TT.upc, e, if_true]
  rw [h.upc_more m (m + 1) _ (by omega) (by omega)]

def idOf (W : World) (b : Nat) : Nat := (intOf ((W.cell? ⟨b, 0, none⟩).getD undef)).toNat
theorem one_cell {W : World} {g t : Nat} {v : Value} (h : W.heap[g]? = some (.cells #[v] t (0, 0))) : W.cell? ⟨g, 0, none⟩ = some v := by
  rw [blk_cell h 0]
  rfl

abbrev TT.Id (T : TT) := { a : Int // T.is a = true }
def TT.ids {T : TT} (l : List T.Id) : List Int := l.map (fun a => a.1)
theorem TT.ids_more {T : TT} (l : List T.Id) (a : T.Id) : TT.ids (l ++ [a]) = TT.ids l ++ [a.1] := by simp [TT.ids]
theorem TT.ids_len {T : TT} (l : List T.Id) : (TT.ids l).length = l.length := by simp [TT.ids]

set_option maxRecDepth 100000 in
theorem up1_seq (x bt bi : Nat) (id : Int) (T : TT) (F Sb : Nat → Prop) (w : World) (H : TabIs w x T F) (hOk : T.Ok)
    (hbt : w.heap[bt]? = some (.cells #[.pointer (some ⟨x, 0, none⟩)] 46 (0, 0))) (hbi : w.heap[bi]? = some (.cells #[.int .i64 id] 3 (0, 0))) (hne : bt ≠ bi) (hFi : ¬ F bi)
    (hS : ∀ k, F k → ¬ Sb k) (hSt : ¬ Sb bt) (hSi : ¬ Sb bi) (n : Nat) (hn : 3 ≤ n) :
    SeqV Fence.wide n Try.prog 105 #[.pointer (some ⟨bt, 0, none⟩), .pointer (some ⟨bi, 0, none⟩)] (fun a : T.Id => #[.int .i64 a.1]) (fun X Y => Chg X Y (fun k => k = bi)) (fun X Y => Chg X Y Sb) (fun xs => TT.ids xs = T.up id) (fun pre => TT.ids pre <+: T.up id) (T.up id).length w := by
  intro l J Jx W hB hJ hJx hY h0
  have hn1 : 1 ≤ n := by omega
  have HT := H.below hB
  have ht := blk_below hbt hB
  have hi := blk_below hbi hB
  refine callsIn_of_wp Try.func105 rfl trivial ?_ rfl
  simp only [Try.ntmps105, List.size_toArray, List.length_cons, List.length_nil, Nat.reduceAdd, Nat.reduceSub, Array.replicate_succ, Array.replicate_zero, List.push_toArray, List.append_toArray, List.nil_append, List.cons_append]
  gi_wp2
  gi_loopw [] (fun wr => ∃ (pre : List T.Id) (cur : Int), Aside0 (T.up id = TT.ids pre ++ T.up cur) ∧ Aside0 (TabIs wr x T F) ∧ Aside0 (wr.heap[bt]? = some (.cells #[.pointer (some ⟨x, 0, none⟩)] 46 (0, 0))) ∧ Aside0 (wr.heap[bi]? = some (.cells #[.int .i64 cur] 3 (0, 0))) ∧ Aside0 (J pre wr))
    (fun wr => idOf wr bi)
  case atStart => exact ⟨[], id, ⟨rfl⟩, ⟨HT⟩, ⟨ht⟩, ⟨hi⟩, ⟨h0⟩⟩
  case round =>
    obtain ⟨pre, cur, hx, HT, ht, hi, hj⟩ := hrel
    have k1 := one_cell ht.out
    have k2 := one_cell hi.out
    have his := xis_calls x T F wr HT.out cur
    cases e : T.is cur with
    | false =>
      rw [e] at his
      have HE := Aside0.mk e
      clear e
      gi_wp2_with (refine ⟨trivial, ?_⟩; gi_at_call 62; refine (callsIn_wide.2 his).mono ?_; clear his; rintro e w' ⟨rfl, hw⟩; obtain rfl := hw.symm)
      refine ⟨fun _ h => (by cases h), ?_⟩
      gi_wp2
      go_end0
      exact ⟨⟨_, rfl⟩, .inl ⟨pre, by rw [hx.out, TT.up_no HE.out, List.append_nil], hj.out⟩⟩
    | true =>
      rw [e] at his
      have hp := hOk.par_lt e
      have hup := hOk.up_yes e
      have h1 := (T.is_iff cur).1 e
      have HE := Aside0.mk e
      obtain ⟨fn, tmps, assign, body, hy, hR⟩ := hY pre ⟨cur, HE.out⟩ wr hj.out (by rw [hx.out, hup]; simp [TT.ids_len])
      have HX := Aside0.mk (And.intro hp (And.intro hup h1))
      dsimp only at hy
      clear e hp hup h1
      gi_wp2_with (refine ⟨trivial, ?_⟩; gi_at_call 62; refine (callsIn_wide.2 his).mono ?_; clear his; rintro e w' ⟨rfl, hw⟩; obtain rfl := hw.symm)
      refine hR.mono ?_
      rintro e W3 (⟨rfl, hJ3, hk3⟩ | ⟨rfl, hJx3⟩)
      · have HT3 := HT.out.chg hk3 hS
        have ht3 := hk3.obj ht.out hSt
        have hi3 := hk3.obj hi.out hSi
        obtain ⟨i, rfl⟩ : ∃ i : Nat, cur = (i : Int) + 1 := ⟨(cur - 1).toNat, by have := HX.out.2.2; omega⟩
        have hl : i < T.all.length := by have := HX.out.2.2; omega
        obtain ⟨v, HT4⟩ := HT3
        obtain ⟨g, cap, cur, rfl, c1, c2, hgF, hgx, hg, hsz, y0, y1, y2⟩ := HT4.one hl
        have hat := xat_calls x g T.all.length cap W3 (blk_cell HT4.blk 0) i hl (by unfold maxLen at c2; omega)
        have q0 := (blk_cell hg (i * 3)).trans y0
        have k1 := one_cell ht3
        have k2 := one_cell hi3
        have z2 := blk_frozen hi3 0
        replace HT4 := Aside0.mk HT4
        replace ht3 := Aside0.mk ht3
        replace hi3 := Aside0.mk hi3
        replace hk3 := Aside0.mk hk3
        clear y0 y1 y2 hg c1 c2 hsz
        gi_wp2_with (refine ⟨trivial, ?_⟩; gi_at_call 63; refine (callsIn_wide.2 hat).mono ?_; clear hat; rintro e w' ⟨rfl, hw⟩; obtain rfl := hw.symm)
        have hpn : T.at ((i : Int) + 1) = T.all[i] := T.at_nat hl
        have hc := Chg.setCell (p := ⟨bi, 0, none⟩) (Chg.refl W3 (fun k => k = bi)) (.inl rfl) (.int .i64 T.all[i].f0)
        go_roundw
        case rel =>
          refine ⟨pre ++ [⟨(i : Int) + 1, HE.out⟩], T.all[i].f0, ⟨?_⟩, ⟨TabIs.chg ⟨_, HT4.out⟩ hc (fun k hk e => hFi (e ▸ hk))⟩, ⟨hc.obj ht3.out hne⟩, ⟨blk_put hi3.out 0 _ rfl⟩, ⟨hJ _ _ _ hJ3 hc⟩⟩
          rw [hx.out, HX.out.2.1, hpn, TT.ids_more]
          simp
        case measure =>
          have hm1 : idOf (W3.setCell ⟨bi, 0, none⟩ (.int .i64 T.all[i].f0)) bi = T.all[i].f0.toNat := by
            unfold idOf
            rw [one_cell (blk_put hi3.out 0 (.int .i64 T.all[i].f0) rfl)]
            rfl
          have hm2 : idOf wr bi = ((i : Int) + 1).toNat := by
            unfold idOf
            rw [one_cell hi.out]
            rfl
          rw [hm1, hm2]
          have := HX.out.1
          rw [hpn] at this
          omega
      · gi_wp2
        go_end0
        refine ⟨⟨_, rfl⟩, .inr ⟨pre ++ [⟨cur, HE.out⟩], ⟨T.up (T.at cur).f0, ?_⟩, hJx3⟩⟩
        rw [hx.out, HX.out.2.1, TT.ids_more]
        simp
end Go.Proofs.Ytljahhgankcalaa

/-! (*Table).Top, Counts, Number. -/
namespace Go.Proofs.Ytljahhgankcalaa
open Go.RowKit Go.Maps Go.MapKept Go.WideMaps Go.Shelf
open Go.Proofs.YtljahhgankcalaaW.PrintWords Go.Proofs.YtljahhgankcalaaW.PrintLast Go.Proofs.YtljahhgankcalaaW.PrintMore
attribute [local go_sem] Oper.semAt_some
set_option linter.unusedVariables false
set_option linter.unusedSimpArgs false

def TT.top (T : TT) (id : Int) : Int := (T.up id).getLastD 0
def TT.counts (T : TT) (id : Int) : Bool := T.is id && (T.up id).all (fun k => (T.at k).f1 != 3)
def TT.number (T : TT) (id : Int) : Int := if T.counts id then (T.at (T.top id)).f2 else 0

theorem up_calls (x : Nat) (id : Int) (w : World) :
    Calls Try.prog 93 #[.pointer (some ⟨x, 0, none⟩), .int .i64 id] w fun e w' => e = .returned (.func (.func 105) #[] #[.pointer (some ⟨w.heap.size, 0, none⟩), .pointer (some ⟨w.heap.size + 1, 0, none⟩)]) ∧
      w' = (w.alloc (.cells #[.pointer (some ⟨x, 0, none⟩)] 46)).alloc (.cells #[.int .i64 id] 3) := by
  go_enter Try.func93, Try.ntmps93
  go_wp2
  go_ret
  exact ⟨by simp, rfl⟩

/-- Blocks of one's own, and what is newer. -/
theorem chg_put {W : World} {l B : Nat} {S : Nat → Prop} (o' : Obj) (hB : B ≤ l) (hS : ∀ k, B ≤ k → S k) : Chg W (W.putObj l o') S :=
  (Chg.of_grown (grownBy_putObj' W l o')).mono (fun k _ h => hS k (by cases h; exact hB))

/-- A result that lies in a bool's cell. -/
theorem results_box {fn : Func} {p : Tmp} {b : Bool} {g : Nat} (h : fn.results = #[.cell p 4]) (tmps : Array Value) (w : World) (hp : tmps.getD p undef = .pointer (some ⟨g, 0, none⟩)) (hc : w.cell? ⟨g, 0, none⟩ = some (.bool b)) :
    (results fn tmps).run Try.prog w = .ok (.bool b) w := by
  have hp' : tmps[p]?.getD undef = .pointer (some ⟨g, 0, none⟩) := by simpa using hp
  simp [results, h, hp', asAddr, go_sem, hc]

set_option maxRecDepth 100000 in
theorem top_calls (x : Nat) (T : TT) (F : Nat → Prop) (w : World) (H : TabIs w x T F) (hOk : T.Ok) (id : Int) :
    Calls Try.prog 66 #[.pointer (some ⟨x, 0, none⟩), .int .i64 id] w fun e w' => e = .returned (.int .i64 (T.top id)) ∧ Below w.heap.size w w' := by
  refine (callsIn_wide (n := 6)).1 ?_
  refine callsIn_of_wp_marks Try.func66 rfl trivial ?_ rfl
  simp only [Try.ntmps66, List.size_toArray, List.length_cons, List.length_nil, Nat.reduceAdd, Nat.reduceSub, Array.replicate_succ, Array.replicate_zero, List.push_toArray, List.append_toArray, List.nil_append, List.cons_append]
  gi_wp2_with (refine ⟨trivial, ?_⟩; gi_at_call 93; refine (callsIn_wide.2 (up_calls x id _)).mono ?_; rintro e w' ⟨rfl, rfl⟩)
  have b0 := Boxed.new w 3 (.int .i64 0)
  have s1 : (w.alloc (.cells #[.int .i64 0] 3)).heap.size = w.heap.size + 1 := by simp
  have hb1 : Below w.heap.size w (w.alloc (.cells #[.int .i64 0] 3)) := (Below.refl _ w).alloc (Nat.le_refl _) _
  obtain ⟨w1, hw1⟩ : ∃ w1, w.alloc (.cells #[.int .i64 0] 3) = w1 := ⟨_, rfl⟩
  simp only [hw1] at b0 s1 hb1 ⊢
  clear hw1
  have b1 := Boxed.new w1 46 (.pointer (some ⟨x, 0, none⟩))
  have b2 := Boxed.new (w1.alloc (.cells #[.pointer (some ⟨x, 0, none⟩)] 46)) 3 (.int .i64 id)
  rw [World.size_alloc] at b2
  replace b1 := b1.alloc (.cells #[.int .i64 id] 3)
  replace b0 := (b0.alloc (.cells #[.pointer (some ⟨x, 0, none⟩)] 46)).alloc (.cells #[.int .i64 id] 3)
  have hb2 : Below w.heap.size w ((w1.alloc (.cells #[.pointer (some ⟨x, 0, none⟩)] 46)).alloc (.cells #[.int .i64 id] 3)) := (hb1.alloc hb1.size _).alloc (by simp; omega) _
  have s2 : ((w1.alloc (.cells #[.pointer (some ⟨x, 0, none⟩)] 46)).alloc (.cells #[.int .i64 id] 3)).heap.size = w.heap.size + 3 := by simp; omega
  try simp only [World.size_alloc]
  obtain ⟨W0, hW0⟩ : ∃ W0, (w1.alloc (.cells #[.pointer (some ⟨x, 0, none⟩)] 46)).alloc (.cells #[.int .i64 id] 3) = W0 := ⟨_, rfl⟩
  rw [hW0] at b0 b1 b2 hb2 s2 ⊢
  rw [s1] at b1 b2
  clear hW0 hb1 s1
  clear w1
  have hlt := fun k hk => H.bound k hk
  refine rangeFunc_V rfl (by omega) (gf := 105) (lb := #[.pointer (some ⟨w.heap.size + 1, 0, none⟩), .pointer (some ⟨w.heap.size + 1 + 1, 0, none⟩)]) rfl trivial (enters_of Try.func105 (by kernel_rfl) rfl)
    (up1_seq x (w.heap.size + 1) (w.heap.size + 1 + 1) id T F (fun k => k = w.heap.size ∨ w.heap.size + 3 ≤ k) W0 (H.below hb2) hOk b1 b2 (by omega) (fun hf => by have := hlt _ hf; omega)
      (fun k hk e => by have := hlt k hk; omega) (by omega) (by omega) _ (by omega))
    (fun X Y k o hc hk hx ho _ => (hc.block k (Array.getElem?_eq_some_iff.1 hx).1 (by omega)).trans hx)
    (fun h1 h2 => h1.trans h2 (fun _ _ h => h) (fun _ _ h => h)) (fun W l o o' hl _ _ => chg_put o' hl (fun k hk => by omega)) (fun _ => rfl)
    (fun pre W => Boxed W w.heap.size 3 (.int .i64 ((TT.ids pre).getLastD 0)) ∧ Below w.heap.size w W)
    (fun _ _ _ => False)
    (fun s X Y row hs hg hr => ⟨hs.1.kept hg (fun e => by have := (hr _ e.symm).1; omega), hs.2.grown hg hs.2.size (fun k e => by have := (hr k e).1; omega)⟩)
    (fun _ _ _ _ _ hs _ _ => hs)
    (fun s X Y hs hc => ⟨hc.obj hs.1 (by omega), hs.2.trans (hc.below hs.2.size (fun k e => by omega))⟩)
    (fun _ _ _ _ hs _ => hs)
    ⟨b0, hb2⟩
    (fun (a : T.Id) a' W => a' = { tmps := #[.pointer (some ⟨x, 0, none⟩), .int .i64 id, undef, undef, .int .i64 0, .pointer (some ⟨w.heap.size, 0, none⟩), .int .i64 a.1, .pointer (some ⟨x, 0, none⟩), .int .i64 id, .func (.func 105) #[] #[.pointer (some ⟨w.heap.size + 1, 0, none⟩), .pointer (some ⟨w.heap.size + 1 + 1, 0, none⟩)], .int .i64 a.1, undef, undef], defers := [] })
    (fun a a' _ X Y row hs hg hr => hs)
    ?assign ?body ?done ?stop
  case assign =>
    rintro l pre a W K ⟨hb, hB⟩ hK
    gi_wp2
    exact hK _ _ (KeepsFrom.refl _ _) (Chg.refl _ _) ⟨hb, hB⟩ rfl
  case body =>
    rintro l pre a a' W hl ⟨r, hr⟩ ⟨hb, hB⟩ rfl hlen
    have hc := hb.cell
    have hf := hb.frozen
    gi_wp2
    exact ⟨(KeepsOthers.setCell _ _ _).from _, Chg.setCell (p := ⟨w.heap.size, 0, none⟩) (Chg.refl W _) (.inl (.inl rfl)) _, by rw [TT.ids_more, List.getLastD_concat]; exact hb.set _, hB.setCell (p := ⟨w.heap.size, 0, none⟩) (Nat.le_refl _) _⟩
  case done =>
    rintro D xs W hD hxs ⟨hb, hB⟩ hK
    rw [hxs, show (T.up id).getLastD 0 = T.top id from rfl] at hb
    have hc := hb.cell
    gi_wp2
    refine ⟨by simp, .inl ⟨_, _, rfl, run_takeDeferred hK, ?_⟩⟩
    refine ⟨_, results_tmp rfl _ _ _, rfl, ?_⟩
    exact hB.trans (belowK_b (w := w) (Nat.le_refl _) W D _ _ (by omega) hK rfl rfl)
  case stop =>
    rintro D c pre W _ _ h _
    exact h.elim

theorem all_ne {T : TT} {l : List Int} {id : Int} (h : ∃ a ∈ l, (T.at a).f1 = 3) : l.all (fun k => (T.at k).f1 != 3) = false := by
  obtain ⟨a, h1, h2⟩ := h
  rw [List.all_eq_false]
  exact ⟨a, h1, by simp [h2]⟩
theorem TT.Ok.up_is {T : TT} (h : T.Ok) : ∀ (k : Nat) (id : Int), ∀ a ∈ T.upc k id, T.is a = true
  | 0, _, a, ha => by simp [TT.upc] at ha
  | k + 1, id, a, ha => by
    cases e : T.is id with
    | false => simp [TT.upc, e] at ha
    | true =>
      simp only [TT.upc, e, if_true, List.mem_cons] at ha
      rcases ha with rfl | ha
      · exact e
      · exact h.up_is k _ a ha

set_option maxRecDepth 100000 in
set_option maxHeartbeats 1000000 in
theorem counts_calls (x : Nat) (T : TT) (F : Nat → Prop) (w : World) (H : TabIs w x T F) (hOk : T.Ok) (id : Int) :
    Calls Try.prog 65 #[.pointer (some ⟨x, 0, none⟩), .int .i64 id] w fun e w' => e = .returned (.bool (T.counts id)) ∧ Below w.heap.size w w' := by
  refine (callsIn_wide (n := 6)).1 ?_
  refine callsIn_of_wp_marks Try.func65 rfl trivial ?_ rfl
  simp only [Try.ntmps65, List.size_toArray, List.length_cons, List.length_nil, Nat.reduceAdd, Nat.reduceSub, Array.replicate_succ, Array.replicate_zero, List.push_toArray, List.append_toArray, List.nil_append, List.cons_append]
  gi_wp2_with (refine ⟨trivial, ?_⟩; gi_at_call 93; refine (callsIn_wide.2 (up_calls x id _)).mono ?_; rintro e w' ⟨rfl, rfl⟩)
  have a0 := Boxed.new w 46 (.pointer (some ⟨x, 0, none⟩))
  have a1 := Boxed.new (w.alloc (.cells #[.pointer (some ⟨x, 0, none⟩)] 46)) 4 (.bool false)
  rw [World.size_alloc] at a1
  replace a0 := a0.alloc (.cells #[.bool false] 4)
  have hb1 : Below w.heap.size w ((w.alloc (.cells #[.pointer (some ⟨x, 0, none⟩)] 46)).alloc (.cells #[.bool false] 4)) := ((Below.refl _ w).alloc (Nat.le_refl _) _).alloc (by simp) _
  have s1 : ((w.alloc (.cells #[.pointer (some ⟨x, 0, none⟩)] 46)).alloc (.cells #[.bool false] 4)).heap.size = w.heap.size + 2 := by simp
  obtain ⟨w1, hw1⟩ : ∃ w1, (w.alloc (.cells #[.pointer (some ⟨x, 0, none⟩)] 46)).alloc (.cells #[.bool false] 4) = w1 := ⟨_, rfl⟩
  simp only [hw1] at a0 a1 s1 hb1 ⊢
  clear hw1
  have b1 := Boxed.new w1 46 (.pointer (some ⟨x, 0, none⟩))
  have b2 := Boxed.new (w1.alloc (.cells #[.pointer (some ⟨x, 0, none⟩)] 46)) 3 (.int .i64 id)
  rw [World.size_alloc] at b2
  replace b1 := b1.alloc (.cells #[.int .i64 id] 3)
  replace a0 := (a0.alloc (.cells #[.pointer (some ⟨x, 0, none⟩)] 46)).alloc (.cells #[.int .i64 id] 3)
  replace a1 := (a1.alloc (.cells #[.pointer (some ⟨x, 0, none⟩)] 46)).alloc (.cells #[.int .i64 id] 3)
  have hb2 : Below w.heap.size w ((w1.alloc (.cells #[.pointer (some ⟨x, 0, none⟩)] 46)).alloc (.cells #[.int .i64 id] 3)) := (hb1.alloc hb1.size _).alloc (by simp; omega) _
  have s2 : ((w1.alloc (.cells #[.pointer (some ⟨x, 0, none⟩)] 46)).alloc (.cells #[.int .i64 id] 3)).heap.size = w.heap.size + 4 := by simp; omega
  try simp only [World.size_alloc]
  obtain ⟨W0, hW0⟩ : ∃ W0, (w1.alloc (.cells #[.pointer (some ⟨x, 0, none⟩)] 46)).alloc (.cells #[.int .i64 id] 3) = W0 := ⟨_, rfl⟩
  rw [hW0] at a0 a1 b1 b2 hb2 s2 ⊢
  rw [s1] at b1 b2
  clear hW0 hb1 s1
  clear w1
  have hlt := fun k hk => H.bound k hk
  have hH0 := H.below hb2
  refine rangeFunc_V rfl (by omega) (gf := 105) (lb := #[.pointer (some ⟨w.heap.size + 2, 0, none⟩), .pointer (some ⟨w.heap.size + 2 + 1, 0, none⟩)]) rfl trivial (enters_of Try.func105 (by kernel_rfl) rfl)
    (up1_seq x (w.heap.size + 2) (w.heap.size + 2 + 1) id T F (fun k => k = w.heap.size + 1 ∨ w.heap.size + 4 ≤ k) W0 hH0 hOk b1 b2 (by omega) (fun hf => by have := hlt _ hf; omega)
      (fun k hk e => by have := hlt k hk; omega) (by omega) (by omega) _ (by omega))
    (fun X Y k o hc hk hx ho _ => (hc.block k (Array.getElem?_eq_some_iff.1 hx).1 (by omega)).trans hx)
    (fun h1 h2 => h1.trans h2 (fun _ _ h => h) (fun _ _ h => h)) (fun W l o o' hl _ _ => chg_put o' hl (fun k hk => by omega)) (fun _ => rfl)
    (fun pre W => ∃ b : Bool, Boxed W (w.heap.size + 1) 4 (.bool b) ∧ Boxed W w.heap.size 46 (.pointer (some ⟨x, 0, none⟩)) ∧ Below w.heap.size w W ∧ TabIs W x T F ∧ (TT.ids pre).all (fun k => (T.at k).f1 != 3) = true)
    (fun c pre W => c = .ret ∧ Boxed W (w.heap.size + 1) 4 (.bool false) ∧ Below w.heap.size w W ∧ (TT.ids pre).all (fun k => (T.at k).f1 != 3) = false)
    (fun s X Y row hs hg hr => by
      obtain ⟨b, h1, h2, h3, h4, h5⟩ := hs
      exact ⟨b, h1.kept hg (fun e => by have := (hr _ e.symm).1; omega), h2.kept hg (fun e => by have := (hr _ e.symm).1; omega), h3.grown hg h3.size (fun k e => by have := (hr k e).1; omega), h4.chg (Chg.of_grown hg) (fun k hk e => by have := (hr k e.symm).1; have := hlt k hk; omega), h5⟩)
    (fun c s X Y row hs hg hr => by
      obtain ⟨h0, h1, h3, h5⟩ := hs
      exact ⟨h0, h1.kept hg (fun e => by have := (hr _ e.symm).1; omega), h3.grown hg h3.size (fun k e => by have := (hr k e).1; omega), h5⟩)
    (fun s X Y hs hc => by
      obtain ⟨b, h1, h2, h3, h4, h5⟩ := hs
      exact ⟨b, hc.obj h1 (by omega), hc.obj h2 (by omega), h3.trans (hc.below h3.size (fun k e => by omega)), h4.chg hc (fun k hk e => by have := hlt k hk; omega), h5⟩)
    (fun c s X Y hs hc => by
      obtain ⟨h0, h1, h3, h5⟩ := hs
      exact ⟨h0, hc.obj h1 (by omega), h3.trans (hc.below h3.size (fun k e => by omega)), h5⟩)
    ⟨false, a1, a0, hb2, hH0, rfl⟩
    (fun (a : T.Id) a' W => a' = { tmps := #[.pointer (some ⟨x, 0, none⟩), .int .i64 id, .pointer (some ⟨w.heap.size, 0, none⟩), undef, .pointer (some ⟨w.heap.size + 1, 0, none⟩), .int .i64 a.1, .pointer (some ⟨x, 0, none⟩), .int .i64 id, .func (.func 105) #[] #[.pointer (some ⟨w.heap.size + 2, 0, none⟩), .pointer (some ⟨w.heap.size + 2 + 1, 0, none⟩)], .int .i64 a.1, undef, undef, undef, undef, undef, undef, undef, undef, undef, undef], defers := [] })
    (fun a a' _ X Y row hs hg hr => hs)
    ?assign ?body ?done ?stop
  case assign =>
    rintro l pre a W K hi hK
    gi_wp2
    exact hK _ _ (KeepsFrom.refl _ _) (Chg.refl _ _) hi rfl
  case body =>
    rintro l pre ⟨a, ha⟩ a' W hl ⟨r, hr⟩ ⟨b, h1, h2, h3, h4, h5⟩ rfl hlen
    have ha1 := (T.is_iff a).1 ha
    obtain ⟨i, rfl⟩ : ∃ i : Nat, a = (i : Int) + 1 := ⟨(a - 1).toNat, by omega⟩
    have hli : i < T.all.length := by omega
    have c1 := h1.cell
    have f1 := h1.frozen
    have c2 := h2.cell
    obtain ⟨v, h6⟩ := h4
    obtain ⟨g, cap, cur, rfl, n1, n2, hgF, hgx, hg, hsz, y0, y1, y2⟩ := h6.one hli
    have hat := xat_calls x g T.all.length cap W (blk_cell h6.blk 0) i hli (by unfold maxLen at n2; omega)
    have q1 := (blk_cell hg (i * 3 + 1)).trans y1
    have hpn : T.at ((i : Int) + 1) = T.all[i] := T.at_nat hli
    have HP := Aside0.mk (show (TT.ids (pre ++ [⟨(i : Int) + 1, ha⟩])).all (fun k => (T.at k).f1 != 3) = (T.all[i].f1 != 3) from by rw [TT.ids_more, List.all_append, h5, ← hpn]; simp)
    have H4 := Aside0.mk (show TabIs W x T F from ⟨_, h6⟩)
    generalize T.all[i].f1 = st at q1 HP
    replace h1 := Aside0.mk h1
    replace h2 := Aside0.mk h2
    replace h3 := Aside0.mk h3
    clear h5 h6 y0 y1 y2 hg n1 n2 hsz hpn ha1 hr
    have hn1 : 1 ≤ 6 - 1 - 1 := by omega
    by_cases hst : st = 3
    · have d1 : (st == 3) = true := beq_iff_eq.2 hst
      clear hst
      gi_wp2_with (refine ⟨trivial, ?_⟩; gi_at_call 63; refine (CallsIn.inRound l (callsIn_wide.2 hat)).mono ?_; clear hat; rintro e w' ⟨rfl, hw⟩; obtain rfl := hw.symm)
      exact ⟨(KeepsOthers.setCell _ _ _).from _, rfl, h1.out.set _, h3.out.setCell (p := ⟨w.heap.size + 1, 0, none⟩) (by simp) _, by rw [HP.out, bne, d1]; rfl⟩
    · have d1 : (st == 3) = false := beq_eq_false_iff_ne.2 hst
      clear hst
      gi_wp2_with (refine ⟨trivial, ?_⟩; gi_at_call 63; refine (CallsIn.inRound l (callsIn_wide.2 hat)).mono ?_; clear hat; rintro e w' ⟨rfl, hw⟩; obtain rfl := hw.symm)
      exact ⟨KeepsFrom.refl _ _, Chg.refl _ _, ⟨b, h1.out, h2.out, h3.out, H4.out, by rw [HP.out, bne, d1]; rfl⟩⟩
  case done =>
    rintro D xs W hD hxs ⟨b, h1, h2, h3, h4, h5⟩ hK
    rw [hxs] at h5
    have c1 := h1.cell
    have f1 := h1.frozen
    have c2 := h2.cell
    have his := xis_calls x T F W h4 id
    have hcn : T.counts id = T.is id := by
      unfold TT.counts
      rw [h5, Bool.and_true]
    gi_wp2_with (refine ⟨trivial, ?_⟩; gi_at_call 62; refine (callsIn_wide.2 his).mono ?_; clear his; rintro e w' ⟨rfl, hw⟩; obtain rfl := hw.symm)
    have hK2 := (KeepsOthers.setCell W ⟨w.heap.size + 1, 0, none⟩ (.bool (T.is id))).same D _ hK rfl
    refine ⟨by simp, .inl ⟨_, _, rfl, run_takeDeferred hK2, ?_⟩⟩
    have hB2 := h3.setCell (p := ⟨w.heap.size + 1, 0, none⟩) (by simp) (.bool (T.is id))
    refine ⟨_, results_box rfl _ _ rfl (((h1.set (.bool (T.is id))).kept (grownBy_putObj' _ D (.deferred none)) (fun e => by injection e; omega)).cell), by rw [hcn], ?_⟩
    exact hB2.trans (belowK_b (w := w) (Nat.le_refl _) _ D _ _ (by omega) hK2 rfl rfl)
  case stop =>
    rintro D c pre W hD hpre ⟨rfl, h1, h3, h5⟩ hK
    have c1 := h1.cell
    have f1 := h1.frozen
    have hcn : T.counts id = false := by
      obtain ⟨r, hr⟩ := hpre
      unfold TT.counts
      rw [← hr, List.all_append, h5]
      simp
    gi_wp2
    refine ⟨by simp, .inl ⟨_, _, rfl, run_takeDeferred hK, ?_⟩⟩
    refine ⟨_, results_box rfl _ _ rfl ((h1.kept (grownBy_putObj' _ D (.deferred none)) (fun e => by injection e; omega)).cell), by rw [hcn], ?_⟩
    exact h3.trans (belowK_b (w := w) (Nat.le_refl _) W D _ _ (by omega) hK rfl rfl)
end Go.Proofs.Ytljahhgankcalaa

/-! (*Table).Number, Begin; snap's done, Now. -/
namespace Go.Proofs.Ytljahhgankcalaa
open Go.RowKit Go.Maps Go.MapKept Go.WideMaps Go.Shelf
open Go.Proofs.YtljahhgankcalaaW.PrintWords Go.Proofs.YtljahhgankcalaaW.PrintLast Go.Proofs.YtljahhgankcalaaW.PrintMore
set_option linter.unusedVariables false
set_option linter.unusedSimpArgs false

theorem TT.Ok.top_is {T : TT} (h : T.Ok) {id : Int} (e : T.is id = true) : T.is (T.top id) = true := by
  have hm : T.top id ∈ T.up id := by
    unfold TT.top
    rw [h.up_yes e, List.getLastD_cons]
    cases hl : T.up (T.at id).f0 with
    | nil => simp
    | cons a l =>
      rw [List.getLastD_eq_getLast?, List.getLast?_eq_some_getLast (by simp)]
      simp only [Option.getD_some]
      exact List.mem_cons_of_mem _ (List.getLast_mem _)
  exact h.up_is _ _ _ hm
theorem TT.counts_is {T : TT} {id : Int} (h : T.counts id = true) : T.is id = true := by
  unfold TT.counts at h
  rw [Bool.and_eq_true] at h
  exact h.1

set_option maxRecDepth 100000 in
theorem number_calls (x : Nat) (T : TT) (F : Nat → Prop) (w : World) (H : TabIs w x T F) (hOk : T.Ok) (id : Int) :
    Calls Try.prog 67 #[.pointer (some ⟨x, 0, none⟩), .int .i64 id] w fun e w' => e = .returned (.int .i64 (T.number id)) ∧ Below w.heap.size w w' := by
  have hcn := counts_calls x T F w H hOk id
  cases hb : T.counts id with
  | false =>
    rw [hb] at hcn
    have hn : T.number id = 0 := by simp [TT.number, hb]
    rw [hn]
    clear hb hn
    go_enter Try.func67, Try.ntmps67
    go_wp2_with (go_at_call 65; refine hcn.mono ?_; clear hcn; rintro e w' ⟨rfl, b1⟩)
    go_ret
    exact ⟨rfl, b1⟩
  | true =>
    rw [hb] at hcn
    have hn : T.number id = (T.at (T.top id)).f2 := by simp [TT.number, hb]
    rw [hn]
    have hti := hOk.top_is (TT.counts_is hb)
    have h1 := (T.is_iff _).1 hti
    obtain ⟨i, hi⟩ : ∃ i : Nat, T.top id = (i : Int) + 1 := ⟨(T.top id - 1).toNat, by omega⟩
    have hl : i < T.all.length := by omega
    have htop : ∀ W, TabIs W x T F → _ := fun W hW => top_calls x T F W hW hOk id
    rw [hi, T.at_nat hl]
    have hi' := Aside0.mk hi
    have HH := Aside0.mk H
    clear hb hn hti h1 H hi
    go_enter Try.func67, Try.ntmps67
    go_wp2_with fail
    refine hcn.mono ?_
    clear hcn
    rintro e w1 ⟨rfl, b1⟩
    have HT1 := HH.out.below b1
    have htop1 := htop w1 HT1
    rw [hi'.out] at htop1
    replace HT1 := Aside0.mk HT1
    replace b1 := Aside0.mk b1
    clear htop
    go_wp2_with fail
    refine htop1.mono ?_
    clear htop1
    rintro e w2 ⟨rfl, b2⟩
    obtain ⟨v, HT2⟩ := HT1.out.below b2
    obtain ⟨g, cap, cur, rfl, n1, n2, hgF, hgx, hg, hsz, y0, y1, y2⟩ := HT2.one hl
    have hat := xat_calls x g T.all.length cap w2 (blk_cell HT2.blk 0) i hl (by unfold maxLen at n2; omega)
    have q2 := (blk_cell hg (i * 3 + 2)).trans y2
    have HB := Aside0.mk (b1.out.trans (b2.mono b1.out.size))
    clear HT2 y0 y1 y2 hg n1 n2 hsz b2
    go_wp2_with (go_at_call 63; refine hat.mono ?_; clear hat; rintro e w' ⟨rfl, hw⟩; obtain rfl := hw.symm)
    go_ret
    exact ⟨rfl, HB.out⟩

/-! ### one more -/
def TT.begin (T : TT) (p : Int) : Int × Int × TT :=
  if p = 0 ∨ (T.is p = true ∧ (T.at p).f1 = 1) then (T.all.length + 1, 0, { T with all := T.all ++ [⟨p, 1, 0⟩] })
  else if T.is p = true then (0, 7, T) else (0, 5, T)
theorem TT.Ok.begin {T : TT} (h : T.Ok) (p : Int) : (T.begin p).2.2.Ok := by
  unfold TT.begin
  split
  · rename_i hp
    have h0 : 0 ≤ p ∧ p ≤ (T.all.length : Int) := by
      rcases hp with rfl | hp
      · omega
      · have := (T.is_iff p).1 hp.1
        omega
    refine ⟨fun i hi => ?_, h.last0⟩
    · by_cases hl : i < T.all.length
      · rw [List.getElem_append_left hl]
        exact h.par i hl
      · have : i = T.all.length := by simp at hi; omega
        subst this
        simp
        exact h0
  · split <;> exact h

theorem Try.infoOne : (Try.prog.info? 115).map (fun i => (i.zero, i.size, i.bytes)) = some (some (.agg #[.int .i64 0, .int .u8 0, .int .i64 0]), 3, 24) := by kernel_rfl
theorem TabAt.blk_all {w w1 : World} {x : Nat} {T : TT} {F : Nat → Prop} {v : Value} (H : TabAt w x T F v) (hc : Chg w w1 (fun k => some k = v.ownBlock)) : w1.heap[x]? = some (.cells #[v, .int .i64 T.last] 113 (0, 0)) :=
  hc.obj H.blk (fun e => (R_block H.all e.symm).1.2 rfl)

set_option maxRecDepth 100000 in
set_option maxHeartbeats 1000000 in
theorem begin_new (x : Nat) (T : TT) (F : Nat → Prop) (w : World) (H : TabIs w x T F) (hOk : T.Ok) (hl : T.all.length < 2147483648) (p : Int) (hp : p = 0 ∨ (T.is p = true ∧ (T.at p).f1 = 1)) :
    Calls Try.prog 23 #[.pointer (some ⟨x, 0, none⟩), .int .i64 p] w fun e w' => e = .returned (.tuple #[.int .i64 (T.all.length + 1), .int .i64 0]) ∧ TabIs w' x { T with all := T.all ++ [⟨p, 1, 0⟩] } (ext F w w') ∧ Chg w w' F := by
  have his := xis_calls x T F w H p
  obtain ⟨v, H⟩ := H
  obtain ⟨a, c, rfl, _⟩ := H.slice
  have c0 := blk_cell H.blk 0
  have z0 := blk_frozen H.blk 0
  simp at c0
  have hx := H.bound x H.hF
  have HH := Aside0.mk H
  have HL := Aside0.mk hl
  have fin : ∀ (a1 : Option Addr) (c1 : Nat) (w1 : World), Chg w w1 (fun k => some k = (Value.slice a T.all.length c).ownBlock) → Kd.R kOne 115 w1 0 (fun k => (F k ∨ w.heap.size ≤ k) ∧ k ≠ x) (.slice a1 (T.all.length + 1) c1) (T.all ++ [⟨p, 1, 0⟩]) → w1.heap[x]? = some (.cells #[.slice a T.all.length c, .int .i64 T.last] 113 (0, 0)) →
      TabIs (w1.setCell ⟨x, 0, none⟩ (.slice a1 (T.all.length + 1) c1)) x { T with all := T.all ++ [⟨p, 1, 0⟩] } (ext F w (w1.setCell ⟨x, 0, none⟩ (.slice a1 (T.all.length + 1) c1))) ∧ Chg w (w1.setCell ⟨x, 0, none⟩ (.slice a1 (T.all.length + 1) c1)) F := fun a1 c1 w1 hch ho hb => by
    have hset : Chg w1 (w1.setCell ⟨x, 0, none⟩ (.slice a1 (T.all.length + 1) c1)) (fun k => k = x) := (Chg.refl w1 (fun k => k = x)).setCell (p := ⟨x, 0, none⟩) (.inl rfl) _
    have hsz := hch.size
    have hs2 := hset.size
    refine ⟨⟨_, blk_put hb 0 _ rfl, ?_, .inl HH.out.hF, ?_⟩, ?_⟩
    · refine Kd.R_mono (Kd.R_far (Kd.R_bound ho) (p := ⟨x, 0, none⟩) (fun k hk => hk.1.2) _) (fun k hk => ⟨?_, hk.1.2⟩)
      rcases hk.1.1 with h | h
      · exact .inl h
      · exact .inr ⟨h, by have := hk.2.2.1; omega⟩
    · intro k hk
      rcases hk with hk | hk
      · have := HH.out.bound k hk
        omega
      · exact hk.2
    · exact hch.trans hset (fun k _ hk => (R_block HH.out.all (Eq.symm hk)).1.1) (fun k _ hk => by have e : k = x := hk; rw [e]; exact HH.out.hF)
  replace fin := Aside0.mk fin
  by_cases h0 : p = 0
  · subst h0
    clear H hl hp his
    go_enter Try.func23, Try.ntmps23
    go_wp2_with (at_builtin; go_loud (refine Kd.R_append kOne (w0 := w) 0 rfl (.tmp 34) (.tmp 37) 111 115 (.agg #[.int .i64 0, .int .u8 0, .int .i64 0]) 24 rfl Try.underlying111 Try.infoOne rfl (by decide) (by omega) (.slice a T.all.length c) T.all ⟨0, 1, 0⟩ [.int .i64 0, .int .u8 1, .int .i64 0] (fun k => (F k ∨ w.heap.size ≤ k) ∧ k ≠ x) (fun _ => False) rfl rfl (PSightDead.k115_mkM _ 0 _ ⟨0, 1, 0⟩) (fun _ h => h.elim) (fun k hk => ⟨.inr hk, by omega⟩) (Kd.R_mono HH.out.all (fun k hk => ⟨.inl hk.1, hk.2⟩)) (Below.refl 0 w) (Nat.zero_le _) (by have := HL.out; omega) ?_); intro v1 w1 ho hb hg hat; clear hb hat; have hch := Chg.of_grown hg; clear hg; have hb1 := HH.out.blk_all hch; replace hch := Aside0.mk hch; obtain ⟨a1, c1, e1⟩ := Kd.R_slice ho; simp only [List.length_append, List.length_cons, List.length_nil, Nat.zero_add] at e1; subst e1; replace ho := Aside0.mk ho; have k0 := blk_cell hb1 0; have z1 := blk_frozen hb1 0; have hb2 := Aside0.mk hb1; clear hb1; simp at k0)
    go_ret2
    refine ⟨by simp, ?_⟩
    exact fin.out a1 c1 w1 hch.out ho.out hb2.out
  · obtain ⟨h1, h2⟩ : T.is p = true ∧ (T.at p).f1 = 1 := by
      rcases hp with hp | hp
      · exact absurd hp h0
      · exact hp
    have hi := (T.is_iff p).1 h1
    rw [h1] at his
    obtain ⟨i, rfl⟩ : ∃ i : Nat, p = (i : Int) + 1 := ⟨(p - 1).toNat, by omega⟩
    have hli : i < T.all.length := by omega
    rw [T.at_nat hli] at h2
    obtain ⟨g, cap, cur, hsv, n1, n2, hgF, hgx, hg, hsz, y0, y1, y2⟩ := H.one hli
    injection hsv with hsv1 _ hsv2
    subst hsv1
    subst hsv2
    have hat := xat_calls x g T.all.length c w c0 i hli (by unfold maxLen at n2; omega)
    have q1 := (blk_cell hg (i * 3 + 1)).trans y1
    rw [h2] at q1
    have hp0 : ((i : Int) + 1 == 0) = false := beq_eq_false_iff_ne.2 h0
    clear H hl hp h1 h2 hi y0 y1 y2 hg n1 n2 hsz h0
    go_enter Try.func23, Try.ntmps23
    go_wp2_with (first | (go_at_call 62; refine his.mono ?_; clear his; rintro e w' ⟨rfl, hw⟩; obtain rfl := hw.symm) | (go_at_call 63; refine hat.mono ?_; clear hat; rintro e w' ⟨rfl, hw⟩; obtain rfl := hw.symm) | (at_builtin; go_loud (refine Kd.R_append kOne (w0 := w) 0 rfl (.tmp 34) (.tmp 37) 111 115 (.agg #[.int .i64 0, .int .u8 0, .int .i64 0]) 24 rfl Try.underlying111 Try.infoOne rfl (by decide) (by omega) (.slice (some ⟨g, 0, none⟩) T.all.length c) T.all ⟨((i : Int) + 1), 1, 0⟩ [.int .i64 ((i : Int) + 1), .int .u8 1, .int .i64 0] (fun k => (F k ∨ w.heap.size ≤ k) ∧ k ≠ x) (fun _ => False) rfl rfl (PSightDead.k115_mkM _ 0 _ ⟨((i : Int) + 1), 1, 0⟩) (fun _ h => h.elim) (fun k hk => ⟨.inr hk, by omega⟩) (Kd.R_mono HH.out.all (fun k hk => ⟨.inl hk.1, hk.2⟩)) (Below.refl 0 w) (Nat.zero_le _) (by have := HL.out; omega) ?_); intro v1 w1 ho hb hg hat; clear hb hat; have hch := Chg.of_grown hg; clear hg; have hb1 := HH.out.blk_all hch; replace hch := Aside0.mk hch; obtain ⟨a1, c1, e1⟩ := Kd.R_slice ho; simp only [List.length_append, List.length_cons, List.length_nil, Nat.zero_add] at e1; subst e1; replace ho := Aside0.mk ho; have k0 := blk_cell hb1 0; have z1 := blk_frozen hb1 0; have hb2 := Aside0.mk hb1; clear hb1; simp at k0))
    go_ret2
    refine ⟨by simp, ?_⟩
    exact fin.out a1 c1 w1 hch.out ho.out hb2.out

set_option maxRecDepth 100000 in
theorem begin_no (x : Nat) (T : TT) (F : Nat → Prop) (w : World) (H : TabIs w x T F) (p : Int) (hp : ¬ (p = 0 ∨ (T.is p = true ∧ (T.at p).f1 = 1))) :
    Calls Try.prog 23 #[.pointer (some ⟨x, 0, none⟩), .int .i64 p] w fun e w' => e = .returned (.tuple #[.int .i64 0, .int .i64 (if T.is p = true then 7 else 5)]) ∧ w' = w := by
  have his := xis_calls x T F w H p
  have hp0 : ¬ p = 0 := fun e => hp (.inl e)
  cases hi : T.is p with
  | false =>
    rw [hi] at his
    clear H hp hi
    go_enter Try.func23, Try.ntmps23
    go_wp2_with (go_at_call 62; refine his.mono ?_; clear his; rintro e w' ⟨rfl, hw⟩; obtain rfl := hw.symm)
    go_ret2
    exact ⟨rfl, rfl⟩
  | true =>
    rw [hi] at his
    have h1 := (T.is_iff p).1 hi
    have h2 : (T.at p).f1 ≠ 1 := fun e => hp (.inr ⟨hi, e⟩)
    obtain ⟨i, rfl⟩ : ∃ i : Nat, p = (i : Int) + 1 := ⟨(p - 1).toNat, by omega⟩
    have hli : i < T.all.length := by omega
    rw [T.at_nat hli] at h2
    obtain ⟨v, H⟩ := H
    obtain ⟨g, cap, cur, hsv, n1, n2, hgF, hgx, hg, hsz, y0, y1, y2⟩ := H.one hli
    subst hsv
    have c0 := blk_cell H.blk 0
    have hat := xat_calls x g T.all.length cap w c0 i hli (by unfold maxLen at n2; omega)
    have q1 := (blk_cell hg (i * 3 + 1)).trans y1
    generalize T.all[i].f1 = st at q1 h2
    have hpb : ((i : Int) + 1 == 0) = false := beq_eq_false_iff_ne.2 hp0
    have d1 : (st == 1) = false := beq_eq_false_iff_ne.2 h2
    have d2 : (st != 1) = true := by rw [bne, d1]; rfl
    have d3 : ((i : Int) + 1 != 0) = true := by rw [bne, hpb]; rfl
    clear hp0 h2
    clear H hp hi h1 y0 y1 y2 hg n1 n2 hsz
    go_enter Try.func23, Try.ntmps23
    go_wp2_with (first | (go_at_call 62; refine his.mono ?_; clear his; rintro e w' ⟨rfl, hw⟩; obtain rfl := hw.symm) | (go_at_call 63; refine hat.mono ?_; clear hat; rintro e w' ⟨rfl, hw⟩; obtain rfl := hw.symm))
    go_ret2
    exact ⟨rfl, rfl⟩

theorem begin_calls (x : Nat) (T : TT) (F : Nat → Prop) (w : World) (H : TabIs w x T F) (hOk : T.Ok) (hl : T.all.length < 2147483648) (p : Int) :
    Calls Try.prog 23 #[.pointer (some ⟨x, 0, none⟩), .int .i64 p] w fun e w' => e = .returned (.tuple #[.int .i64 (T.begin p).1, .int .i64 (T.begin p).2.1]) ∧ TabIs w' x (T.begin p).2.2 (ext F w w') ∧ Chg w w' F := by
  by_cases hp : p = 0 ∨ (T.is p = true ∧ (T.at p).f1 = 1)
  · have := begin_new x T F w H hOk hl p hp
    unfold TT.begin
    rw [if_pos hp]
    exact this
  · refine (begin_no x T F w H p hp).mono ?_
    rintro e w' ⟨rfl, rfl⟩
    have h1 : TabIs w' x T (ext F w' w') := H.mono (fun k hk => .inl hk) (fun k hk => by
      rcases hk with hk | hk
      · exact H.bound k hk
      · exact hk.2)
    unfold TT.begin
    rw [if_neg hp]
    split
    · exact ⟨rfl, h1, Chg.refl _ _⟩
    · exact ⟨rfl, h1, Chg.refl _ _⟩

/-! ### snap -/
theorem now_calls (x : Nat) (T : TT) (F : Nat → Prop) (w : World) (H : TabIs w x T F) (me : Int) :
    Calls Try.prog 22 #[.pointer (some ⟨x, 0, none⟩), .int .i64 me] w fun e w' => e = .returned (.agg #[.int .i64 T.last, .int .i64 me]) ∧ Below w.heap.size w w' := by
  have hla := fun W hW => xlast_calls x T F W hW
  have H1 := H.below ((Below.refl _ w).alloc (Nat.le_refl _) (.cells #[.int .i64 0, .int .i64 0] 52))
  have hl1 := hla _ H1
  clear hla H1 H
  go_enter Try.func22, Try.ntmps22
  go_wp2_with (go_at_call 61; refine hl1.mono ?_; clear hl1; rintro e w' ⟨rfl, hw⟩; obtain rfl := hw.symm)
  refine bodyPost_ret (results_cell_row rfl _ _ w.heap.size 52 _ (0, 0) _ rfl (blk_new w _) Try.underlying52 rfl (by kernel_rfl)) rfl ?_
  exact ⟨rfl, (Below.refl _ w).alloc (Nat.le_refl _) _⟩
end Go.Proofs.Ytljahhgankcalaa

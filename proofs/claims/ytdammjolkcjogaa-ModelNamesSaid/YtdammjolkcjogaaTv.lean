import Derived.Test.YtdammjolkcjogaaRw
import Derived.RangeFuncNested
/-! A range over a function whose iterator has cells of its own: the rounds' law with a word 'Ab' for the iterator's own steps. -/
namespace Go.Proofs.Ytdammjolkcjogaa
open Go Go.RowKit
variable {F : Fence} {n : Nat} {P : Program}

/-- What an iterator does: 'Ab' are its own steps; 'Kp' is what a round that goes on keeps for it. -/
def SeqV {α : Type} (F : Fence) (n : Nat) (P : Program) (g : Nat) (lb : Array Value) (encs : α → Array Value) (Ab Kp : World → World → Prop) (S Sp : List α → Prop) (N : Nat) (w : World) : Prop :=
  ∀ (l : Nat) (J Jx : List α → World → Prop) (W : World), Below w.heap.size w W → (∀ s X Y, J s X → Ab X Y → J s Y) → (∀ s X Y, Jx s X → Ab X Y → Jx s Y) →
    (∀ pre x W1, J pre W1 → pre.length < N → YieldAt F (n - 1) P l (encs x) W1 fun e W' =>
      (e = .returned (.bool true) ∧ J (pre ++ [x]) W' ∧ Kp W1 W') ∨ (e = .returned (.bool false) ∧ Jx (pre ++ [x]) W')) →
    J [] W →
    CallsIn F n P g (#[.func (.yield l) #[] #[]] ++ lb) W fun e W' => (∃ v, e = .returned v) ∧ ((∃ xs, S xs ∧ J xs W') ∨ (∃ pre, Sp pre ∧ Jx pre W'))

theorem rangeFunc_V {α : Type} {g : Operand} {ps : Array Tmp} {assign body : Code} {Q : Exit → Act → World → Prop} {a : Act} {w : World}
    (hro : F.round = none) (h1 : 1 ≤ n) {gf : Nat} {lb : Array Value} (hg : a.eval g = .func (.func gf) #[] lb) (hFg : F.fn gf) (eg : ∀ args w, (callFunc gf args).run P w = .ok (.enter gf args) w)
    {encs : α → Array Value} {Ab Kp : World → World → Prop} {S Sp : List α → Prop} {N : Nat} (hseq : SeqV F (n - 1) P gf lb encs Ab Kp S Sp N w)
    (hAb : ∀ X Y k o, Ab X Y → w.heap.size ≤ k → X.heap[k]? = some o → o.isCells = false → o.isWalk = false → Y.heap[k]? = some o)
    (hKt : ∀ {X Y Z : World}, Kp X Y → Kp Y Z → Kp X Z) (hKb : ∀ (W : World) (l : Nat) (o o' : Obj), w.heap.size ≤ l → W.heap[l]? = some o → (∃ r, o = .loop r) → Kp W (W.putObj l o')) (hps : ∀ x, (encs x).size = ps.size)
    (I : List α → World → Prop) (Ix : Code → List α → World → Prop) (hI : OwnFrom w.heap.size I) (hIx : ∀ c, OwnFrom w.heap.size (Ix c))
    (hIA : ∀ s X Y, I s X → Ab X Y → I s Y) (hIxA : ∀ c s X Y, Ix c s X → Ab X Y → Ix c s Y) (h0 : I [] w) (Ax : α → Act → World → Prop) (hAx : ∀ x a', OwnFrom w.heap.size (fun (_ : Unit) W => Ax x a' W))
    (hassign : ∀ (l : Nat) (pre : List α) (x : α) (W : World) (K : Act → World → Prop), I pre W → (∀ a' W', KeepsFrom w.heap.size W W' → Kp W W' → I pre W' → Ax x a' W' → K a' W') →
      assign.wpIn (F.inRound l) (n - 1 - 1) P (Exit.then K (fun _ _ _ => False)) { tmps := (ps.zip (encs x)).foldl (fun t (p, v) => t.setIfInBounds p v) a.tmps, defers := [] } W)
    (hbody : ∀ (l : Nat) (pre : List α) (x : α) (a' : Act) (W : World), w.heap.size ≤ l → (∃ r, W.heap[l]? = some (.loop r)) → I pre W → Ax x a' W → pre.length < N → body.wpIn (F.inRound l) (n - 1 - 1) P (ownPostG w.heap.size Kp I Ix (pre ++ [x]) W) a' W)
    (hdone : ∀ (D : Nat) (xs : List α) (W : World), w.heap.size ≤ D → S xs → I xs W → W.heap[D]? = some (.deferred (some [])) → Q .normal { a with defers := { target := .collected D, args := #[] } :: a.defers } W)
    (hstop : ∀ (D : Nat) (c : Code) (pre : List α) (W : World), w.heap.size ≤ D → Sp pre → Ix c pre W → W.heap[D]? = some (.deferred (some [])) → c.wpIn F n P Q { a with defers := { target := .collected D, args := #[] } :: a.defers } W) :
    (Code.rangeFunc g ps assign body).wpIn F n P Q a w := by
  refine wpIn_rangeFunc ?_
  intro fn hfn
  rw [hro]
  let rec' : LoopState → Option Code → Loop := fun st pe => { state := st, pending := pe, fn, tmps := a.tmps, params := ps, assign, body, defers := w.heap.size }
  obtain ⟨rec, hrec⟩ : ∃ rec, rec = rec' := ⟨_, rfl⟩
  obtain ⟨W1, hW1⟩ : ∃ W1, (w.alloc (.deferred (some []))).alloc (.loop (rec .ready none)) = W1 := ⟨_, rfl⟩
  have hL1 : W1.heap[w.heap.size + 1]? = some (.loop (rec .ready none)) := by
    rw [← hW1]
    have := World.alloc_heap_new (w.alloc (.deferred (some []))) (.loop (rec .ready none))
    rwa [World.size_alloc] at this
  have hD1 : W1.heap[w.heap.size]? = some (.deferred (some [])) := by
    rw [← hW1]
    exact (Below.heap_alloc _ _ _ (by simp)).trans (World.alloc_heap_new w _)
  have hI1 : I [] W1 := by
    rw [← hW1]
    exact hI.alloc _ (hI.alloc _ h0)
  have hb1 : Below w.heap.size w W1 := by
    rw [← hW1]
    exact ((Below.refl _ w).alloc (Nat.le_refl _) _).alloc (by simp) _
  -- the record and the block for deferred calls lie as they are told
  let Bk : LoopState → Option Code → World → Prop := fun st pe W => W.heap[w.heap.size + 1]? = some (.loop (rec st pe)) ∧ W.heap[w.heap.size]? = some (.deferred (some []))
  refine ⟨w.heap.size + 1, [{ target := .collected w.heap.size, args := #[] }], W1, { target := .fn (.func gf) lb, args := #[.func (.yield (w.heap.size + 1)) #[] #[]] }, W1, gf,
    #[.func (.yield (w.heap.size + 1)) #[] #[]] ++ lb, W1, ?_, ?_, ?_, ?_, fun _ => h1, ?_⟩
  · rw [← hW1, hrec]
    exact run_enterLoop_outer _ _ _ _ _
  · simp only [resolve, hg]
    simp [go_sem]
  · intro f' hf'
    simp [Target.leads] at hf'
    subst hf'
    exact hFg
  · simp [invoke, go_sem, eg]
  · refine (hseq (w.heap.size + 1) (fun pre W => I pre W ∧ Bk .ready none W) (fun pre W => ∃ c, Ix c pre W ∧ Bk .done (some c) W) W1 hb1
      (fun s X Y hs ha => ⟨hIA s X Y hs.1 ha, hAb X Y _ _ ha (by omega) hs.2.1 rfl rfl, hAb X Y _ _ ha (Nat.le_refl _) hs.2.2 rfl rfl⟩)
      (fun s X Y hs ha => by
        obtain ⟨c, hc, hl, hk⟩ := hs
        exact ⟨c, hIxA c s X Y hc ha, hAb X Y _ _ ha (by omega) hl rfl rfl, hAb X Y _ _ ha (Nat.le_refl _) hk rfl rfl⟩)
      ?_ ⟨hI1, hL1, hD1⟩).mono ?_
    · -- one round
      rintro pre x W ⟨hi, hl, hk⟩ hlen
      have hy := run_yield (P := P) (args := encs x) hl (by rw [hrec]; exact hps x)
      rw [hrec] at hy
      refine ⟨fn, _, assign, body, hy, roundIn_of_wpIn hfn (hassign _ pre x W _ hi ?_)⟩
      clear hy
      intro a' V hkf hkp hiV hax
      have hlV := hkf.same _ _ (by omega) hl rfl
      have hkV := hkf.same _ _ (Nat.le_refl _) hk rfl
      have hlt : w.heap.size + 1 < V.heap.size := (Array.getElem?_eq_some_iff.1 hlV).1
      refine ⟨_, run_beginRound hlV (by rw [hrec]), ?_⟩
      obtain ⟨V2, hV2⟩ : ∃ V2, V.putObj (w.heap.size + 1) (.loop { rec .ready none with state := .busy }) = V2 := ⟨_, rfl⟩
      have hl2 : V2.heap[w.heap.size + 1]? = some (.loop { rec .ready none with state := .busy }) := by rw [← hV2]; exact World.putObj_heap_same hlt
      have hk2 : V2.heap[w.heap.size]? = some (.deferred (some [])) := by rw [← hV2]; exact (World.putObj_heap_other (by omega)).trans hkV
      have hw2 : Kp W V2 := by rw [← hV2]; exact hKt hkp (hKb _ _ _ _ (by omega) hlV ⟨_, rfl⟩)
      have hi2 : I pre V2 := by rw [← hV2]; exact hI.putObj _ hiV (by omega) hlV rfl
      have ha2 : Ax x a' V2 := by rw [← hV2]; exact (hAx x a').putObj (s := ()) _ hax (by omega) hlV rfl
      rw [hV2]
      refine wpIn_mono (hbody _ pre x a' V2 (by omega) ⟨_, hl2⟩ hi2 ha2 hlen) ?_
      have fin : ∀ (jump : Option Code) (Z : World), KeepsFrom w.heap.size V2 Z → ∃ Z', Z' = Z.putObj (w.heap.size + 1) (.loop (rec (if jump.isNone then .ready else .done) jump)) ∧
          (Instr.endRound (w.heap.size + 1) jump).run P Z = .ok (.bool jump.isNone) Z' ∧ Z.heap[w.heap.size + 1]? = some (.loop { rec .ready none with state := .busy }) ∧ Bk (if jump.isNone then .ready else .done) jump Z' := fun jump Z hkz => by
        have hz := hkz.same _ _ (by omega) hl2 rfl
        have he := run_endRound (P := P) jump hz
        rw [hrec] at he hz
        refine ⟨_, rfl, by rw [hrec]; exact he, by rw [hrec]; exact hz, World.putObj_heap_same (Array.getElem?_eq_some_iff.1 hz).1, (World.putObj_heap_other (by omega)).trans (hkz.same _ _ (Nat.le_refl _) hk2 rfl)⟩
      have leave : ∀ (c : Code) (Z : World), KeepsFrom w.heap.size V2 Z ∧ Ix c (pre ++ [x]) Z → ∃ v Z', (Instr.endRound (w.heap.size + 1) (some c)).run P Z = .ok v Z' ∧
          ((Ending.returned v = .returned (.bool true) ∧ (I (pre ++ [x]) Z' ∧ Bk .ready none Z') ∧ Kp W Z') ∨ (Ending.returned v = .returned (.bool false) ∧ ∃ c, Ix c (pre ++ [x]) Z' ∧ Bk .done (some c) Z')) := fun c Z hp => by
        obtain ⟨Z', hZ, hr, hz, hb⟩ := fin (some c) Z hp.1
        refine ⟨_, _, hr, .inr ⟨rfl, c, ?_, hb⟩⟩
        rw [hZ]
        exact (hIx c).putObj _ hp.2 (by omega) hz rfl
      rintro e a3 Z hp
      cases e with
      | normal =>
        obtain ⟨hkz, hkp3, hi3⟩ := hp
        obtain ⟨Z', hZ, hr, hz, hb⟩ := fin none Z hkz
        refine ⟨_, _, hr, .inl ⟨rfl, ⟨?_, hb⟩, ?_⟩⟩
        · rw [hZ]
          exact hI.putObj _ hi3 (by omega) hz rfl
        · rw [hZ]
          exact hKt (hKt hw2 hkp3) (hKb _ _ _ _ (by omega) hz ⟨_, rfl⟩)
      | ret => exact leave .ret Z hp
      | exit id => exact leave (.exit id) Z hp
      | goto t => exact leave (.goto t) Z hp
      | panic ch => exact hp.elim
      | outgrown => exact hp.elim
    · -- behind the iterator
      rintro e Z ⟨⟨v, rfl⟩, (⟨xs, hS, hi, hl, hk⟩ | ⟨pre, hSp, c, hi, hl, hk⟩)⟩
      · exact ⟨none, _, by have := run_endLoop (P := P) hl (by rw [hrec]; simp [rec']); rw [hrec] at this; exact this, hdone _ xs _ (Nat.le_refl _) hS (hI.putObj _ hi (by omega) hl rfl) ((World.putObj_heap_other (by omega)).trans hk)⟩
      · exact ⟨some c, _, by have := run_endLoop (P := P) hl (by rw [hrec]; simp [rec']); rw [hrec] at this; exact this, hstop _ c pre _ (Nat.le_refl _) hSp ((hIx c).putObj _ hi (by omega) hl rfl) ((World.putObj_heap_other (by omega)).trans hk)⟩
end Go.Proofs.Ytdammjolkcjogaa

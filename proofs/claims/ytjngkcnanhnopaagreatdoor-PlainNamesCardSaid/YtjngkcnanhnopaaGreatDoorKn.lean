import Derived.Test.YtjngkcnanhnopaaGreatDoorKm
import Derived.RangeFuncNested
import Derived.Scope
/-! The evaluator: code. -/
namespace Go.Proofs.YtjngkcnanhnopaaGreatDoor.Ev
open Go Go.RowKit
set_option linter.unusedVariables false
set_option linter.unusedSimpArgs false

inductive Ex where
  | normal
  | exit (id : Nat)
  | goto (l : Nat)
  | ret
def Ex.to : Ex → Exit
  | .normal => .normal
  | .exit id => .exit id
  | .goto l => .goto l
  | .ret => .ret
def Ex.jump : Ex → Option Code
  | .normal => none
  | .exit id => some (.exit id)
  | .goto l => some (.goto l)
  | .ret => some .ret
def unjump : Option Code → Option Ex
  | none => some .normal
  | some (.exit id) => some (.exit id)
  | some (.goto l) => some (.goto l)
  | some .ret => some .ret
  | _ => none
abbrev Res := Option (Ex × St × List Nat)
def loopN (step : St → List Nat → Res) : Nat → St → List Nat → Res
  | 0, _, _ => none
  | k + 1, s, mk => match step s mk with
    | some (.normal, s', mk') => loopN step k s' mk'
    | some (.exit id, s', mk') => some (.exit id, s', mk')
    | some (.goto l, s', mk') => some (.goto l, s', mk')
    | some (.ret, s', mk') => some (.ret, s', mk')
    | none => none
/-- The loop's record is laid; who else's block for deferred calls. -/
def enterV (n : Nat) (ro : Option Nat) (ps : Array Tmp) (assign body : Code) (s : St) (mk : List Nat) : Option (Nat × H × List Nat) :=
  match ro with
  | none => some (s.h.nxt + 1, (s.h.new .mark).new (.loop { state := .ready, pending := none, tmps := s.tm, ntm := n, params := ps.toList, assign := assign, body := body, mark := s.h.nxt }), s.h.nxt :: mk)
  | some l => match s.h.get l with
    | some (.loop r) => some (s.h.nxt, s.h.new (.loop { state := .ready, pending := none, tmps := s.tm, ntm := n, params := ps.toList, assign := assign, body := body, mark := r.mark }), mk)
    | _ => none
def notBusy : LoopState → Bool
  | .busy => false
  | _ => true
def leaveV (h : H) (l : Nat) : Option (Ex × H) :=
  match h.getW l with
  | some (.loop r) => cond (notBusy r.state) (match unjump r.pending with
    | some ex => some (ex, h.set l (some (.loop { r with state := .exhausted })))
    | none => none) none
  | _ => none
abbrev DrawT := Array Oper → Nat → St → Option St
/-- A scope: a goto goes on behind its label. -/
def jumpN (f : Nat → St → List Nat → Res) : Nat → Res → Res
  | 0, _ => none
  | k + 1, r => match r with
    | some (.goto l, s, mk) => jumpN f k (f l s mk)
    | r => r
mutual
def evC (P : Program) (call : CallT) (draw : DrawT) (n : Nat) (ro : Option Nat) : Code → St → List Nat → Res
  | .skip, s, mk => some (.normal, s, mk)
  | .label _, s, mk => some (.normal, s, mk)
  | .region _ ops false, s, mk => (match evList P call ops n ops.toList s with
    | some s' => some (.normal, s', mk)
    | none => none)
  | .region _ ops true, s, mk => (match draw ops n s with
    | some s' => some (.normal, s', mk)
    | none => none)
  | .seq x y, s, mk => (match evC P call draw n ro x s mk with
    | some (.normal, s', mk') => evC P call draw n ro y s' mk'
    | some (.exit id, s', mk') => some (.exit id, s', mk')
    | some (.goto l, s', mk') => some (.goto l, s', mk')
    | some (.ret, s', mk') => some (.ret, s', mk')
    | none => none)
  | .cond c x y, s, mk => (match evO s.tm c with
    | some (.bool true) => evC P call draw n ro x s mk
    | some (.bool false) => evC P call draw n ro y s mk
    | _ => none)
  | .block id b, s, mk => (match evC P call draw n ro b s mk with
    | some (.exit id', s', mk') => cond (Nat.beq id' id) (some (.normal, s', mk')) (some (.exit id', s', mk'))
    | some (.normal, s', mk') => some (.normal, s', mk')
    | some (.goto l, s', mk') => some (.goto l, s', mk')
    | some (.ret, s', mk') => some (.ret, s', mk')
    | none => none)
  | .loop b, s, mk => loopN (evC P call draw n ro b) 100000 s mk
  | .exit id, s, mk => some (.exit id, s, mk)
  | .goto l, s, mk => some (.goto l, s, mk)
  | .ret, s, mk => some (.ret, s, mk)
  | .rangeFunc g ps assign body, s, mk => (match evO s.tm g, enterV n ro ps assign body s mk with
    | some (.func (.func f) first cap), some (l, h1, mk') => (match call (.fn f (first ++ [.yield l] ++ cap)) h1 with
      | some (_, h2) => (match leaveV h2 l with
        | some (ex, h3) => some (ex, ⟨s.tm, h3⟩, mk')
        | none => none)
      | none => none)
    | _, _ => none)
  | .scope b, s, mk => jumpN (evLab P call draw n ro b) 10000 (evC P call draw n ro b s mk)
  | .refuse _, _, _ => none
/-- Code behind a label. -/
def evLab (P : Program) (call : CallT) (draw : DrawT) (n : Nat) (ro : Option Nat) : Code → Nat → St → List Nat → Res
  | .seq x y, l, s, mk => (match findLabel x l with
    | some _ => (match evLab P call draw n ro x l s mk with
      | some (.normal, s', mk') => evC P call draw n ro y s' mk'
      | some (.exit id, s', mk') => some (.exit id, s', mk')
      | some (.goto l, s', mk') => some (.goto l, s', mk')
      | some (.ret, s', mk') => some (.ret, s', mk')
      | none => none)
    | none => evLab P call draw n ro y l s mk)
  | .label l', l, s, mk => cond (l' == l) (some (.normal, s, mk)) none
  | _, _, _, _ => none
end
def drel (e : E) : List Nat → List Deferred → Prop
  | [], ds => ds = []
  | b :: mk, ds => ∃ k r, ds = { target := .collected k, args := #[] } :: r ∧ e.ρ b = some k ∧ drel e mk r
theorem drel_mono {e e' : E} (h : e.le e') : ∀ {mk : List Nat} {ds : List Deferred}, drel e mk ds → drel e' mk ds
  | [], _, q => q
  | b :: mk, _, ⟨k, r, h1, h2, h3⟩ => ⟨k, r, h1, h.ρ _ _ h2, drel_mono h h3⟩
def FRel (e : E) : Option Nat → Fence → Prop
  | none, F => F = Fence.wide
  | some l, F => ∃ k, e.ρ l = some k ∧ F = Fence.wide.inRound k
theorem FRel.mono {e e' : E} (h : e.le e') : ∀ {ro : Option Nat} {F : Fence}, FRel e ro F → FRel e' ro F
  | none, _, q => q
  | some l, _, ⟨k, h1, h2⟩ => ⟨k, h.ρ _ _ h1, h2⟩
theorem FRel.open {e : E} : ∀ {ro : Option Nat} {F : Fence}, FRel e ro F → Open F
  | none, _, q => .inl q
  | some l, _, ⟨k, h1, h2⟩ => .inr ⟨k, h2⟩
/-- What the region that draws is asked. -/
structure DrawOk (P : Program) (call : CallT) (draw : DrawT) : Prop where
  ok : ∀ {F : Fence}, Open F → ∀ {w0 e n s s' a w m id ops Q}, SRel w0 e n s a w → draw ops n s = some s' →
  (∀ e' a' w', e.le e' → SRel w0 e' n s' a' w' → a'.defers = a.defers → Q .normal a' w') → (Code.region id ops true).wpIn F m P Q a w
section
variable {P : Program} {F : Fence} {m : Nat}
def LoopAt (F : Fence) (m : Nat) (P : Program) (c : Code) (Q : Exit → Act → World → Prop) (a : Act) (w : World) : Prop :=
  ∀ (b : Frame) (k : List Item) (cs : List Frame), b.roundOf = F.round → F.fn b.fn → F.room (cs.length + 1 + m) →
    ∃ e a' w', Q e a' w' ∧ ArrivesIn (Machine.fenced P F) P (lone (b.atR a (.code c :: .inLoop c :: k)) cs w) b k cs e a' w'
theorem loop_of {c : Code} {Q : Exit → Act → World → Prop} {a : Act} {w : World} (h : LoopAt F m P c Q a w) : (Code.loop c).wpIn F m P Q a w := by
  intro b k cs hro hb hr
  obtain ⟨e, a', w', hq, harr⟩ := h b k cs hro hb hr
  exact ⟨e, a', w', hq, .of_steps (.one (fenced_calm hb hr rfl) stepR_loop) harr⟩
theorem loop_step {c : Code} {Q : Exit → Act → World → Prop} {a : Act} {w : World} (h : c.wpIn F m P (Exit.then (fun a' w' => LoopAt F m P c Q a' w') Q) a w) : LoopAt F m P c Q a w := by
  intro b k cs hro hb hr
  obtain ⟨e, a₁, w₁, hq, harr⟩ := h b (.inLoop c :: k) cs hro hb hr
  cases e with
  | normal =>
    obtain ⟨e₂, a₂, w₂, hq₂, harr₂⟩ := hq b k cs hro hb hr
    exact ⟨e₂, a₂, w₂, hq₂, .of_steps (StepsIn.trans harr (.one (fenced_calm hb hr rfl) stepR_inLoop)) harr₂⟩
  | exit id => exact ⟨_, a₁, w₁, hq, .pass (x := .inLoop c) rfl (fun _ _ => .inl (by simp)) harr⟩
  | goto l => exact ⟨_, a₁, w₁, hq, .pass (x := .inLoop c) rfl (fun _ _ => .inl (by simp)) harr⟩
  | ret => exact ⟨_, a₁, w₁, hq, .pass (x := .inLoop c) rfl (fun _ _ => .inl (by simp)) harr⟩
  | panic ch => exact ⟨_, a₁, w₁, hq, .pass (x := .inLoop c) rfl (fun _ _ => .inl (by simp)) harr⟩
  | outgrown => exact ⟨_, a₁, w₁, hq, .pass (x := .inLoop c) rfl (fun _ _ => .inl (by simp)) harr⟩
theorem unjump_ok : ∀ {j : Option Code} {ex : Ex}, unjump j = some ex → j = ex.jump := by
  intro j ex h
  unfold unjump at h
  split at h <;> first | (cases h; rfl) | cases h
/-- Code, of which each part is known. -/
def COk (P : Program) (call : CallT) (draw : DrawT) (c : Code) : Prop := ∀ w0 e n ro F m s mk a w ex s' mk' Q, FRel e ro F → SRel w0 e n s a w → drel e mk a.defers → evC P call draw n ro c s mk = some (ex, s', mk') →
  (∀ e' a' w', e.le e' → SRel w0 e' n s' a' w' → drel e' mk' a'.defers → Q ex.to a' w') → c.wpIn F m P Q a w
theorem loopN_ok {call : CallT} {draw : DrawT} {c : Code} (hC : COk P call draw c) {n : Nat} {ro : Option Nat} {w0 : World} {ex : Ex} {s' : St} {mk' : List Nat} {Q : Exit → Act → World → Prop} : ∀ (j : Nat) (e : E) (s : St) (mk : List Nat) (a : Act) (w : World), FRel e ro F → SRel w0 e n s a w → drel e mk a.defers →
    loopN (evC P call draw n ro c) j s mk = some (ex, s', mk') → (∀ e' a' w', e.le e' → SRel w0 e' n s' a' w' → drel e' mk' a'.defers → Q ex.to a' w') → LoopAt F m P c Q a w
  | 0, _, _, _, _, _, _, _, _, q, _ => by cases q
  | j + 1, e, s, mk, a, w, hF, S, D, q, hQ => by
    refine loop_step ?_
    unfold loopN at q
    cases hc : evC P call draw n ro c s mk with
    | none => rw [hc] at q; cases q
    | some r =>
      obtain ⟨ex1, s1, mk1⟩ := r
      rw [hc] at q
      refine hC _ _ _ _ _ _ _ _ _ _ _ _ _ _ hF S D hc (fun e1 a1 w1 h1 h2 h3 => ?_)
      cases ex1 with
      | normal => exact loopN_ok hC j e1 s1 mk1 a1 w1 (hF.mono h1) h2 h3 q (fun e2 a2 w2 h4 h5 h6 => hQ e2 a2 w2 (h1.trans h4) h5 h6)
      | exit id => cases q; exact hQ e1 a1 w1 h1 h2 h3
      | goto l => cases q; exact hQ e1 a1 w1 h1 h2 h3
      | ret => cases q; exact hQ e1 a1 w1 h1 h2 h3
theorem leave_ok {w0 : World} {e : E} {h h' : H} {w : World} {l k : Nat} {ex : Ex} (R : Rel w0 e h w) (hk : e.ρ l = some k) (q : leaveV h l = some (ex, h')) : ∃ w', (Instr.endLoop k).run P w = .ok ex.jump w' ∧ Rel w0 e h' w' := by
  unfold leaveV at q
  split at q
  · rename_i r hg
    obtain ⟨hfz, hg⟩ := H.getW_some hg
    cases hb : notBusy r.state with
    | false => rw [hb] at q; cases q
    | true =>
      rw [hb] at q
      simp only [cond_true] at q
      split at q
      · rename_i ex' hu
        cases q
        obtain ⟨fn, tmps, dk, h1, h2, h3⟩ := R.heap l _ k hg hk
        have hnb : r.state ≠ .busy := fun e1 => by rw [e1] at hb; cases hb
        refine ⟨_, ?_, R.upd hk hfz hg (grownBy_putObj' _ _ _) (by rw [World.putObj_heap_same (R.new _ _ hk).2]; exact ⟨fn, tmps, dk, rfl, h2, h3⟩)⟩
        have := run_endLoop (P := P) h1 hnb
        rw [← unjump_ok hu]
        exact this
      · cases q
  · cases q
theorem enter_ok {w0 : World} {e : E} {n : Nat} {ro : Option Nat} {ps : Array Tmp} {assign body : Code} {s : St} {mk mk' : List Nat} {a : Act} {w : World} {l : Nat} {h1 : H} (fn : FuncId) (hF : FRel e ro F) (S : SRel w0 e n s a w) (D : drel e mk a.defers) (q : enterV n ro ps assign body s mk = some (l, h1, mk')) :
    ∃ e' k mark w1, (Instr.enterLoop fn a.tmps ps assign body F.round).run P w = .ok (k, mark) w1 ∧ e.le e' ∧ e'.ρ l = some k ∧ Rel w0 e' h1 w1 ∧ drel e' mk' (mark ++ a.defers) := by
  unfold enterV at q
  split at q
  · cases q
    have hF : F = Fence.wide := hF
    subst hF
    have R := S.r
    have hle1 : e.le (e.bind s.h.nxt (some w.heap.size) none) := E.bind_le R.rn R.kn R.ll
    have R1 := R.made (c := none) (o := .mark) (World.grownBy_alloc w (.deferred (some [])) none) (Nat.le_refl _) (by rw [World.size_alloc]; exact Nat.lt_succ_self _) (by rw [World.alloc_heap_new]; rfl)
    have hsz : (w.alloc (.deferred (some []))).heap.size = w.heap.size + 1 := World.size_alloc _ _
    have hle2 : (e.bind s.h.nxt (some w.heap.size) none).le ((e.bind s.h.nxt (some w.heap.size) none).bind (s.h.nxt + 1) (some (w.heap.size + 1)) none) := E.bind_le R1.rn R1.kn R1.ll
    have R2 := R1.made (c := none) (k := w.heap.size + 1) (o := .loop { state := .ready, pending := none, tmps := s.tm, ntm := n, params := ps.toList, assign := assign, body := body, mark := s.h.nxt }) (World.grownBy_alloc (w.alloc (.deferred (some [])))
        (.loop { state := .ready, pending := none, fn := fn, tmps := a.tmps, params := ps, assign := assign, body := body, defers := w.heap.size }) none) (by rw [hsz]; exact Nat.le_refl _) (by rw [World.size_alloc, hsz]; exact Nat.lt_succ_self _) (by
          rw [← hsz, World.alloc_heap_new]
          refine ⟨fn, a.tmps, w.heap.size, rfl, S.t.mono (hle1.trans ?_), ?_⟩
          · rw [hsz]; exact hle2
          · rw [hsz]; exact hle2.ρ _ _ (E.bind_ρ _ _ _ _))
    refine ⟨_, w.heap.size + 1, _, _, run_enterLoop_outer fn a.tmps ps assign body, hle1.trans hle2, E.bind_ρ _ _ _ _, R2, w.heap.size, a.defers, rfl, hle2.ρ _ _ (E.bind_ρ _ _ _ _), drel_mono (hle1.trans hle2) D⟩
  · rename_i l0
    obtain ⟨k0, hk0, rfl⟩ := hF
    split at q
    · rename_i r hg
      cases q
      have R := S.r
      obtain ⟨fn0, tmps0, dk, g1, g2, g3⟩ := R.heap l0 _ k0 hg hk0
      have hle1 : e.le (e.bind s.h.nxt (some w.heap.size) none) := E.bind_le R.rn R.kn R.ll
      have R1 := R.made (c := none) (o := .loop { state := .ready, pending := none, tmps := s.tm, ntm := n, params := ps.toList, assign := assign, body := body, mark := r.mark }) (World.grownBy_alloc w
        (.loop { state := .ready, pending := none, fn := fn, tmps := a.tmps, params := ps, assign := assign, body := body, defers := dk }) none) (Nat.le_refl _) (by rw [World.size_alloc]; exact Nat.lt_succ_self _) (by
          rw [World.alloc_heap_new]
          exact ⟨fn, a.tmps, dk, rfl, S.t.mono hle1, hle1.ρ _ _ g3⟩)
      have hent := run_enterLoop_inner (P := P) g1 fn a.tmps ps assign body
      exact ⟨_, w.heap.size, [], _, hent, hle1, E.bind_ρ _ _ _ _, R1, drel_mono hle1 D⟩
    · cases q
theorem stepR_scope {b : Frame} {a : Act} {c : Code} {k : List Item} {cs : List Frame} {w : World} : step P (lone (b.atR a (.code (.scope c) :: k)) cs w) = .next (lone (b.atR a (.code c :: .inScope c :: k)) cs w) :=
  step_lone_go (by simp [stepG, stepG.exec, Frame.atR])
theorem stepR_inScope {b : Frame} {a : Act} {c : Code} {k : List Item} {cs : List Frame} {w : World} : step P (lone (b.atR a (.inScope c :: k)) cs w) = .next (lone (b.atR a k) cs w) :=
  step_lone_go (by simp [stepG, stepG.exec, Frame.atR])
def ScopeAt (F : Fence) (m : Nat) (P : Program) (c rest : Code) (Q : Exit → Act → World → Prop) (a : Act) (w : World) : Prop :=
  ∀ (b : Frame) (k : List Item) (cs : List Frame), b.roundOf = F.round → F.fn b.fn → F.room (cs.length + 1 + m) →
    ∃ e a' w', Q e a' w' ∧ ArrivesIn (Machine.fenced P F) P (lone (b.atR a (.code rest :: .inScope c :: k)) cs w) b k cs e a' w'
theorem scope_of {c : Code} {Q : Exit → Act → World → Prop} {a : Act} {w : World} (h : ScopeAt F m P c c Q a w) : (Code.scope c).wpIn F m P Q a w := by
  intro b k cs hro hb hr
  obtain ⟨e, a₁, w₁, hq, harr⟩ := h b k cs hro hb hr
  exact ⟨e, a₁, w₁, hq, .of_steps (.one (fenced_calm hb hr rfl) stepR_scope) harr⟩
def Exit.scoped (F : Fence) (m : Nat) (P : Program) (c : Code) (Q : Exit → Act → World → Prop) : Exit → Act → World → Prop
  | .goto l, a, w => ∃ rest, findLabel c l = some rest ∧ ScopeAt F m P c rest Q a w
  | e, a, w => Q e a w
theorem scope_step {c rest : Code} {Q : Exit → Act → World → Prop} {a : Act} {w : World} (h : rest.wpIn F m P (Exit.scoped F m P c Q) a w) : ScopeAt F m P c rest Q a w := by
  intro b k cs hro hb hr
  obtain ⟨e, a₁, w₁, hq, harr⟩ := h b (.inScope c :: k) cs hro hb hr
  cases e with
  | normal => exact ⟨.normal, a₁, w₁, hq, StepsIn.trans harr (.one (fenced_calm hb hr rfl) stepR_inScope)⟩
  | exit id => exact ⟨.exit id, a₁, w₁, hq, ⟨fun k' hk => harr.1 k' (by simpa [exitTo] using hk), fun hr hk => harr.2 hr (by simpa [exitTo] using hk)⟩⟩
  | goto l =>
    obtain ⟨rest', hf, hs⟩ := hq
    obtain ⟨e₂, a₂, w₂, hq₂, harr₂⟩ := hs b k cs hro hb hr
    have hg : gotoIn l (.inScope c :: k) = some (.code rest' :: .inScope c :: k) := by simp [gotoIn, hf]
    exact ⟨e₂, a₂, w₂, hq₂, .of_steps (harr.1 _ hg) harr₂⟩
  | ret => exact ⟨.ret, a₁, w₁, hq, harr⟩
  | panic ch => exact ⟨.panic ch, a₁, w₁, hq, harr⟩
  | outgrown => exact ⟨.outgrown, a₁, w₁, hq, harr⟩
/-- A way to run code. -/
def RunOk (P : Program) (rest : Code) (run : Nat → Option Nat → St → List Nat → Res) : Prop := ∀ w0 e n ro F m s mk a w ex s' mk' Q, FRel e ro F → SRel w0 e n s a w → drel e mk a.defers → run n ro s mk = some (ex, s', mk') →
  (∀ e' a' w', e.le e' → SRel w0 e' n s' a' w' → drel e' mk' a'.defers → Q ex.to a' w') → rest.wpIn F m P Q a w
theorem evLab_label {call : CallT} {draw : DrawT} {n : Nat} {ro : Option Nat} : ∀ {c : Code} {l : Nat} {s : St} {mk : List Nat} {r : Ex × St × List Nat}, evLab P call draw n ro c l s mk = some r → ∃ rest, findLabel c l = some rest
  | .seq x y, l, s, mk, r, q => by
    simp only [evLab] at q
    split at q
    · rename_i rx hx
      exact ⟨.seq rx y, by simp only [findLabel, hx]⟩
    · rename_i hx
      obtain ⟨rest, hr⟩ := evLab_label q
      exact ⟨rest, by simp only [findLabel, hx, hr]⟩
  | .label l', l, s, mk, r, q => by
    simp only [evLab] at q
    cases h : l' == l with
    | false => rw [h] at q; cases q
    | true => exact ⟨.skip, by simp only [findLabel, h, if_true]⟩
  | .skip, _, _, _, _, q | .exit _, _, _, _, _, q | .goto _, _, _, _, _, q | .ret, _, _, _, _, q | .scope _, _, _, _, _, q | .refuse _, _, _, _, _, q | .region _ _ _, _, _, _, _, q | .cond _ _ _, _, _, _, _, q | .block _ _, _, _, _, _, q | .loop _, _, _, _, _, q | .rangeFunc _ _ _ _, _, _, _, _, q => by simp only [evLab] at q; cases q
theorem jumpN_ok {call : CallT} {draw : DrawT} {c : Code} (hL : ∀ l rest, findLabel c l = some rest → RunOk P rest (fun n ro => evLab P call draw n ro c l)) {n : Nat} {ro : Option Nat} {w0 : World} {ex : Ex} {s' : St} {mk' : List Nat} {Q : Exit → Act → World → Prop} : ∀ (j : Nat) (e : E) (s : St) (mk : List Nat) (a : Act) (w : World) (rest : Code) (run : Nat → Option Nat → St → List Nat → Res), RunOk P rest run → FRel e ro F → SRel w0 e n s a w → drel e mk a.defers →
    jumpN (evLab P call draw n ro c) j (run n ro s mk) = some (ex, s', mk') → (∀ e' a' w', e.le e' → SRel w0 e' n s' a' w' → drel e' mk' a'.defers → Q ex.to a' w') → ScopeAt F m P c rest Q a w
  | 0, _, _, _, _, _, _, _, _, _, _, _, q, _ => by cases q
  | j + 1, e, s, mk, a, w, rest, run, hrun, hF, S, D, q, hQ => by
    refine scope_step ?_
    unfold jumpN at q
    cases hc : run n ro s mk with
    | none => rw [hc] at q; cases q
    | some r =>
      obtain ⟨ex1, s1, mk1⟩ := r
      rw [hc] at q
      refine hrun _ _ _ _ _ _ _ _ _ _ _ _ _ _ hF S D hc (fun e1 a1 w1 h1 h2 h3 => ?_)
      cases ex1 with
      | normal => cases q; exact hQ e1 a1 w1 h1 h2 h3
      | exit id => cases q; exact hQ e1 a1 w1 h1 h2 h3
      | ret => cases q; exact hQ e1 a1 w1 h1 h2 h3
      | goto l =>
        dsimp only at q
        have hl : ∃ r, evLab P call draw n ro c l s1 mk1 = some r := by
          cases hh : evLab P call draw n ro c l s1 mk1 with
          | none =>
            rw [hh] at q
            cases j <;> cases q
          | some r => exact ⟨r, rfl⟩
        obtain ⟨r, hr⟩ := hl
        obtain ⟨rest', hf⟩ := evLab_label hr
        exact ⟨rest', hf, jumpN_ok hL j e1 s1 mk1 a1 w1 rest' _ (hL l rest' hf) (hF.mono h1) h2 h3 q (fun e2 a2 w2 h4 h5 h6 => hQ e2 a2 w2 (h1.trans h4) h5 h6)⟩
mutual
theorem evC_ok {call : CallT} {draw : DrawT} (hc : CallOk P call) (hd : DrawOk P call draw) : ∀ (c : Code), COk P call draw c
  | .skip => fun w0 e n ro F m s mk a w ex s' mk' Q hF S D q hQ => by cases q; exact wpIn_skip (hQ _ _ _ (E.le.refl _) S D)
  | .label _ => fun w0 e n ro F m s mk a w ex s' mk' Q hF S D q hQ => by cases q; exact wpIn_label (hQ _ _ _ (E.le.refl _) S D)
  | .exit _ => fun w0 e n ro F m s mk a w ex s' mk' Q hF S D q hQ => by cases q; exact wpIn_exit (hQ _ _ _ (E.le.refl _) S D)
  | .goto _ => fun w0 e n ro F m s mk a w ex s' mk' Q hF S D q hQ => by cases q; exact wpIn_goto (hQ _ _ _ (E.le.refl _) S D)
  | .ret => fun w0 e n ro F m s mk a w ex s' mk' Q hF S D q hQ => by cases q; exact wpIn_ret (hQ _ _ _ (E.le.refl _) S D)
  | .scope b => fun w0 e n ro F m s mk a w ex s' mk' Q hF S D q hQ => by
    simp only [evC] at q
    exact scope_of (jumpN_ok (fun l rest hf => evLab_ok hc hd b l rest hf) _ e s mk a w b (fun n ro => evC P call draw n ro b) (evC_ok hc hd b) hF S D q hQ)
  | .refuse _ => fun w0 e n ro F m s mk a w ex s' mk' Q hF S D q hQ => by cases q
  | .region id ops false => fun w0 e n ro F m s mk a w ex s' mk' Q hF S D q hQ => by
    simp only [evC] at q
    split at q
    · rename_i s' hs
      cases q
      exact wp_regionN hF.open hc S hs (fun e' a' w' h1 h2 h3 => hQ e' a' w' h1 h2 (by rw [h3]; exact drel_mono h1 D))
    · cases q
  | .region id ops true => fun w0 e n ro F m s mk a w ex s' mk' Q hF S D q hQ => by
    simp only [evC] at q
    split at q
    · rename_i s' hs
      cases q
      exact hd.ok hF.open S hs (fun e' a' w' h1 h2 h3 => hQ e' a' w' h1 h2 (by rw [h3]; exact drel_mono h1 D))
    · cases q
  | .seq x y => fun w0 e n ro F m s mk a w ex s' mk' Q hF S D q hQ => by
    simp only [evC] at q
    refine wpIn_seq ?_
    cases h1 : evC P call draw n ro x s mk with
    | none => rw [h1] at q; cases q
    | some r =>
      obtain ⟨ex1, s1, mk1⟩ := r
      rw [h1] at q
      refine evC_ok hc hd x _ _ _ _ _ _ _ _ _ _ _ _ _ _ hF S D h1 (fun e1 a1 w1 h2 h3 h4 => ?_)
      cases ex1 with
      | normal => exact evC_ok hc hd y _ _ _ _ _ _ _ _ _ _ _ _ _ _ (hF.mono h2) h3 h4 q (fun e2 a2 w2 h5 h6 h7 => hQ e2 a2 w2 (h2.trans h5) h6 h7)
      | exit id => cases q; exact hQ e1 a1 w1 h2 h3 h4
      | goto l => cases q; exact hQ e1 a1 w1 h2 h3 h4
      | ret => cases q; exact hQ e1 a1 w1 h2 h3 h4
  | .cond c x y => fun w0 e n ro F m s mk a w ex s' mk' Q hF S D q hQ => by
    simp only [evC] at q
    split at q
    · rename_i h1
      have := evO_rel S.t h1
      simp only [vrel] at this
      exact wpIn_cond_true this (evC_ok hc hd x _ _ _ _ _ _ _ _ _ _ _ _ _ _ hF S D q hQ)
    · rename_i h1
      have := evO_rel S.t h1
      simp only [vrel] at this
      exact wpIn_cond_false this (evC_ok hc hd y _ _ _ _ _ _ _ _ _ _ _ _ _ _ hF S D q hQ)
    · cases q
  | .block id b => fun w0 e n ro F m s mk a w ex s' mk' Q hF S D q hQ => by
    simp only [evC] at q
    refine wpIn_block ?_
    cases h1 : evC P call draw n ro b s mk with
    | none => rw [h1] at q; cases q
    | some r =>
      obtain ⟨ex1, s1, mk1⟩ := r
      rw [h1] at q
      refine evC_ok hc hd b _ _ _ _ _ _ _ _ _ _ _ _ _ _ hF S D h1 (fun e1 a1 w1 h2 h3 h4 => ?_)
      cases ex1 with
      | normal => cases q; exact hQ e1 a1 w1 h2 h3 h4
      | exit id' =>
        cases hb : Nat.beq id' id with
        | true =>
          simp only [hb, cond_true] at q
          cases q
          have := Nat.eq_of_beq_eq_true hb
          subst this
          show Exit.inBlock id' Q (.exit id') a1 w1
          simp only [Exit.inBlock, if_true]
          exact hQ e1 a1 w1 h2 h3 h4
        | false =>
          simp only [hb, cond_false] at q
          cases q
          have hne : ¬ id' = id := fun e2 => by subst e2; simp at hb
          show Exit.inBlock id Q (.exit id') a1 w1
          simp only [Exit.inBlock, hne, if_false]
          exact hQ e1 a1 w1 h2 h3 h4
      | goto l => cases q; exact hQ e1 a1 w1 h2 h3 h4
      | ret => cases q; exact hQ e1 a1 w1 h2 h3 h4
  | .loop b => fun w0 e n ro F m s mk a w ex s' mk' Q hF S D q hQ => by
    simp only [evC] at q
    exact loop_of (loopN_ok (evC_ok hc hd b) _ e s mk a w hF S D q hQ)
  | .rangeFunc g ps assign body => fun w0 e n ro F m s mk a w ex s' mk' Q hF S D q hQ => by
    simp only [evC] at q
    split at q
    · rename_i f first cap l h1 mk1 hg hent
      split at q
      · rename_i v0 h2 hcall
        split at q
        · rename_i ex3 h3 hlv
          cases q
          refine wpIn_rangeFunc (fun fn _ => ?_)
          obtain ⟨e1, k, mark, w1, r1, r2, r3, r4, r5⟩ := enter_ok (P := P) fn hF S D hent
          have hgv := evO_rel S.t hg
          simp only [vrel] at hgv
          obtain ⟨fs, cs, hge, hfs, hcs⟩ := hgv
          have hargs : vrels e1 (first ++ [.yield l] ++ cap) (fs ++ [.func (.yield k) #[] #[]] ++ cs) :=
            vrels_append (vrels_append (vrels_mono r2 _ _ hfs) (vrels_one (by simp only [vrel]; exact ⟨k, r3, rfl⟩))) (vrels_mono r2 _ _ hcs)
          obtain ⟨⟨fnc, g1, g2, g3⟩, g4⟩ := hc.fn hcall r4 _ hargs
          have g3' : ¬ fnc.name = "runtime.NumGoroutine" := by simpa using g3
          have g2' : ¬ fnc.body = none := fun hh => by rw [hh] at g2; cases g2
          refine ⟨k, mark, w1, { target := .fn (.func f) ⟨cs⟩, args := ⟨fs⟩ ++ #[.func (.yield k) #[] #[]] }, w1, f, ⟨fs ++ [.func (.yield k) #[] #[]] ++ cs⟩, w1, r1, ?_, fun f' _ => hF.open.fn f', ?_, ?_, ?_⟩
          · have hev : ∀ v, a.eval (.const v) = v := fun _ => rfl
            simp [resolve, hge, Deferred.ofValue, hev]
          · have : (⟨fs⟩ : Array Value) ++ #[.func (.yield k) #[] #[]] ++ ⟨cs⟩ = ⟨fs ++ [.func (.yield k) #[] #[]] ++ cs⟩ := by
              apply Array.ext'
              simp
            simp only [invoke, this]
            simp [callFunc, g1, g2', g3']
          · intro hdp
            rw [hF.open.depth] at hdp
            cases hdp
          · refine hF.open.calls ((g4 (m - 1)).mono ?_)
            rintro en w2 ⟨e2, x, rfl, p2, p3, p4⟩
            obtain ⟨w3, t1, t2⟩ := leave_ok (P := P) p4 (p2.ρ _ _ r3) hlv
            refine ⟨ex.jump, w3, t1, ?_⟩
            have fin := hQ e2 { a with defers := mark ++ a.defers } w3 (r2.trans p2) ⟨S.t.mono (r2.trans p2), t2⟩ (drel_mono p2 r5)
            cases ex with
            | normal => exact fin
            | exit id => exact wpIn_exit fin
            | goto l => exact wpIn_goto fin
            | ret => exact wpIn_ret fin
        · cases q
      · cases q
    · cases q
theorem evLab_ok {call : CallT} {draw : DrawT} (hc : CallOk P call) (hd : DrawOk P call draw) : ∀ (c : Code) (l : Nat) (rest : Code), findLabel c l = some rest → RunOk P rest (fun n ro => evLab P call draw n ro c l)
  | .seq x y, l, rest, hf => fun w0 e n ro F m s mk a w ex s' mk' Q hF S D q hQ => by
    simp only [evLab] at q
    simp only [findLabel] at hf
    cases hx : findLabel x l with
    | none =>
      rw [hx] at q hf
      exact evLab_ok hc hd y l rest hf _ _ _ _ _ _ _ _ _ _ _ _ _ _ hF S D q hQ
    | some rx =>
      rw [hx] at q hf
      cases hf
      dsimp only at q
      refine wpIn_seq ?_
      cases h1 : evLab P call draw n ro x l s mk with
      | none => rw [h1] at q; cases q
      | some r =>
        obtain ⟨ex1, s1, mk1⟩ := r
        rw [h1] at q
        refine evLab_ok hc hd x l rx hx _ _ _ _ _ _ _ _ _ _ _ _ _ _ hF S D h1 (fun e1 a1 w1 h2 h3 h4 => ?_)
        cases ex1 with
        | normal => exact evC_ok hc hd y _ _ _ _ _ _ _ _ _ _ _ _ _ _ (hF.mono h2) h3 h4 q (fun e2 a2 w2 h5 h6 h7 => hQ e2 a2 w2 (h2.trans h5) h6 h7)
        | exit id => cases q; exact hQ e1 a1 w1 h2 h3 h4
        | goto l => cases q; exact hQ e1 a1 w1 h2 h3 h4
        | ret => cases q; exact hQ e1 a1 w1 h2 h3 h4
  | .label l', l, rest, hf => fun w0 e n ro F m s mk a w ex s' mk' Q hF S D q hQ => by
    simp only [evLab] at q
    simp only [findLabel] at hf
    cases h : l' == l with
    | false => rw [h] at q; cases q
    | true =>
      rw [h] at q hf
      cases q
      cases hf
      exact wpIn_skip (hQ _ _ _ (E.le.refl _) S D)
  | .skip, _, _, hf | .exit _, _, _, hf | .goto _, _, _, hf | .ret, _, _, hf | .scope _, _, _, hf | .refuse _, _, _, hf | .region _ _ _, _, _, hf | .cond _ _ _, _, _, hf | .block _ _, _, _, hf | .loop _, _, _, hf | .rangeFunc _ _ _ _, _, _, hf => by cases hf
end
end
end Go.Proofs.YtjngkcnanhnopaaGreatDoor.Ev

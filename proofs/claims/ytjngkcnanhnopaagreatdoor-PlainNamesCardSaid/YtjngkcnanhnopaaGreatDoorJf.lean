import Derived.Test.YtjngkcnanhnopaaGreatDoorJe
/-! A function without arguments, run in parts: from one place of its body to another, with a state that is told. -/
namespace Go.Proofs.YtjngkcnanhnopaaGreatDoor.Ev
open Go Go.RowKit
set_option linter.unusedVariables false
set_option linter.unusedSimpArgs false

inductive D where | l | r | t | e | b
  deriving DecidableEq
inductive Fr where
  | seq (y : Code)
  | blk (id : Nat)
/-- The code at a place (the last way first), and what comes behind it. -/
def cfgOf (c0 : Code) : List D → Option (List Fr × Code)
  | [] => some ([], c0)
  | d :: p => match cfgOf c0 p, d with
    | some (k, .seq x y), .l => some (.seq y :: k, x)
    | some (k, .seq x y), .r => some (k, y)
    | some (k, .cond _ x y), .t => some (k, x)
    | some (k, .cond _ x y), .e => some (k, y)
    | some (k, .block id b), .b => some (.blk id :: k, b)
    | _, _ => none
inductive Up where
  | at (p : List D)
  | done (ex : Ex)
def upP (c0 : Code) : Ex → List D → Option Up
  | ex, [] => some (.done ex)
  | .normal, .l :: p => some (.at (.r :: p))
  | .normal, .r :: p => upP c0 .normal p
  | .normal, .t :: p => upP c0 .normal p
  | .normal, .e :: p => upP c0 .normal p
  | .normal, .b :: p => upP c0 .normal p
  | .exit id, .b :: p => (match cfgOf c0 p with
    | some (_, .block id' _) => cond (Nat.beq id id') (upP c0 .normal p) (upP c0 (.exit id) p)
    | _ => none)
  | .exit id, .l :: p => upP c0 (.exit id) p
  | .exit id, .r :: p => upP c0 (.exit id) p
  | .exit id, .t :: p => upP c0 (.exit id) p
  | .exit id, .e :: p => upP c0 (.exit id) p
  | .ret, _ :: p => upP c0 .ret p
  | .goto _, _ :: _ => none
abbrev LeafT := Code → St → List Nat → Res
def stepP (c0 : Code) (leaf : LeafT) (p : List D) (s : St) (mk : List Nat) : Option (Up × St × List Nat) :=
  match cfgOf c0 p with
  | some (_, .seq _ _) => some (.at (.l :: p), s, mk)
  | some (_, .block _ _) => some (.at (.b :: p), s, mk)
  | some (_, .cond c _ _) => (match evO s.tm c with
    | some (.bool true) => some (.at (.t :: p), s, mk)
    | some (.bool false) => some (.at (.e :: p), s, mk)
    | _ => none)
  | some (_, c) => (match leaf c s mk with
    | some (ex, s', mk') => (match upP c0 ex p with
      | some u => some (u, s', mk')
      | none => none)
    | none => none)
  | none => none
def runP (c0 : Code) (leaf : LeafT) : Nat → List D → St → List Nat → Option (Up × St × List Nat)
  | 0, p, s, mk => some (.at p, s, mk)
  | k + 1, p, s, mk => match stepP c0 leaf p s mk with
    | some (.at p', s', mk') => runP c0 leaf k p' s' mk'
    | some (.done ex, s', mk') => some (.done ex, s', mk')
    | none => none
section
variable {P : Program} {m : Nat}
def postK (F : Fence) (m : Nat) (P : Program) : List Fr → (Exit → Act → World → Prop) → Exit → Act → World → Prop
  | [], Q => Q
  | .seq y :: k, Q => Exit.then (fun a w => y.wpIn F m P (postK F m P k Q) a w) (postK F m P k Q)
  | .blk id :: k, Q => Exit.inBlock id (postK F m P k Q)
def UpOk (F : Fence) (m : Nat) (P : Program) (c0 : Code) (Q : Exit → Act → World → Prop) : Up → Act → World → Prop
  | .at p, a, w => ∃ k c, cfgOf c0 p = some (k, c) ∧ c.wpIn F m P (postK F m P k Q) a w
  | .done ex, a, w => Q ex.to a w
theorem cfgOf_cons {c0 : Code} {d : D} {p : List D} {k : List Fr} {c : Code} (h : cfgOf c0 (d :: p) = some (k, c)) :
    (∃ y, d = .l ∧ ∃ k0, k = .seq y :: k0 ∧ cfgOf c0 p = some (k0, .seq c y)) ∨ (∃ x, d = .r ∧ cfgOf c0 p = some (k, .seq x c)) ∨ (∃ o y, d = .t ∧ cfgOf c0 p = some (k, .cond o c y)) ∨ (∃ o x, d = .e ∧ cfgOf c0 p = some (k, .cond o x c)) ∨
      (∃ id k0, d = .b ∧ k = .blk id :: k0 ∧ cfgOf c0 p = some (k0, .block id c)) := by
  unfold cfgOf at h
  split at h
  · rename_i k0 x y hp
    cases h
    exact .inl ⟨y, rfl, k0, rfl, hp⟩
  · rename_i k0 x y hp
    cases h
    exact .inr (.inl ⟨x, rfl, hp⟩)
  · rename_i k0 o x y hp
    cases h
    exact .inr (.inr (.inl ⟨o, y, rfl, hp⟩))
  · rename_i k0 o x y hp
    cases h
    exact .inr (.inr (.inr (.inl ⟨o, x, rfl, hp⟩)))
  · rename_i k0 id b hp
    cases h
    exact .inr (.inr (.inr (.inr ⟨id, k0, rfl, rfl, hp⟩)))
  · cases h
theorem upP_ok {F : Fence} {c0 : Code} {Q : Exit → Act → World → Prop} {a : Act} {w : World} {u : Up} : ∀ (p : List D) (ex : Ex) (k : List Fr) (c : Code), cfgOf c0 p = some (k, c) → upP c0 ex p = some u → UpOk F m P c0 Q u a w → postK F m P k Q ex.to a w
  | [], ex, k, c, h, q, hu => by
    cases h
    have : u = .done ex := by cases ex <;> (unfold upP at q; cases q; rfl)
    subst this
    exact hu
  | d :: p, ex, k, c, h, q, hu => by
    rcases cfgOf_cons h with ⟨y, rfl, k0, rfl, hp⟩ | ⟨x, rfl, hp⟩ | ⟨o, y, rfl, hp⟩ | ⟨o, x, rfl, hp⟩ | ⟨id, k0, rfl, rfl, hp⟩
    · cases ex with
      | normal =>
        unfold upP at q
        cases q
        obtain ⟨k', c', g1, g2⟩ := hu
        unfold cfgOf at g1
        rw [hp] at g1
        cases g1
        exact g2
      | exit id => exact upP_ok p (.exit id) k0 _ hp (by unfold upP at q; exact q) hu
      | ret => exact upP_ok p .ret k0 _ hp (by unfold upP at q; exact q) hu
      | goto l => unfold upP at q; cases q
    · cases ex with
      | normal => exact upP_ok p .normal k _ hp (by unfold upP at q; exact q) hu
      | exit id => exact upP_ok p (.exit id) k _ hp (by unfold upP at q; exact q) hu
      | ret => exact upP_ok p .ret k _ hp (by unfold upP at q; exact q) hu
      | goto l => unfold upP at q; cases q
    · cases ex with
      | normal => exact upP_ok p .normal k _ hp (by unfold upP at q; exact q) hu
      | exit id => exact upP_ok p (.exit id) k _ hp (by unfold upP at q; exact q) hu
      | ret => exact upP_ok p .ret k _ hp (by unfold upP at q; exact q) hu
      | goto l => unfold upP at q; cases q
    · cases ex with
      | normal => exact upP_ok p .normal k _ hp (by unfold upP at q; exact q) hu
      | exit id => exact upP_ok p (.exit id) k _ hp (by unfold upP at q; exact q) hu
      | ret => exact upP_ok p .ret k _ hp (by unfold upP at q; exact q) hu
      | goto l => unfold upP at q; cases q
    · cases ex with
      | normal => exact upP_ok p .normal k0 _ hp (by unfold upP at q; exact q) hu
      | exit id' =>
        unfold upP at q
        rw [hp] at q
        dsimp only at q
        show Exit.inBlock id (postK F m P k0 Q) (.exit id') a w
        cases hb : Nat.beq id' id with
        | true =>
          rw [hb] at q
          have := Nat.eq_of_beq_eq_true hb
          subst this
          simp only [Exit.inBlock, if_true]
          exact upP_ok p .normal k0 _ hp q hu
        | false =>
          rw [hb] at q
          have hne : ¬ id' = id := fun e2 => by subst e2; simp at hb
          simp only [Exit.inBlock, hne, if_false]
          exact upP_ok p (.exit id') k0 _ hp q hu
      | ret => exact upP_ok p .ret k0 _ hp (by unfold upP at q; exact q) hu
      | goto l => unfold upP at q; cases q
/-- Leaves are run as they are. -/
def LeafOk (P : Program) (n : Nat) (leaf : LeafT) : Prop := ∀ c w0 e m s mk a w ex s' mk' Q, SRel w0 e n s a w → drel e mk a.defers → leaf c s mk = some (ex, s', mk') →
  (∀ e' a' w', e.le e' → SRel w0 e' n s' a' w' → drel e' mk' a'.defers → Q ex.to a' w') → c.wpIn Fence.wide m P Q a w
theorem stepP_ok {n : Nat} {leaf : LeafT} (hl : LeafOk P n leaf) {c0 : Code} {p : List D} {s s' : St} {mk mk' : List Nat} {u : Up} {w0 w : World} {e : E} {a : Act} {Q : Exit → Act → World → Prop} (S : SRel w0 e n s a w) (Dr : drel e mk a.defers)
    (q : stepP c0 leaf p s mk = some (u, s', mk')) (hQ : ∀ e' a' w', e.le e' → SRel w0 e' n s' a' w' → drel e' mk' a'.defers → UpOk Fence.wide m P c0 Q u a' w') : UpOk Fence.wide m P c0 Q (.at p) a w := by
  unfold stepP at q
  have go : ∀ k c, cfgOf c0 p = some (k, c) → (match leaf c s mk with
    | some (ex, s', mk') => (match upP c0 ex p with
      | some u => some (u, s', mk')
      | none => none)
    | none => none) = some (u, s', mk') → UpOk Fence.wide m P c0 Q (.at p) a w := by
    intro k c hc q
    split at q
    · rename_i ex s1 mk1 hlf
      split at q
      · rename_i u' hu
        cases q
        exact ⟨k, c, hc, hl c _ _ _ _ _ _ _ _ _ _ _ S Dr hlf (fun e' a' w' h1 h2 h3 => upP_ok p ex k c hc hu (hQ e' a' w' h1 h2 h3))⟩
      · cases q
    · cases q
  split at q
  · rename_i k x y hc
    cases q
    obtain ⟨k', c', g1, g2⟩ := hQ e a w (E.le.refl e) S Dr
    unfold cfgOf at g1
    rw [hc] at g1
    cases g1
    exact ⟨k, _, hc, wpIn_seq g2⟩
  · rename_i k id b hc
    cases q
    obtain ⟨k', c', g1, g2⟩ := hQ e a w (E.le.refl e) S Dr
    unfold cfgOf at g1
    rw [hc] at g1
    cases g1
    exact ⟨k, _, hc, wpIn_block g2⟩
  · rename_i k o x y hc
    split at q
    · rename_i h1
      have := evO_rel S.t h1
      simp only [vrel] at this
      cases q
      obtain ⟨k', c', g1, g2⟩ := hQ e a w (E.le.refl e) S Dr
      unfold cfgOf at g1
      rw [hc] at g1
      cases g1
      exact ⟨k, _, hc, wpIn_cond_true this g2⟩
    · rename_i h1
      have := evO_rel S.t h1
      simp only [vrel] at this
      cases q
      obtain ⟨k', c', g1, g2⟩ := hQ e a w (E.le.refl e) S Dr
      unfold cfgOf at g1
      rw [hc] at g1
      cases g1
      exact ⟨k, _, hc, wpIn_cond_false this g2⟩
    · cases q
  · rename_i k c _ _ _ hc
    exact go k c hc q
  · cases q
theorem runP_ok {n : Nat} {leaf : LeafT} (hl : LeafOk P n leaf) {c0 : Code} {w0 : World} {Q : Exit → Act → World → Prop} {u : Up} {s' : St} {mk' : List Nat} : ∀ (j : Nat) (p : List D) (s : St) (mk : List Nat) (e : E) (a : Act) (w : World), SRel w0 e n s a w → drel e mk a.defers →
    runP c0 leaf j p s mk = some (u, s', mk') → (∀ e' a' w', e.le e' → SRel w0 e' n s' a' w' → drel e' mk' a'.defers → UpOk Fence.wide m P c0 Q u a' w') → UpOk Fence.wide m P c0 Q (.at p) a w
  | 0, p, s, mk, e, a, w, S, Dr, q, hQ => by cases q; exact hQ e a w (E.le.refl e) S Dr
  | j + 1, p, s, mk, e, a, w, S, Dr, q, hQ => by
    unfold runP at q
    split at q
    · rename_i p1 s1 mk1 hs
      exact stepP_ok hl S Dr hs (fun e1 a1 w1 h1 h2 h3 => runP_ok hl j p1 s1 mk1 e1 a1 w1 h2 h3 q (fun e2 a2 w2 h4 h5 h6 => hQ e2 a2 w2 (h1.trans h4) h5 h6))
    · rename_i ex s1 mk1 hs
      cases q
      exact stepP_ok hl S Dr hs hQ
    · cases q
end
/-! A state that is told: less than what there is. -/
def putL {α : Type} : List (Nat × α) → Tr α → Tr α
  | [], t => t
  | p :: l, t => putL l (t.set p.1 (some p.2))
theorem putL_get {α : Type} : ∀ (l : List (Nat × α)) (t : Tr α) (n : Nat) (v : α), (putL l t).get n = some v → (n, v) ∈ l ∨ t.get n = some v
  | [], t, n, v, h => .inr h
  | p :: l, t, n, v, h => by
    rcases putL_get l (t.set p.1 (some p.2)) n v h with h1 | h1
    · exact .inl (List.mem_cons_of_mem _ h1)
    · rw [Tr.get_set] at h1
      by_cases e1 : n = p.1
      · rw [if_pos e1] at h1
        have e2 := Option.some.inj h1
        refine .inl (List.mem_cons.2 (.inl ?_))
        rw [e1, ← e2]
      · rw [if_neg e1] at h1
        exact .inr h1
def mkSt (tm : List (Nat × V)) (hp : List (Nat × O)) (nxt : Nat) : St := ⟨putL tm .leaf, ⟨putL hp .leaf, nxt, 0, []⟩⟩
def isV : Option V → V → Bool
  | some a, b => sameV a b
  | none, _ => false
def isO : Option O → O → Bool
  | some a, b => sameOb a b
  | none, _ => false
def weakB (s : St) (tm : List (Nat × V)) (hp : List (Nat × O)) (nxt : Nat) : Bool := (tm.all fun p => isV (s.tm.get p.1) p.2) && (hp.all fun p => isO (s.h.get p.1) p.2) && Nat.beq s.h.nxt nxt && Nat.beq s.h.frz 0 && s.h.log.isEmpty
theorem weak_ok {w0 : World} {e : E} {n : Nat} {s : St} {a : Act} {w : World} {tm : List (Nat × V)} {hp : List (Nat × O)} {nxt : Nat} (S : SRel w0 e n s a w) (q : weakB s tm hp nxt = true) : SRel w0 e n (mkSt tm hp nxt) a w := by
  unfold weakB at q
  simp only [Bool.and_eq_true] at q
  obtain ⟨⟨⟨⟨q1, q2⟩, q3⟩, q4⟩, q5⟩ := q
  have q3 := Nat.eq_of_beq_eq_true q3
  have q4 := Nat.eq_of_beq_eq_true q4
  have q5 := List.isEmpty_iff.1 q5
  have hv : ∀ t v, (putL tm .leaf).get t = some v → s.tm.get t = some v := fun t v h => by
    rcases putL_get _ _ _ _ h with h | h
    · have h1 := List.all_eq_true.1 q1 _ h
      dsimp only at h1
      cases hg : s.tm.get t with
      | none => rw [hg] at h1; cases h1
      | some v' => rw [hg] at h1; rw [sameV_eq _ _ h1]
    · rw [Tr.get_leaf] at h; cases h
  have ho : ∀ t v, (putL hp .leaf).get t = some v → s.h.get t = some v := fun t v h => by
    rcases putL_get _ _ _ _ h with h | h
    · have h1 := List.all_eq_true.1 q2 _ h
      dsimp only at h1
      cases hg : s.h.get t with
      | none => rw [hg] at h1; cases h1
      | some v' => rw [hg] at h1; rw [sameOb_eq _ _ h1]
    · rw [Tr.get_leaf] at h; cases h
  have R := S.r
  refine ⟨⟨S.t.1, fun t v h => S.t.2 t v (hv t v h)⟩, ?_⟩
  refine ⟨fun b o k h1 h2 => R.heap b o k (ho b o h1) h2, fun b k h => ?_, fun b k h => ?_, fun b b' k o o' h1 h2 h3 h4 => R.inj b b' k o o' h1 h2 (ho _ _ h3) (ho _ _ h4), fun b k h => ?_, ?_, fun b hb => ?_, ?_⟩
  · show b < nxt; rw [← q3]; exact R.lt b k h
  · show b < nxt; rw [← q3]; exact R.klt b k h
  · have := R.new b k h
    rw [q4, q5] at this
    exact this
  · have := R.bel
    rw [q5] at this
    exact this
  · have hb : nxt ≤ b := hb
    cases hg : (putL hp .leaf).get b with
    | none => exact hg
    | some o =>
      have h1 := ho b o hg
      rw [R.fresh b (by rw [q3]; exact hb)] at h1
      cases h1
  · show e.lim = nxt; rw [← q3]; exact R.lim
/-- A part: from a place and a state to another place, with a state that is told. -/
def cutB (c0 : Code) (leaf : LeafT) (j : Nat) (p : List D) (s : St) (p' : List D) (tm : List (Nat × V)) (hp : List (Nat × O)) (nxt : Nat) : Bool :=
  match runP c0 leaf j p s [] with
  | some (.at q, s', []) => decide (q = p') && weakB s' tm hp nxt
  | _ => false
/-- The last part. -/
def endB (P : Program) (fn : Func) (c0 : Code) (leaf : LeafT) (j : Nat) (p : List D) (s : St) : Bool :=
  match runP c0 leaf j p s [] with
  | some (.done .normal, s', mk') => isTrueV (evEnd P fn s' mk')
  | some (.done .ret, s', mk') => isTrueV (evEnd P fn s' mk')
  | _ => false
/-- From there on it ends, and says true. -/
def Ends (P : Program) (fn : Func) (c0 : Code) (p : List D) (s : St) : Prop := ∀ (w0 : World) (e : E) (m : Nat) (a : Act) (w : World), SRel w0 e fn.ntmps s a w → drel e [] a.defers →
  UpOk Fence.wide m P c0 (bodyPostM Fence.wide m P fn (fun en w' => en = .returned (.bool true) ∧ Below w0.heap.size w0 w')) (.at p) a w
theorem cut_ok {P : Program} {fn : Func} {c0 : Code} {leaf : LeafT} (hl : LeafOk P fn.ntmps leaf) {j : Nat} {p p' : List D} {s : St} {tm : List (Nat × V)} {hp : List (Nat × O)} {nxt : Nat} (q : cutB c0 leaf j p s p' tm hp nxt = true) (h : Ends P fn c0 p' (mkSt tm hp nxt)) : Ends P fn c0 p s := by
  intro w0 e m a w S Dr
  unfold cutB at q
  split at q
  · rename_i q' s' hr
    simp only [Bool.and_eq_true, decide_eq_true_eq] at q
    obtain ⟨rfl, q2⟩ := q
    exact runP_ok hl j p s [] e a w S Dr hr (fun e' a' w' h1 h2 h3 => h w0 e' m a' w' (weak_ok h2 q2) h3)
  · cases q
theorem end_ok {P : Program} {fn : Func} {c0 : Code} {leaf : LeafT} (hl : LeafOk P fn.ntmps leaf) {j : Nat} {p : List D} {s : St} (q : endB P fn c0 leaf j p s = true) : Ends P fn c0 p s := by
  intro w0 e m a w S Dr
  have fin : ∀ (s' : St) (mk' : List Nat), isTrueV (evEnd P fn s' mk') = true → ∀ e' a' w', SRel w0 e' fn.ntmps s' a' w' → drel e' mk' a'.defers →
      LeavesInM Fence.wide m P fn a'.tmps (fun en w' => en = .returned (.bool true) ∧ Below w0.heap.size w0 w') a'.defers .returning w' := by
    intro s' mk' hv e' a' w' h2 h3
    unfold isTrueV at hv
    split at hv
    · rename_i h4 hq
      have hlog := List.isEmpty_iff.1 hv
      unfold evEnd at hq
      split at hq
      · rename_i h2' hcl
        split at hq
        · rename_i vs hrs
          simp only [Option.some.injEq, Prod.mk.injEq] at hq
          obtain ⟨hres, rfl⟩ := hq
          refine close_ok mk' _ _ _ h3 h2.r hcl (fun w2 R2 => ?_)
          obtain ⟨x, r1, r2⟩ := run_results (P := P) (s := ⟨s'.tm, _⟩) R2 h2.t hrs
          rw [hres] at r2
          simp only [vrel] at r2
          subst r2
          exact ⟨_, r1, rfl, R2.bel.below (fun k hk => by obtain ⟨b, hb, _⟩ := hk; rw [hlog] at hb; cases hb)⟩
        · cases hq
      · cases hq
    · cases hv
  unfold endB at q
  split at q
  · rename_i s' mk' hr
    exact runP_ok hl j p s [] e a w S Dr hr (fun e' a' w' h1 h2 h3 => fin s' mk' q e' a' w' h2 h3)
  · rename_i s' mk' hr
    exact runP_ok hl j p s [] e a w S Dr hr (fun e' a' w' h1 h2 h3 => fin s' mk' q e' a' w' h2 h3)
  · cases q
theorem closed_of {P : Program} {g : FuncId} {fn : Func} {c0 : Code} (hf : P.funcs[g]? = some fn) (hb : fn.body = some c0) (h : Ends P fn c0 [] ⟨.leaf, ⟨.leaf, 0, 0, []⟩⟩) (W : World) (m : Nat) :
    CallsIn Fence.wide m P g #[] W fun en W' => en = .returned (.bool true) ∧ Below W.heap.size W W' := by
  have R : Rel W ⟨fun _ => none, fun _ => none, 0⟩ ⟨.leaf, 0, 0, []⟩ W :=
    ⟨fun b o k _ hk => (by cases hk), fun b k hk => (by cases hk), fun b k hk => (by cases hk), fun b b' k o o' hk => (by cases hk), fun b k hk => (by cases hk), ⟨rfl, rfl, rfl, Nat.le_refl _, fun _ _ _ => rfl⟩, fun b _ => Tr.get_leaf b, rfl⟩
  refine callsIn_of_wp_marks hf hb trivial ?_
  have T := args_trel (e := ⟨fun _ => none, fun _ => none, 0⟩) (args := []) (xs := []) (n := fn.ntmps) (vrels_nil.2 rfl) (Nat.zero_le _)
  obtain ⟨k, c, h1, h2⟩ := h W ⟨fun _ => none, fun _ => none, 0⟩ m { tmps := (#[] : Array Value) ++ Array.replicate (fn.ntmps - (#[] : Array Value).size) undef, defers := [] } W ⟨T, R⟩ (show drel _ [] [] from rfl)
  cases h1
  exact h2
theorem leafE_ok {P : Program} {call : CallT} {draw : DrawT} {n : Nat} (hc : CallOk P call) (hd : DrawOk P call draw) : LeafOk P n (fun c s mk => evC P call draw n none c s mk) :=
  fun c w0 e m s mk a w ex s' mk' Q S Dr q hQ => evC_ok hc hd c _ _ _ _ _ _ _ _ _ _ _ _ _ _ (show FRel e none Fence.wide from rfl) S Dr q hQ
/-- As the kernel runs it. -/
noncomputable def leafK (P : Program) (ext : ExtT) (spec : SpecT) (d n : Nat) : LeafT := fun c s mk => evKC c P (evCallK P ext spec (drawK P) d) (drawK P (evCallK P ext spec (drawK P) d)) n none s mk
theorem leafK_ok {P : Program} {ext : ExtT} {spec : SpecT} {d n : Nat} (hm : P.follows .mixedOrders = true) (hnm : ∀ (g : FuncId) (fn : Func), P.funcs[g]? = some fn → (fn.name == "runtime.NumGoroutine") = false) (hex : ExtOk P ext) (hsp : SpecOk P spec) : LeafOk P n (leafK P ext spec d n) := by
  have e1 : evCallK P ext spec (drawK P) d = evCall P ext spec (drawF P) d := by rw [evCallK_eq, show drawK P = drawF P from funext fun call => drawK_eq P call]
  have hc := evCall_ok hnm hex hsp (fun call hc => drawF_ok hm hc) d
  have e2 : leafK P ext spec d n = fun c s mk => evC P (evCall P ext spec (drawF P) d) (drawF P (evCall P ext spec (drawF P) d)) n none c s mk := by
    funext c s mk
    unfold leafK
    rw [e1, evKC_eq, evR_op, drawK_eq]
  rw [e2]
  exact leafE_ok hc (drawF_ok hm hc)
/-- Closed functions that are known to say true. -/
def closedSpec (spec : SpecT) (l : List FuncId) : SpecT := fun g => cond (l.any (Nat.beq g)) (some fun h args => match args with
  | [] => some (.bool true, h)
  | _ => none) (spec g)
theorem closedSpec_ok {P : Program} {spec : SpecT} {l : List FuncId} (hsp : SpecOk P spec) (h : ∀ g ∈ l, (∃ fn, P.funcs[g]? = some fn ∧ fn.body.isNone = false) ∧ ∀ W m, CallsIn Fence.wide m P g #[] W fun en W' => en = .returned (.bool true) ∧ Below W.heap.size W W') : SpecOk P (closedSpec spec l) := by
  intro g f hf
  unfold closedSpec at hf
  cases ha : l.any (Nat.beq g) with
  | false => rw [ha] at hf; exact hsp g f hf
  | true =>
    rw [ha] at hf
    cases hf
    obtain ⟨g', hg', hgg⟩ := List.any_eq_true.1 ha
    have := Nat.eq_of_beq_eq_true hgg
    subst this
    obtain ⟨h1, h2⟩ := h g hg'
    refine ⟨h1, fun w0 e hh w args v h' q R xs hv n => ?_⟩
    dsimp only at q
    split at q
    · cases q
      obtain rfl := vrels_nil.1 hv
      refine (h2 w n).mono ?_
      rintro en w' ⟨rfl, hb⟩
      exact ⟨e, _, rfl, E.le.refl e, by simp only [vrel], R.later hb⟩
    · cases q
end Go.Proofs.YtjngkcnanhnopaaGreatDoor.Ev

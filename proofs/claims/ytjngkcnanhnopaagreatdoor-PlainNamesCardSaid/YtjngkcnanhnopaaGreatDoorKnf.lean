import Derived.Test.YtjngkcnanhnopaaGreatDoorKn
/-! The evaluator: code, told by recursors: the same as evC, and the kernel runs it faster. -/
namespace Go.Proofs.YtjngkcnanhnopaaGreatDoor.Ev
open Go Go.RowKit
set_option linter.unusedVariables false
set_option linter.unusedSimpArgs false

def thenO (x : Option St) (k : St → Option St) : Option St := match x with
  | some s => k s
  | none => none
noncomputable def evListR (l : List Oper) : Program → CallT → Array Oper → Nat → St → Option St :=
  List.rec (motive := fun _ => Program → CallT → Array Oper → Nat → St → Option St) (fun _ _ _ _ s => some s) (fun o _ ih P call ops n s => thenO (step1 P call ops n o s) (ih P call ops n)) l
theorem evListR_eq (P : Program) (call : CallT) (ops : Array Oper) (n : Nat) : ∀ (l : List Oper) (s : St), evListR l P call ops n s = evList P call ops n l s
  | [], s => rfl
  | o :: l, s => by
    show thenO (step1 P call ops n o s) (evListR l P call ops n) = _
    simp only [evList]
    cases step1 P call ops n o s with
    | none => rfl
    | some s' => exact evListR_eq P call ops n l s'
abbrev CT := Program → CallT → DrawT → Nat → Option Nat → St → List Nat → Res
def wrapS (o : Option St) (mk : List Nat) : Res := match o with
  | some s' => some (.normal, s', mk)
  | none => none
def thenS (r : Res) (k : St → List Nat → Res) : Res := match r with
  | some (.normal, s', mk') => k s' mk'
  | some (.exit id, s', mk') => some (.exit id, s', mk')
  | some (.goto l, s', mk') => some (.goto l, s', mk')
  | some (.ret, s', mk') => some (.ret, s', mk')
  | none => none
def blockS (id : Nat) (r : Res) : Res := match r with
  | some (.exit id', s', mk') => cond (Nat.beq id' id) (some (.normal, s', mk')) (some (.exit id', s', mk'))
  | some (.normal, s', mk') => some (.normal, s', mk')
  | some (.goto l, s', mk') => some (.goto l, s', mk')
  | some (.ret, s', mk') => some (.ret, s', mk')
  | none => none
def pickS (v : Option V) (x y : Res) : Res := match v with
  | some (.bool true) => x
  | some (.bool false) => y
  | _ => none
noncomputable def loopR (f : Nat) : (St → List Nat → Res) → St → List Nat → Res :=
  Nat.rec (motive := fun _ => (St → List Nat → Res) → St → List Nat → Res) (fun _ _ _ => none) (fun _ ih step s mk => thenS (step s mk) (ih step)) f
theorem loopR_eq (step : St → List Nat → Res) : ∀ (f : Nat) (s : St) (mk : List Nat), loopR f step s mk = loopN step f s mk
  | 0, s, mk => rfl
  | f + 1, s, mk => by
    show thenS (step s mk) (loopR f step) = _
    simp only [loopN]
    cases step s mk with
    | none => rfl
    | some r =>
      obtain ⟨ex, s', mk'⟩ := r
      cases ex with
      | normal => exact loopR_eq step f s' mk'
      | exit id => rfl
      | goto l => rfl
      | ret => rfl
noncomputable def c_region (_ : Nat) (ops : Array Oper) (d : Bool) : CT := fun P call draw n ro s mk => Bool.rec (motive := fun _ => Res) (wrapS (evListR ops.toList P call ops n s) mk) (wrapS (draw ops n s) mk) d
def c_seq (_ _ : Code) (ra rb : CT) : CT := fun P call draw n ro s mk => thenS (ra P call draw n ro s mk) (rb P call draw n ro)
def c_cond (c : Operand) (_ _ : Code) (ra rb : CT) : CT := fun P call draw n ro s mk => pickS (evO s.tm c) (ra P call draw n ro s mk) (rb P call draw n ro s mk)
def c_block (id : Nat) (_ : Code) (ra : CT) : CT := fun P call draw n ro s mk => blockS id (ra P call draw n ro s mk)
noncomputable def c_loop (_ : Code) (ra : CT) : CT := fun P call draw n ro s mk => loopR 100000 (ra P call draw n ro) s mk
def c_range (g : Operand) (ps : Array Tmp) (assign body : Code) (_ _ : CT) : CT := fun P call draw n ro s mk => evC P call draw n ro (.rangeFunc g ps assign body) s mk
def c_scope (b : Code) (ra : CT) : CT := fun P call draw n ro s mk => jumpN (evLab P call draw n ro b) 10000 (ra P call draw n ro s mk)
noncomputable def evR (c : Code) : CT :=
  Code.rec (motive := fun _ => CT)
    (fun _ _ _ _ _ s mk => some (.normal, s, mk))
    c_region
    c_seq
    c_cond
    c_block
    c_loop
    c_range
    (fun id _ _ _ _ _ s mk => some (.exit id, s, mk))
    c_scope
    (fun _ _ _ _ _ _ s mk => some (.normal, s, mk))
    (fun l _ _ _ _ _ s mk => some (.goto l, s, mk))
    (fun _ _ _ _ _ s mk => some (.ret, s, mk))
    (fun _ _ _ _ _ _ _ _ => none)
    c
theorem evR_op (P : Program) (call : CallT) (draw : DrawT) (n : Nat) (ro : Option Nat) : ∀ (c : Code) (s : St) (mk : List Nat), evR c P call draw n ro s mk = evC P call draw n ro c s mk
  | .skip, s, mk => rfl
  | .label _, s, mk => rfl
  | .exit _, s, mk => rfl
  | .goto _, s, mk => rfl
  | .ret, s, mk => rfl
  | .refuse _, s, mk => rfl
  | .rangeFunc g ps as body, s, mk => rfl
  | .region id ops false, s, mk => by
    show wrapS (evListR ops.toList P call ops n s) mk = _
    rw [evListR_eq]
    simp only [evC]
    cases evList P call ops n ops.toList s <;> rfl
  | .region id ops true, s, mk => by
    show wrapS (draw ops n s) mk = _
    simp only [evC]
    cases draw ops n s <;> rfl
  | .seq x y, s, mk => by
    show thenS (evR x P call draw n ro s mk) (evR y P call draw n ro) = _
    rw [evR_op P call draw n ro x]
    simp only [evC]
    cases evC P call draw n ro x s mk with
    | none => rfl
    | some r =>
      obtain ⟨ex, s', mk'⟩ := r
      cases ex with
      | normal => exact evR_op P call draw n ro y s' mk'
      | exit id => rfl
      | goto l => rfl
      | ret => rfl
  | .cond c x y, s, mk => by
    show pickS (evO s.tm c) (evR x P call draw n ro s mk) (evR y P call draw n ro s mk) = _
    rw [evR_op P call draw n ro x, evR_op P call draw n ro y]
    simp only [evC]
    unfold pickS
    split <;> simp_all
  | .block id b, s, mk => by
    show blockS id (evR b P call draw n ro s mk) = _
    rw [evR_op P call draw n ro b]
    simp only [evC]
    rfl
  | .loop b, s, mk => by
    show loopR 100000 (evR b P call draw n ro) s mk = _
    rw [loopR_eq]
    have : evR b P call draw n ro = evC P call draw n ro b := by
      funext s mk
      exact evR_op P call draw n ro b s mk
    rw [this]
    simp only [evC]
  | .scope b, s, mk => by
    show jumpN (evLab P call draw n ro b) 10000 (evR b P call draw n ro s mk) = _
    rw [evR_op P call draw n ro b]
    simp only [evC]
def evRC (c : Code) : CT := fun P call draw n ro s mk => evC P call draw n ro c s mk
@[csimp] theorem evR_eq : @evR = @evRC := by
  funext c P call draw n ro s mk
  exact evR_op P call draw n ro c s mk
end Go.Proofs.YtjngkcnanhnopaaGreatDoor.Ev

import Derived.Test.YtjngkcnanhnopaaGreatDoorKl
/-! The evaluator: which operation it is, told by the recursor, so that the kernel need not lay out all of them. -/
namespace Go.Proofs.YtjngkcnanhnopaaGreatDoor.Ev
open Go Go.RowKit
set_option linter.unusedVariables false
set_option linter.unusedSimpArgs false

def p_move (x : Operand) (P : Program) (h : H) (tm : Tr V) : Option V := evO tm x
def p_assign (x : Operand) (P : Program) (h : H) (tm : Tr V) : Option V := evO tm x
def p_pick (c a b : Operand) (P : Program) (h : H) (tm : Tr V) : Option V := (match evO tm c with
    | some (.bool true) => evO tm a
    | some (.bool false) => evO tm b
    | _ => none)
def p_build (t : TypeId) (parts : Array (Nat × Operand)) (P : Program) (h : H) (tm : Tr V) : Option V := (match evP tm parts.toList with
    | some ps => buildV P t ps
    | none => none)
def p_load (t : TypeId) (a : Operand) (P : Program) (h : H) (tm : Tr V) : Option V := (match evO tm a with
    | some (.ptr (some p)) => loadV P h t p
    | _ => none)
def p_nilCheck (x : Operand) (P : Program) (h : H) (tm : Tr V) : Option V := (match evO tm x with
    | some (.ptr (some p)) => some (.ptr (some p))
    | some (.func (.func f) a c) => some (.func (.func f) a c)
    | some (.yield l) => some (.yield l)
    | some (.iface t v) => some (.iface t v)
    | _ => none)
def p_binOp (op : BinOp) (t : TypeId) (x y : Operand) (_ : TypeId) (P : Program) (h : H) (tm : Tr V) : Option V := (match evO tm x, evO tm y with
    | some .nilIface, some .nilIface => cond (isK x || isK y) (match P.underlying t, op with
      | some (.interface _), .eql => some (.bool true)
      | some (.interface _), .neq => some (.bool false)
      | _, _ => none) none
    | some a, some b => (match binV P op t a b with
      | some v => some v
      | none => ptrNe P h op t a b)
    | _, _ => none)
def p_typeAssert (x : Operand) (_ at' : TypeId) (ok : Bool) (P : Program) (h : H) (tm : Tr V) : Option V := (match P.underlying at', evO tm x with
    | some (.interface _), _ => none
    | some _, some (.iface t v) => cond (Nat.beq t at') (some (cond ok (.tuple [v, .bool true]) v)) (cond ok (match zer P at' with
      | some z => some (.tuple [z, .bool false])
      | none => none) none)
    | some _, some .nilIface => cond ok (match zer P at' with
      | some z => some (.tuple [z, .bool false])
      | none => none) none
    | _, _ => none)
def p_unOp (op : UnOp) (_ : TypeId) (x : Operand) (P : Program) (h : H) (tm : Tr V) : Option V := (match evO tm x with
    | some a => unV op a
    | none => none)
def p_convert (s d : TypeId) (x : Operand) (P : Program) (h : H) (tm : Tr V) : Option V := (match evO tm x with
    | some a => convV P s d a
    | none => none)
def p_makeInterface (t : TypeId) (x : Operand) (P : Program) (h : H) (tm : Tr V) : Option V := (match P.underlying t, evO tm x with
    | some (.interface _), _ => none
    | some _, some a => some (.iface t a)
    | _, _ => none)
def p_makeFunc (fn : Fn) (f c : Array Operand) (P : Program) (h : H) (tm : Tr V) : Option V := (match evL tm f.toList, evL tm c.toList with
    | some f, some c => some (.func fn f c)
    | _, _ => none)
def p_slice (t : TypeId) (x : Operand) (lo hi mx : Option Operand) (P : Program) (h : H) (tm : Tr V) : Option V := (match evO tm x, evOO tm lo, evOO tm hi, evOO tm mx with
    | some x, some lo, some hi, some mx => sliceV P t x lo hi mx
    | _, _, _, _ => none)
def p_fieldAddr (s : TypeId) (x : Operand) (f : Nat) (P : Program) (h : H) (tm : Tr V) : Option V := (match evO tm x with
    | some a => fieldA P s a f
    | none => none)
def p_field (t : TypeId) (x : Operand) (f : Nat) (P : Program) (h : H) (tm : Tr V) : Option V := (match evO tm x with
    | some a => fieldV P t a f
    | none => none)
def p_indexAddr (t : TypeId) (x i : Operand) (P : Program) (h : H) (tm : Tr V) : Option V := (match evO tm x, evO tm i with
    | some a, some b => idxA P t a b
    | _, _ => none)
def p_index (t : TypeId) (x i : Operand) (P : Program) (h : H) (tm : Tr V) : Option V := (match evO tm x, evO tm i with
    | some a, some b => idxV P t a b
    | _, _ => none)
def p_lookup (t : TypeId) (x i : Operand) (ok : Bool) (P : Program) (h : H) (tm : Tr V) : Option V := (match evO tm x, evO tm i with
    | some a, some b => lookV P h t a b ok
    | _, _ => none)
def p_extract (t : Operand) (i : Nat) (P : Program) (h : H) (tm : Tr V) : Option V := (match evO tm t with
    | some (.tuple vs) => vs[i]?
    | _ => none)
def p_entry (it : Operand) (P : Program) (h : H) (tm : Tr V) : Option V := (match evO tm it with
    | some (.ptr (some (b, 0))) => (match h.get b with
      | some (.iter (some m) _ seen ls) => (match h.get m, seen.getLast? with
        | some (.map es ls'), some s => cond (sameLs ls ls') (match es.find? (fun e => Nat.beq e.2.2 s) with
          | some (k, v, _) => some (.tuple [k, v])
          | none => none) none
        | _, _ => none)
      | _ => none)
    | _ => none)
def p_call (c : Call) (P : Program) (h : H) (tm : Tr V) : Option V := (match c.callee, evL tm c.args.toList with
    | .builtin .len, some [x] => (match c.argTypes[0]? with
      | some t => lenV P h t x
      | none => none)
    | .builtin .cap, some [x] => (match c.argTypes[0]? with
      | some t => capV P t x
      | none => none)
    | .builtin .min, some (x :: l) => minL x l
    | .builtin .max, some (x :: l) => maxL x l
    | _, _ => none)
noncomputable def pureF (op : Op) : Program → H → Tr V → Option V :=
  Op.rec (motive := fun _ => Program → H → Tr V → Option V)
    p_move
    p_assign
    p_pick
    (fun _ _ _ _ => none)
    (fun _ _ _ _ _ => none)
    p_build
    (fun _ _ _ _ _ _ => none)
    (fun _ _ _ _ _ _ _ => none)
    p_load
    (fun _ _ _ _ _ _ => none)
    (fun _ _ _ _ => none)
    (fun _ _ _ _ => none)
    p_nilCheck
    p_binOp
    p_unOp
    p_convert
    (fun _ _ _ _ _ => none)
    p_makeInterface
    p_makeFunc
    (fun _ _ _ _ _ => none)
    (fun _ _ _ _ _ => none)
    (fun _ _ _ _ _ _ => none)
    p_slice
    p_fieldAddr
    p_field
    p_indexAddr
    p_index
    p_lookup
    (fun _ _ _ _ _ _ _ => none)
    (fun _ _ _ _ _ _ => none)
    (fun _ _ _ _ _ _ _ => none)
    (fun _ _ _ _ _ => none)
    (fun _ _ _ _ _ => none)
    p_entry
    p_typeAssert
    p_extract
    p_call
    (fun _ _ _ _ => none)
    (fun _ _ _ _ => none)
    (fun _ _ _ _ => none)
    (fun _ _ _ _ _ => none)
    (fun _ _ _ _ _ _ => none)
    (fun _ _ _ _ _ => none)
    op
def pureFC (op : Op) (P : Program) (h : H) (tm : Tr V) : Option V := pureOp P h tm op
@[csimp] theorem pureF_eq : @pureF = @pureFC := by
  funext op P h tm
  cases op <;> rfl
def wrapP (o : Option V) (h : H) : Option (V × H) := match o with
  | some v => some (v, h)
  | none => none
def wrapA (o : Option (O × (Nat → V))) (h : H) : Option (V × H) := match o with
  | some (ob, mk) => some (mk h.nxt, h.new ob)
  | none => none
def e_store (t : TypeId) (a x : Operand) (P : Program) (call : CallT) (h : H) (tm : Tr V) : Option (V × H) := match evO tm a, evO tm x with
    | some (.ptr (some p)), some v => (match sz P t with
      | some n => cond (v.ok && Nat.beq v.cells.length n) (match storeN h p v.cells with
        | some h' => some (.tuple [], h')
        | none => none) none
      | none => none)
    | _, _ => none
def e_val (f : Operand) (c : Call) (call : CallT) (h : H) (tm : Tr V) : Option (V × H) := match evL tm c.args.toList with
  | some args => (match evO tm f with
    | some fv => callV call h fv args
    | none => none)
  | none => none
def e_call (c : Call) (P : Program) (call : CallT) (h : H) (tm : Tr V) : Option (V × H) := match c.callee with
  | .value f => e_val f c call h tm
  | .builtin .len => wrapP (p_call c P h tm) h
  | .builtin .cap => wrapP (p_call c P h tm) h
  | .builtin .min => wrapP (p_call c P h tm) h
  | .builtin .max => wrapP (p_call c P h tm) h
  | _ => effOp P call h tm (.call c)
noncomputable def evF (op : Op) : Program → CallT → H → Tr V → Option (V × H) :=
  Op.rec (motive := fun _ => Program → CallT → H → Tr V → Option (V × H))
    (fun a P _ h tm => wrapP (p_move a P h tm) h)
    (fun a P _ h tm => wrapP (p_assign a P h tm) h)
    (fun a b c P _ h tm => wrapP (p_pick a b c P h tm) h)
    (fun a P _ h tm => wrapA (allocOp P h tm (.alloc a)) h)
    (fun a b P _ h tm => wrapA (allocOp P h tm (.box a b)) h)
    (fun a b P _ h tm => wrapP (p_build a b P h tm) h)
    (fun a b c P _ h tm => wrapA (allocOp P h tm (.buildSlice a b c)) h)
    (fun a b c d P call h tm => effOp P call h tm (.insert a b c d))
    (fun a b P _ h tm => wrapP (p_load a b P h tm) h)
    e_store
    (fun _ _ _ _ _ => none)
    (fun _ _ _ _ _ => none)
    (fun a P _ h tm => wrapP (p_nilCheck a P h tm) h)
    (fun a b c d e P _ h tm => wrapP (p_binOp a b c d e P h tm) h)
    (fun a b c P _ h tm => wrapP (p_unOp a b c P h tm) h)
    (fun a b c P _ h tm => wrapP (p_convert a b c P h tm) h)
    (fun _ _ _ _ _ _ => none)
    (fun a b P _ h tm => wrapP (p_makeInterface a b P h tm) h)
    (fun a b c P _ h tm => wrapP (p_makeFunc a b c P h tm) h)
    (fun a b P _ h tm => wrapA (allocOp P h tm (.makeMap a b)) h)
    (fun _ _ _ _ _ _ => none)
    (fun a b c P _ h tm => wrapA (allocOp P h tm (.makeSlice a b c)) h)
    (fun a b c d e P _ h tm => wrapP (p_slice a b c d e P h tm) h)
    (fun a b c P _ h tm => wrapP (p_fieldAddr a b c P h tm) h)
    (fun a b c P _ h tm => wrapP (p_field a b c P h tm) h)
    (fun a b c P _ h tm => wrapP (p_indexAddr a b c P h tm) h)
    (fun a b c P _ h tm => wrapP (p_index a b c P h tm) h)
    (fun a b c d P _ h tm => wrapP (p_lookup a b c d P h tm) h)
    (fun a b c d P call h tm => effOp P call h tm (.mapUpdate a b c d))
    (fun a b c P call h tm => effOp P call h tm (.mapEntry a b c))
    (fun a b c d P call h tm => effOp P call h tm (.entryStore a b c d))
    (fun a b P _ h tm => wrapA (allocOp P h tm (.range a b)) h)
    (fun a b P call h tm => effOp P call h tm (.next a b))
    (fun a P _ h tm => wrapP (p_entry a P h tm) h)
    (fun a b c d P _ h tm => wrapP (p_typeAssert a b c d P h tm) h)
    (fun a b P _ h tm => wrapP (p_extract a b P h tm) h)
    e_call
    (fun _ _ _ _ _ => none)
    (fun _ _ _ _ _ => none)
    (fun _ _ _ _ _ => none)
    (fun _ _ _ _ _ _ => none)
    (fun _ _ _ _ _ _ _ => none)
    (fun _ _ _ _ _ _ => none)
    op
theorem e_call_eq (c : Call) (P : Program) (call : CallT) (h : H) (tm : Tr V) : e_call c P call h tm = evOp P call h tm (.call c) := by
  obtain ⟨callee, args, ats⟩ := c
  cases callee with
  | builtin b => cases b <;> rfl
  | invoke r n => rfl
  | value f =>
    show e_val f _ call h tm = effOp P call h tm (.call _)
    unfold e_val effOp
    simp only
    cases evL tm args.toList <;> rfl
def evFC (op : Op) (P : Program) (call : CallT) (h : H) (tm : Tr V) : Option (V × H) := evOp P call h tm op
theorem evF_op (op : Op) (P : Program) (call : CallT) (h : H) (tm : Tr V) : evF op P call h tm = evOp P call h tm op := by
  cases op
  case call c => exact e_call_eq c P call h tm
  all_goals rfl
@[csimp] theorem evF_eq : @evF = @evFC := by
  funext op P call h tm
  exact evF_op op P call h tm
end Go.Proofs.YtjngkcnanhnopaaGreatDoor.Ev

import Derived.Test.YtjngkcnanhnopaaGreatDoorKo
/-! The evaluator: a region whose order Go leaves open: one order is gone; what may come later is held against what it was. -/
namespace Go.Proofs.YtjngkcnanhnopaaGreatDoor.Ev
open Go Go.RowKit
set_option linter.unusedVariables false
set_option linter.unusedSimpArgs false

def sameC : Cap → Cap → Bool
  | .exact a, .exact b => Nat.beq a b
  | .upto a m, .upto b m' => Nat.beq a b && Nat.beq m m'
  | .tail a, .tail b => Nat.beq a b
  | _, _ => false
def sameA : Option (Nat × Nat) → Option (Nat × Nat) → Bool
  | none, none => true
  | some a, some b => Nat.beq a.1 b.1 && Nat.beq a.2 b.2
  | _, _ => false
theorem sameC_eq : ∀ {a b : Cap}, sameC a b = true → a = b
  | .exact a, .exact b, h => congrArg _ (Nat.eq_of_beq_eq_true h)
  | .upto a m, .upto b m', h => by
    simp only [sameC, Bool.and_eq_true] at h
    rw [Nat.eq_of_beq_eq_true h.1, Nat.eq_of_beq_eq_true h.2]
  | .tail a, .tail b, h => congrArg _ (Nat.eq_of_beq_eq_true h)
  | .exact _, .upto _ _, h => nomatch h
  | .exact _, .tail _, h => nomatch h
  | .upto _ _, .exact _, h => nomatch h
  | .upto _ _, .tail _, h => nomatch h
  | .tail _, .exact _, h => nomatch h
  | .tail _, .upto _ _, h => nomatch h
theorem sameA_eq : ∀ {a b : Option (Nat × Nat)}, sameA a b = true → a = b
  | none, none, _ => rfl
  | some (a, b), some (c, d), h => by
    simp only [sameA, Bool.and_eq_true] at h
    rw [Nat.eq_of_beq_eq_true h.1, Nat.eq_of_beq_eq_true h.2]
  | none, some _, h => nomatch h
  | some _, none, h => nomatch h
mutual
def sameV : V → V → Bool
  | .bool a, .bool b => decide (a = b)
  | .int k a, .int k' b => decide (k = k') && decide (a = b)
  | .str a, .str b => decide (a = b)
  | .ptr a, .ptr b => sameA a b
  | .slice a n c, .slice a' n' c' => sameA a a' && Nat.beq n n' && sameC c c'
  | .map a, .map b => sameLs a b
  | .func fn f c, .func fn' f' c' => decide (fn = fn') && sameVs f f' && sameVs c c'
  | .yield a, .yield b => Nat.beq a b
  | .nilFunc, .nilFunc => true
  | .iface t x, .iface u y => Nat.beq t u && sameV x y
  | .nilIface, .nilIface => true
  | .agg a, .agg b => sameVs a b
  | .tuple a, .tuple b => sameVs a b
  | .stamp a, .stamp b => Nat.beq a b
  | .junk, .junk => true
  | _, _ => false
def sameVs : List V → List V → Bool
  | [], [] => true
  | a :: l, b :: r => sameV a b && sameVs l r
  | _, _ => false
end
mutual
theorem sameV_eq : ∀ (a b : V), sameV a b = true → a = b
  | .bool a, b, h => by cases b <;> simp [sameV] at h; rw [h]
  | .int k a, b, h => by
    cases b <;> simp [sameV] at h
    rw [h.1, h.2]
  | .str a, b, h => by cases b <;> simp [sameV] at h; rw [h]
  | .ptr a, b, h => by cases b <;> simp [sameV] at h; rw [sameA_eq h]
  | .slice a n c, b, h => by
    cases b <;> simp only [sameV, Bool.and_eq_true] at h <;> first
      | (rw [sameA_eq h.1.1, Nat.eq_of_beq_eq_true h.1.2, sameC_eq h.2])
      | (cases h)
  | .map a, b, h => by cases b <;> simp [sameV] at h; rw [sameLs_eq h]
  | .func fn f c, b, h => by
    cases b <;> simp only [sameV, Bool.and_eq_true, decide_eq_true_eq] at h <;> first
      | (rw [h.1.1, sameVs_eq f _ h.1.2, sameVs_eq c _ h.2])
      | (cases h)
  | .yield a, b, h => by cases b <;> simp [sameV] at h; rw [h]
  | .nilFunc, b, h => by cases b <;> simp [sameV] at h; rfl
  | .iface t x, b, h => by
    cases b <;> simp only [sameV, Bool.and_eq_true] at h <;> first
      | (rw [Nat.eq_of_beq_eq_true h.1, sameV_eq x _ h.2])
      | (cases h)
  | .nilIface, b, h => by cases b <;> simp [sameV] at h; rfl
  | .agg a, b, h => by cases b <;> simp [sameV] at h; rw [sameVs_eq a _ h]
  | .tuple a, b, h => by cases b <;> simp [sameV] at h; rw [sameVs_eq a _ h]
  | .stamp a, b, h => by cases b <;> simp [sameV] at h; rw [h]
  | .junk, b, h => by cases b <;> simp [sameV] at h; rfl
theorem sameVs_eq : ∀ (a b : List V), sameVs a b = true → a = b
  | [], [], _ => rfl
  | [], _ :: _, h => by simp [sameVs] at h
  | _ :: _, [], h => by simp [sameVs] at h
  | a :: l, b :: r, h => by
    simp only [sameVs, Bool.and_eq_true] at h
    rw [sameV_eq a b h.1, sameVs_eq l r h.2]
end
def sameO : O → O → Bool
  | .cells l t none, .cells l' t' none => sameVs l l' && Nat.beq t t'
  | .map [] none, .map [] none => true
  | .iter m o s ls, .iter m' o' s' ls' => sameLs m m' && decide (o = o') && decide (s = s') && sameLs ls ls'
  | _, _ => false
theorem sameO_eq : ∀ (a b : O), sameO a b = true → a = b := by
  intro a b h
  unfold sameO at h
  split at h
  · simp only [Bool.and_eq_true] at h
    rw [sameVs_eq _ _ h.1, Nat.eq_of_beq_eq_true h.2]
  · rfl
  · simp only [Bool.and_eq_true, decide_eq_true_eq] at h
    rw [sameLs_eq h.1.1.1, h.1.1.2, h.1.2, sameLs_eq h.2]
  · cases h
/-- An operation, its place, and all that come ahead of it, as bits. -/
structure It where
  i : Nat
  o : Oper
  m : Nat
def maskOf (ms : List Nat) (o : Oper) : Nat := o.after.toList.foldl (fun s (ed : Edge) => cond (Region.binds .any ed) (s ||| (2 ^ ed.on ||| ms.getD ed.on 0)) s) 0
def itemsGo : Nat → List Oper → List Nat → List It
  | _, [], _ => []
  | i, o :: l, ms => ⟨i, o, maskOf ms o⟩ :: itemsGo (i + 1) l (ms ++ [maskOf ms o])
inductive PK where
  | val (v : V)
  | new (b : Nat) (ob : O) (v : V)
  | skip
structure PI where
  i : Nat
  o : Oper
  k : PK
def PK.v : PK → V
  | .val v => v
  | .new _ _ v => v
  | .skip => .tuple []
def isTrue : Option Bool → Bool
  | some true => true
  | _ => false
def isFalse : Option Bool → Bool
  | some false => true
  | _ => false
def isEff (op : Op) : Bool :=
  match op with
  | .assign _ => true
  | op => (match cls op with
    | .eff => true
    | _ => false)
/-- Would an operation that has come up ahead of others come to the same behind them? -/
def chk (P : Program) (ops : Array Oper) (n : Nat) (s : St) (p : PI) : Bool :=
  (match p.o.dst with
    | none => true
    | some d => Nat.blt d n && (match s.tm.get d with
      | some u => sameV u p.k.v
      | none => false)) &&
  (match p.k with
    | .val v => !isEff p.o.op && isTrue (wantV ops s.tm p.o) && (match cls p.o.op, pureOp P s.h s.tm p.o.op with
      | .pure, some v' => sameV v' v
      | _, _ => false)
    | .new b ob v => !isEff p.o.op && isTrue (wantV ops s.tm p.o) && (match cls p.o.op, allocOp P s.h s.tm p.o.op with
      | .alloc, some (ob', mk) => sameO ob' ob && sameV (mk b) v
      | _, _ => false) && (match s.h.get b with
        | some ob' => sameO ob' ob
        | none => false)
    | .skip => isFalse (wantV ops s.tm p.o))
def rdy (done : Nat) (it : It) : Bool := !(done.testBit it.i) && Nat.beq (it.m &&& done) it.m
def freeB (ops : Array Oper) (s : St) (it : It) : Bool :=
  match wantV ops s.tm it.o with
  | some false => true
  | some true => !isEff it.o.op
  | none => false
def ssaB (ops : Array Oper) (its : List It) : Bool :=
  its.all fun p => match p.o.dst with
    | none => true
    | some d => (isEff p.o.op && p.o.guard.isNone) || its.all fun q => (Nat.beq p.i q.i || (match q.o.dst with
      | some d' => !Nat.beq d' d
      | none => true)) && (!((q.o.looksAt ops).contains d) || q.m.testBit p.i)
def lowB (its : List It) : Bool := its.all fun it => it.o.after.toList.all fun ed => !(Region.binds .any ed) || Nat.blt ed.on it.i
/-- An operation that has come up ahead of others. -/
def freeS (P : Program) (ops : Array Oper) (n : Nat) (s : St) (it : It) : Option (St × PK) :=
  match wantV ops s.tm it.o with
  | some false => (match putO n s.tm it.o.dst (.tuple []) with
    | some tm => some (⟨tm, s.h⟩, .skip)
    | none => none)
  | some true => (match cls it.o.op with
    | .pure => (match pureOp P s.h s.tm it.o.op with
      | some v => (match putO n s.tm it.o.dst v with
        | some tm => some (⟨tm, s.h⟩, .val v)
        | none => none)
      | none => none)
    | .alloc => (match allocOp P s.h s.tm it.o.op with
      | some (ob, mk) => (match putO n s.tm it.o.dst (mk s.h.nxt) with
        | some tm => some (⟨tm, s.h.new ob⟩, .new s.h.nxt ob (mk s.h.nxt))
        | none => none)
      | none => none)
    | .eff => none)
  | none => none
def stepD (P : Program) (call : CallT) (ops : Array Oper) (n : Nat) (its : List It) : Nat → Nat → List PI → St → Option St
  | 0, _, _, _ => none
  | f + 1, done, pend, s =>
    match its.find? (fun it => rdy done it && freeB ops s it) with
    | some it => (match freeS P ops n s it with
      | some (s', k) => cond ((⟨it.i, it.o, k⟩ :: pend).all (chk P ops n s')) (stepD P call ops n its f (done ||| 2 ^ it.i) (⟨it.i, it.o, k⟩ :: pend) s') none
      | none => none)
    | none => (match its.filter (rdy done) with
      | [it] => (match step1 P call ops n it.o s with
        | some s' => cond ((pend.filter fun p => !(it.m.testBit p.i)).all (chk P ops n s')) (stepD P call ops n its f (done ||| 2 ^ it.i) (pend.filter fun p => !(it.m.testBit p.i)) s') none
        | none => none)
      | [] => cond (its.all fun it => done.testBit it.i) (some s) none
      | _ => none)
def drawV (P : Program) (call : CallT) : DrawT := fun ops n s =>
  cond (ssaB ops (itemsGo 0 ops.toList []) && lowB (itemsGo 0 ops.toList [])) (stepD P call ops n (itemsGo 0 ops.toList []) (ops.size + 1) 0 [] s) none
end Go.Proofs.YtjngkcnanhnopaaGreatDoor.Ev

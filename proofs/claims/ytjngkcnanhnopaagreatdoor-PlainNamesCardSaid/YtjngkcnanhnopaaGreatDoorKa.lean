import Derived.WalkKit
import Derived.RangeFuncLeaves
import Derived.OrdersIn
import Derived.Laws.CopyRow
import Derived.Laws.IdiomRangeMap
import Derived.Laws.OwnMore
import Derived.Laws.Tables
/-! The evaluator: abstract values, the abstract heap (a tree of numbers), what they stand for in a world. -/
namespace Go.Proofs.YtjngkcnanhnopaaGreatDoor.Ev
open Go
set_option linter.unusedVariables false
set_option linter.unusedSimpArgs false

/-- A slice's capacity: a number, or whatever its array has from an element on. -/
inductive Cap where
  | exact (n : Nat)
  | upto (o m : Nat)
  | tail (o : Nat)
inductive V where
  | bool (b : Bool)
  | int (k : IntKind) (n : Int)
  | str (s : List UInt8)
  | ptr (a : Option (Nat × Nat))
  | slice (a : Option (Nat × Nat)) (len : Nat) (cap : Cap)
  | map (r : Option Nat)
  | func (fn : Fn) (first captured : List V)
  | yield (l : Nat)
  | nilFunc
  | iface (t : TypeId) (v : V)
  | nilIface
  | agg (cs : List V)
  | tuple (vs : List V)
  | stamp (s : Nat)
  | junk
  deriving Inhabited
/-- A tree of numbers, two ways at each node. -/
inductive Bt (α : Type) where
  | leaf
  | node (l : Bt α) (o : Option α) (r : Bt α)
/-- What the compiler runs; the kernel goes by the recursors below. -/
def Bt.getC {α : Type} : Bt α → Nat → Option α
  | .leaf, _ => none
  | .node _ o _, 0 => o
  | .node l _ r, k + 1 => match Nat.beq (Nat.mod k 2) 1 with
    | true => Bt.getC r (Nat.div k 2)
    | false => Bt.getC l (Nat.div k 2)
noncomputable def Bt.get {α : Type} (t : Bt α) : Nat → Option α :=
  Bt.rec (motive := fun _ => Nat → Option α) (fun _ => none) (fun _ o _ ihl ihr n => Nat.rec (motive := fun _ => Option α) o (fun k _ => Bool.rec (motive := fun _ => Option α) (ihl (Nat.div k 2)) (ihr (Nat.div k 2)) (Nat.beq (Nat.mod k 2) 1)) n) t
theorem Bt.get_zero {α : Type} (l : Bt α) (o : Option α) (r : Bt α) : (Bt.node l o r).get 0 = o := rfl
theorem Bt.get_succ {α : Type} (l : Bt α) (o : Option α) (r : Bt α) (k : Nat) : (Bt.node l o r).get (k + 1) = match Nat.beq (Nat.mod k 2) 1 with
    | true => r.get (Nat.div k 2)
    | false => l.get (Nat.div k 2) := by
  show Bool.rec (motive := fun _ => Option α) (l.get (Nat.div k 2)) (r.get (Nat.div k 2)) (Nat.beq (Nat.mod k 2) 1) = _
  cases Nat.beq (Nat.mod k 2) 1 <;> rfl
@[csimp] theorem Bt.get_eq : @Bt.get = @Bt.getC := by
  funext α t n
  induction t generalizing n with
  | leaf => rfl
  | node l o r ihl ihr =>
    cases n with
    | zero => rfl
    | succ k =>
      rw [Bt.get_succ]
      simp only [Bt.getC]
      cases Nat.beq (Nat.mod k 2) 1
      · exact ihl _
      · exact ihr _
def Bt.putC {α : Type} (v : Option α) : Nat → Bt α → Nat → Bt α
  | 0, t, _ => t
  | _ + 1, .leaf, 0 => .node .leaf v .leaf
  | f + 1, .leaf, k + 1 => match Nat.beq (Nat.mod k 2) 1 with
    | true => .node .leaf none (Bt.putC v f .leaf (Nat.div k 2))
    | false => .node (Bt.putC v f .leaf (Nat.div k 2)) none .leaf
  | _ + 1, .node l _ r, 0 => .node l v r
  | f + 1, .node l o r, k + 1 => match Nat.beq (Nat.mod k 2) 1 with
    | true => .node l o (Bt.putC v f r (Nat.div k 2))
    | false => .node (Bt.putC v f l (Nat.div k 2)) o r
noncomputable def Bt.put {α : Type} (v : Option α) (f : Nat) : Bt α → Nat → Bt α :=
  Nat.rec (motive := fun _ => Bt α → Nat → Bt α) (fun t _ => t)
    (fun _ ih t n => Nat.rec (motive := fun _ => Bt α)
      (Bt.rec (motive := fun _ => Bt α) (.node .leaf v .leaf) (fun l _ r _ _ => .node l v r) t)
      (fun k _ => Bool.rec (motive := fun _ => Bt α)
        (Bt.rec (motive := fun _ => Bt α) (.node (ih .leaf (Nat.div k 2)) none .leaf) (fun l o r _ _ => .node (ih l (Nat.div k 2)) o r) t)
        (Bt.rec (motive := fun _ => Bt α) (.node .leaf none (ih .leaf (Nat.div k 2))) (fun l o r _ _ => .node l o (ih r (Nat.div k 2))) t)
        (Nat.beq (Nat.mod k 2) 1)) n) f
theorem Bt.put_leaf {α : Type} (v : Option α) (f n : Nat) : Bt.put v (f + 1) .leaf n = Bt.put v (f + 1) (.node .leaf none .leaf) n := by cases n <;> rfl
theorem Bt.put_zero {α : Type} (v : Option α) (f : Nat) (l : Bt α) (o : Option α) (r : Bt α) : Bt.put v (f + 1) (.node l o r) 0 = .node l v r := rfl
theorem Bt.put_succ {α : Type} (v : Option α) (f : Nat) (l : Bt α) (o : Option α) (r : Bt α) (k : Nat) : Bt.put v (f + 1) (.node l o r) (k + 1) = match Nat.beq (Nat.mod k 2) 1 with
    | true => .node l o (Bt.put v f r (Nat.div k 2))
    | false => .node (Bt.put v f l (Nat.div k 2)) o r := by
  show Bool.rec (motive := fun _ => Bt α) (.node (Bt.put v f l (Nat.div k 2)) o r) (.node l o (Bt.put v f r (Nat.div k 2))) (Nat.beq (Nat.mod k 2) 1) = _
  cases Nat.beq (Nat.mod k 2) 1 <;> rfl
@[csimp] theorem Bt.put_eq : @Bt.put = @Bt.putC := by
  funext α v f t n
  induction f generalizing t n with
  | zero => rfl
  | succ f ih =>
    cases t with
    | leaf =>
      cases n with
      | zero => rfl
      | succ k =>
        rw [Bt.put_leaf, Bt.put_succ]
        simp only [Bt.putC]
        cases Nat.beq (Nat.mod k 2) 1 <;> simp only [ih]
    | node l o r =>
      cases n with
      | zero => rfl
      | succ k =>
        rw [Bt.put_succ]
        simp only [Bt.putC]
        cases Nat.beq (Nat.mod k 2) 1 <;> simp only [ih]
def Bt.set {α : Type} (t : Bt α) (n : Nat) (v : Option α) : Bt α := Bt.put v (n + 1) t n
theorem Bt.get_put {α : Type} (v : Option α) : ∀ (f : Nat) (t : Bt α) (n m : Nat), n < f → (Bt.put v f t n).get m = if m = n then v else t.get m
  | 0, t, n, m, h => by omega
  | f + 1, t, n, m, h => by
    have key : ∀ (l : Bt α) (o : Option α) (r : Bt α), (Bt.put v (f + 1) (.node l o r) n).get m = if m = n then v else (Bt.node l o r).get m := by
      intro l o r
      cases n with
      | zero =>
        rw [Bt.put_zero]
        cases m with
        | zero => rw [if_pos rfl]; rfl
        | succ m => rw [if_neg (by omega), Bt.get_succ, Bt.get_succ]
      | succ n =>
        rw [Bt.put_succ]
        have hn : Nat.div n 2 = n / 2 := rfl
        have hnm : Nat.mod n 2 = n % 2 := rfl
        cases hp : Nat.beq (Nat.mod n 2) 1 with
        | true =>
          have hp' := Nat.eq_of_beq_eq_true hp
          rw [hnm] at hp'
          cases m with
          | zero => rw [if_neg (by omega)]; rfl
          | succ m =>
            have hm : Nat.div m 2 = m / 2 := rfl
            have hmm : Nat.mod m 2 = m % 2 := rfl
            show (Bt.node l o (Bt.put v f r (Nat.div n 2))).get (m + 1) = _
            rw [Bt.get_succ, Bt.get_succ]
            cases hq : Nat.beq (Nat.mod m 2) 1 with
            | true =>
              have hq' := Nat.eq_of_beq_eq_true hq
              rw [hmm] at hq'
              show (Bt.put v f r (Nat.div n 2)).get (Nat.div m 2) = if m + 1 = n + 1 then v else r.get (Nat.div m 2)
              rw [Bt.get_put v f r (Nat.div n 2) (Nat.div m 2) (by omega), hn, hm]
              by_cases e : m = n
              · subst e; simp
              · rw [if_neg (by omega), if_neg (by omega)]
            | false =>
              have hq' : m % 2 ≠ 1 := fun e => by rw [hmm, e] at hq; simp at hq
              rw [if_neg (fun e => by cases e; exact hq' hp')]
        | false =>
          have hp' : n % 2 ≠ 1 := fun e => by rw [hnm, e] at hp; simp at hp
          cases m with
          | zero => rw [if_neg (by omega)]; rfl
          | succ m =>
            have hm : Nat.div m 2 = m / 2 := rfl
            have hmm : Nat.mod m 2 = m % 2 := rfl
            show (Bt.node (Bt.put v f l (Nat.div n 2)) o r).get (m + 1) = _
            rw [Bt.get_succ, Bt.get_succ]
            cases hq : Nat.beq (Nat.mod m 2) 1 with
            | true =>
              have hq' := Nat.eq_of_beq_eq_true hq
              rw [hmm] at hq'
              rw [if_neg (fun e => by cases e; exact hp' hq')]
            | false =>
              show (Bt.put v f l (Nat.div n 2)).get (Nat.div m 2) = if m + 1 = n + 1 then v else l.get (Nat.div m 2)
              have hq' : m % 2 ≠ 1 := fun e => by rw [hmm, e] at hq; simp at hq
              rw [Bt.get_put v f l (Nat.div n 2) (Nat.div m 2) (by omega), hn, hm]
              by_cases e : m = n
              · subst e; simp
              · rw [if_neg (by omega), if_neg (by omega)]
    cases t with
    | leaf =>
      rw [Bt.put_leaf, key .leaf none .leaf]
      have : (Bt.node .leaf none .leaf : Bt α).get m = (Bt.leaf : Bt α).get m := by
        cases m with
        | zero => rfl
        | succ m => rw [Bt.get_succ]; cases Nat.beq (Nat.mod m 2) 1 <;> rfl
      rw [this]
    | node l o r => exact key l o r
theorem Bt.get_set {α : Type} (t : Bt α) (n m : Nat) (v : Option α) : (t.set n v).get m = if m = n then v else t.get m := Bt.get_put v (n + 1) t n m (by omega)

theorem Bt.get_leaf {α : Type} (n : Nat) : (Bt.leaf : Bt α).get n = none := rfl
theorem first_lt {a b : Nat} {c : Bool} (h : Nat.blt a b = c) : a < b ↔ c = true := by
  cases c with
  | true => exact Iff.intro (fun _ => rfl) (fun _ => Nat.le_of_ble_eq_true h)
  | false =>
    refine Iff.intro (fun h' => ?_) (fun h' => nomatch h')
    have q : Nat.blt a b = true := Nat.ble_eq_true_of_le h'
    rw [q] at h
    cases h
/-- Sixteen of a kind. -/
inductive N16 (β : Type) where
  | mk (a0 a1 a2 a3 a4 a5 a6 a7 a8 a9 a10 a11 a12 a13 a14 a15 : β)
/-- Who takes one of them; who changes one of them. Each is a closed term: the kernel works it out once. -/
structure Sel (β : Type) where
  f : N16 β → β
structure Upd (β : Type) where
  f : (β → β) → N16 β → N16 β
noncomputable def selS {β : Type} (d : Nat) : Sel β := (Nat.rec (motive := fun _ => Sel β) (Sel.mk (fun x => N16.rec (motive := fun _ => β) (fun a0 a1 a2 a3 a4 a5 a6 a7 a8 a9 a10 a11 a12 a13 a14 a15 => a0) x)) (fun d1 _ => (Nat.rec (motive := fun _ => Sel β) (Sel.mk (fun x => N16.rec (motive := fun _ => β) (fun a0 a1 a2 a3 a4 a5 a6 a7 a8 a9 a10 a11 a12 a13 a14 a15 => a1) x)) (fun d2 _ => (Nat.rec (motive := fun _ => Sel β) (Sel.mk (fun x => N16.rec (motive := fun _ => β) (fun a0 a1 a2 a3 a4 a5 a6 a7 a8 a9 a10 a11 a12 a13 a14 a15 => a2) x)) (fun d3 _ => (Nat.rec (motive := fun _ => Sel β) (Sel.mk (fun x => N16.rec (motive := fun _ => β) (fun a0 a1 a2 a3 a4 a5 a6 a7 a8 a9 a10 a11 a12 a13 a14 a15 => a3) x)) (fun d4 _ => (Nat.rec (motive := fun _ => Sel β) (Sel.mk (fun x => N16.rec (motive := fun _ => β) (fun a0 a1 a2 a3 a4 a5 a6 a7 a8 a9 a10 a11 a12 a13 a14 a15 => a4) x)) (fun d5 _ => (Nat.rec (motive := fun _ => Sel β) (Sel.mk (fun x => N16.rec (motive := fun _ => β) (fun a0 a1 a2 a3 a4 a5 a6 a7 a8 a9 a10 a11 a12 a13 a14 a15 => a5) x)) (fun d6 _ => (Nat.rec (motive := fun _ => Sel β) (Sel.mk (fun x => N16.rec (motive := fun _ => β) (fun a0 a1 a2 a3 a4 a5 a6 a7 a8 a9 a10 a11 a12 a13 a14 a15 => a6) x)) (fun d7 _ => (Nat.rec (motive := fun _ => Sel β) (Sel.mk (fun x => N16.rec (motive := fun _ => β) (fun a0 a1 a2 a3 a4 a5 a6 a7 a8 a9 a10 a11 a12 a13 a14 a15 => a7) x)) (fun d8 _ => (Nat.rec (motive := fun _ => Sel β) (Sel.mk (fun x => N16.rec (motive := fun _ => β) (fun a0 a1 a2 a3 a4 a5 a6 a7 a8 a9 a10 a11 a12 a13 a14 a15 => a8) x)) (fun d9 _ => (Nat.rec (motive := fun _ => Sel β) (Sel.mk (fun x => N16.rec (motive := fun _ => β) (fun a0 a1 a2 a3 a4 a5 a6 a7 a8 a9 a10 a11 a12 a13 a14 a15 => a9) x)) (fun d10 _ => (Nat.rec (motive := fun _ => Sel β) (Sel.mk (fun x => N16.rec (motive := fun _ => β) (fun a0 a1 a2 a3 a4 a5 a6 a7 a8 a9 a10 a11 a12 a13 a14 a15 => a10) x)) (fun d11 _ => (Nat.rec (motive := fun _ => Sel β) (Sel.mk (fun x => N16.rec (motive := fun _ => β) (fun a0 a1 a2 a3 a4 a5 a6 a7 a8 a9 a10 a11 a12 a13 a14 a15 => a11) x)) (fun d12 _ => (Nat.rec (motive := fun _ => Sel β) (Sel.mk (fun x => N16.rec (motive := fun _ => β) (fun a0 a1 a2 a3 a4 a5 a6 a7 a8 a9 a10 a11 a12 a13 a14 a15 => a12) x)) (fun d13 _ => (Nat.rec (motive := fun _ => Sel β) (Sel.mk (fun x => N16.rec (motive := fun _ => β) (fun a0 a1 a2 a3 a4 a5 a6 a7 a8 a9 a10 a11 a12 a13 a14 a15 => a13) x)) (fun d14 _ => (Nat.rec (motive := fun _ => Sel β) (Sel.mk (fun x => N16.rec (motive := fun _ => β) (fun a0 a1 a2 a3 a4 a5 a6 a7 a8 a9 a10 a11 a12 a13 a14 a15 => a14) x)) (fun d15 _ => (Sel.mk (fun x => N16.rec (motive := fun _ => β) (fun a0 a1 a2 a3 a4 a5 a6 a7 a8 a9 a10 a11 a12 a13 a14 a15 => a15) x))) d14)) d13)) d12)) d11)) d10)) d9)) d8)) d7)) d6)) d5)) d4)) d3)) d2)) d1)) d)
noncomputable def updS {β : Type} (d : Nat) : Upd β := (Nat.rec (motive := fun _ => Upd β) (Upd.mk (fun g x => N16.rec (motive := fun _ => N16 β) (fun a0 a1 a2 a3 a4 a5 a6 a7 a8 a9 a10 a11 a12 a13 a14 a15 => N16.mk (g a0) a1 a2 a3 a4 a5 a6 a7 a8 a9 a10 a11 a12 a13 a14 a15) x)) (fun d1 _ => (Nat.rec (motive := fun _ => Upd β) (Upd.mk (fun g x => N16.rec (motive := fun _ => N16 β) (fun a0 a1 a2 a3 a4 a5 a6 a7 a8 a9 a10 a11 a12 a13 a14 a15 => N16.mk a0 (g a1) a2 a3 a4 a5 a6 a7 a8 a9 a10 a11 a12 a13 a14 a15) x)) (fun d2 _ => (Nat.rec (motive := fun _ => Upd β) (Upd.mk (fun g x => N16.rec (motive := fun _ => N16 β) (fun a0 a1 a2 a3 a4 a5 a6 a7 a8 a9 a10 a11 a12 a13 a14 a15 => N16.mk a0 a1 (g a2) a3 a4 a5 a6 a7 a8 a9 a10 a11 a12 a13 a14 a15) x)) (fun d3 _ => (Nat.rec (motive := fun _ => Upd β) (Upd.mk (fun g x => N16.rec (motive := fun _ => N16 β) (fun a0 a1 a2 a3 a4 a5 a6 a7 a8 a9 a10 a11 a12 a13 a14 a15 => N16.mk a0 a1 a2 (g a3) a4 a5 a6 a7 a8 a9 a10 a11 a12 a13 a14 a15) x)) (fun d4 _ => (Nat.rec (motive := fun _ => Upd β) (Upd.mk (fun g x => N16.rec (motive := fun _ => N16 β) (fun a0 a1 a2 a3 a4 a5 a6 a7 a8 a9 a10 a11 a12 a13 a14 a15 => N16.mk a0 a1 a2 a3 (g a4) a5 a6 a7 a8 a9 a10 a11 a12 a13 a14 a15) x)) (fun d5 _ => (Nat.rec (motive := fun _ => Upd β) (Upd.mk (fun g x => N16.rec (motive := fun _ => N16 β) (fun a0 a1 a2 a3 a4 a5 a6 a7 a8 a9 a10 a11 a12 a13 a14 a15 => N16.mk a0 a1 a2 a3 a4 (g a5) a6 a7 a8 a9 a10 a11 a12 a13 a14 a15) x)) (fun d6 _ => (Nat.rec (motive := fun _ => Upd β) (Upd.mk (fun g x => N16.rec (motive := fun _ => N16 β) (fun a0 a1 a2 a3 a4 a5 a6 a7 a8 a9 a10 a11 a12 a13 a14 a15 => N16.mk a0 a1 a2 a3 a4 a5 (g a6) a7 a8 a9 a10 a11 a12 a13 a14 a15) x)) (fun d7 _ => (Nat.rec (motive := fun _ => Upd β) (Upd.mk (fun g x => N16.rec (motive := fun _ => N16 β) (fun a0 a1 a2 a3 a4 a5 a6 a7 a8 a9 a10 a11 a12 a13 a14 a15 => N16.mk a0 a1 a2 a3 a4 a5 a6 (g a7) a8 a9 a10 a11 a12 a13 a14 a15) x)) (fun d8 _ => (Nat.rec (motive := fun _ => Upd β) (Upd.mk (fun g x => N16.rec (motive := fun _ => N16 β) (fun a0 a1 a2 a3 a4 a5 a6 a7 a8 a9 a10 a11 a12 a13 a14 a15 => N16.mk a0 a1 a2 a3 a4 a5 a6 a7 (g a8) a9 a10 a11 a12 a13 a14 a15) x)) (fun d9 _ => (Nat.rec (motive := fun _ => Upd β) (Upd.mk (fun g x => N16.rec (motive := fun _ => N16 β) (fun a0 a1 a2 a3 a4 a5 a6 a7 a8 a9 a10 a11 a12 a13 a14 a15 => N16.mk a0 a1 a2 a3 a4 a5 a6 a7 a8 (g a9) a10 a11 a12 a13 a14 a15) x)) (fun d10 _ => (Nat.rec (motive := fun _ => Upd β) (Upd.mk (fun g x => N16.rec (motive := fun _ => N16 β) (fun a0 a1 a2 a3 a4 a5 a6 a7 a8 a9 a10 a11 a12 a13 a14 a15 => N16.mk a0 a1 a2 a3 a4 a5 a6 a7 a8 a9 (g a10) a11 a12 a13 a14 a15) x)) (fun d11 _ => (Nat.rec (motive := fun _ => Upd β) (Upd.mk (fun g x => N16.rec (motive := fun _ => N16 β) (fun a0 a1 a2 a3 a4 a5 a6 a7 a8 a9 a10 a11 a12 a13 a14 a15 => N16.mk a0 a1 a2 a3 a4 a5 a6 a7 a8 a9 a10 (g a11) a12 a13 a14 a15) x)) (fun d12 _ => (Nat.rec (motive := fun _ => Upd β) (Upd.mk (fun g x => N16.rec (motive := fun _ => N16 β) (fun a0 a1 a2 a3 a4 a5 a6 a7 a8 a9 a10 a11 a12 a13 a14 a15 => N16.mk a0 a1 a2 a3 a4 a5 a6 a7 a8 a9 a10 a11 (g a12) a13 a14 a15) x)) (fun d13 _ => (Nat.rec (motive := fun _ => Upd β) (Upd.mk (fun g x => N16.rec (motive := fun _ => N16 β) (fun a0 a1 a2 a3 a4 a5 a6 a7 a8 a9 a10 a11 a12 a13 a14 a15 => N16.mk a0 a1 a2 a3 a4 a5 a6 a7 a8 a9 a10 a11 a12 (g a13) a14 a15) x)) (fun d14 _ => (Nat.rec (motive := fun _ => Upd β) (Upd.mk (fun g x => N16.rec (motive := fun _ => N16 β) (fun a0 a1 a2 a3 a4 a5 a6 a7 a8 a9 a10 a11 a12 a13 a14 a15 => N16.mk a0 a1 a2 a3 a4 a5 a6 a7 a8 a9 a10 a11 a12 a13 (g a14) a15) x)) (fun d15 _ => (Upd.mk (fun g x => N16.rec (motive := fun _ => N16 β) (fun a0 a1 a2 a3 a4 a5 a6 a7 a8 a9 a10 a11 a12 a13 a14 a15 => N16.mk a0 a1 a2 a3 a4 a5 a6 a7 a8 a9 a10 a11 a12 a13 a14 (g a15)) x))) d14)) d13)) d12)) d11)) d10)) d9)) d8)) d7)) d6)) d5)) d4)) d3)) d2)) d1)) d)
def N16.selC {β : Type} : Nat → N16 β → β
  | 0, .mk a0 _ _ _ _ _ _ _ _ _ _ _ _ _ _ _ => a0
  | 1, .mk _ a1 _ _ _ _ _ _ _ _ _ _ _ _ _ _ => a1
  | 2, .mk _ _ a2 _ _ _ _ _ _ _ _ _ _ _ _ _ => a2
  | 3, .mk _ _ _ a3 _ _ _ _ _ _ _ _ _ _ _ _ => a3
  | 4, .mk _ _ _ _ a4 _ _ _ _ _ _ _ _ _ _ _ => a4
  | 5, .mk _ _ _ _ _ a5 _ _ _ _ _ _ _ _ _ _ => a5
  | 6, .mk _ _ _ _ _ _ a6 _ _ _ _ _ _ _ _ _ => a6
  | 7, .mk _ _ _ _ _ _ _ a7 _ _ _ _ _ _ _ _ => a7
  | 8, .mk _ _ _ _ _ _ _ _ a8 _ _ _ _ _ _ _ => a8
  | 9, .mk _ _ _ _ _ _ _ _ _ a9 _ _ _ _ _ _ => a9
  | 10, .mk _ _ _ _ _ _ _ _ _ _ a10 _ _ _ _ _ => a10
  | 11, .mk _ _ _ _ _ _ _ _ _ _ _ a11 _ _ _ _ => a11
  | 12, .mk _ _ _ _ _ _ _ _ _ _ _ _ a12 _ _ _ => a12
  | 13, .mk _ _ _ _ _ _ _ _ _ _ _ _ _ a13 _ _ => a13
  | 14, .mk _ _ _ _ _ _ _ _ _ _ _ _ _ _ a14 _ => a14
  | _, .mk _ _ _ _ _ _ _ _ _ _ _ _ _ _ _ a15 => a15
def N16.updC {β : Type} : Nat → (β → β) → N16 β → N16 β
  | 0, g, .mk a0 a1 a2 a3 a4 a5 a6 a7 a8 a9 a10 a11 a12 a13 a14 a15 => .mk (g a0) a1 a2 a3 a4 a5 a6 a7 a8 a9 a10 a11 a12 a13 a14 a15
  | 1, g, .mk a0 a1 a2 a3 a4 a5 a6 a7 a8 a9 a10 a11 a12 a13 a14 a15 => .mk a0 (g a1) a2 a3 a4 a5 a6 a7 a8 a9 a10 a11 a12 a13 a14 a15
  | 2, g, .mk a0 a1 a2 a3 a4 a5 a6 a7 a8 a9 a10 a11 a12 a13 a14 a15 => .mk a0 a1 (g a2) a3 a4 a5 a6 a7 a8 a9 a10 a11 a12 a13 a14 a15
  | 3, g, .mk a0 a1 a2 a3 a4 a5 a6 a7 a8 a9 a10 a11 a12 a13 a14 a15 => .mk a0 a1 a2 (g a3) a4 a5 a6 a7 a8 a9 a10 a11 a12 a13 a14 a15
  | 4, g, .mk a0 a1 a2 a3 a4 a5 a6 a7 a8 a9 a10 a11 a12 a13 a14 a15 => .mk a0 a1 a2 a3 (g a4) a5 a6 a7 a8 a9 a10 a11 a12 a13 a14 a15
  | 5, g, .mk a0 a1 a2 a3 a4 a5 a6 a7 a8 a9 a10 a11 a12 a13 a14 a15 => .mk a0 a1 a2 a3 a4 (g a5) a6 a7 a8 a9 a10 a11 a12 a13 a14 a15
  | 6, g, .mk a0 a1 a2 a3 a4 a5 a6 a7 a8 a9 a10 a11 a12 a13 a14 a15 => .mk a0 a1 a2 a3 a4 a5 (g a6) a7 a8 a9 a10 a11 a12 a13 a14 a15
  | 7, g, .mk a0 a1 a2 a3 a4 a5 a6 a7 a8 a9 a10 a11 a12 a13 a14 a15 => .mk a0 a1 a2 a3 a4 a5 a6 (g a7) a8 a9 a10 a11 a12 a13 a14 a15
  | 8, g, .mk a0 a1 a2 a3 a4 a5 a6 a7 a8 a9 a10 a11 a12 a13 a14 a15 => .mk a0 a1 a2 a3 a4 a5 a6 a7 (g a8) a9 a10 a11 a12 a13 a14 a15
  | 9, g, .mk a0 a1 a2 a3 a4 a5 a6 a7 a8 a9 a10 a11 a12 a13 a14 a15 => .mk a0 a1 a2 a3 a4 a5 a6 a7 a8 (g a9) a10 a11 a12 a13 a14 a15
  | 10, g, .mk a0 a1 a2 a3 a4 a5 a6 a7 a8 a9 a10 a11 a12 a13 a14 a15 => .mk a0 a1 a2 a3 a4 a5 a6 a7 a8 a9 (g a10) a11 a12 a13 a14 a15
  | 11, g, .mk a0 a1 a2 a3 a4 a5 a6 a7 a8 a9 a10 a11 a12 a13 a14 a15 => .mk a0 a1 a2 a3 a4 a5 a6 a7 a8 a9 a10 (g a11) a12 a13 a14 a15
  | 12, g, .mk a0 a1 a2 a3 a4 a5 a6 a7 a8 a9 a10 a11 a12 a13 a14 a15 => .mk a0 a1 a2 a3 a4 a5 a6 a7 a8 a9 a10 a11 (g a12) a13 a14 a15
  | 13, g, .mk a0 a1 a2 a3 a4 a5 a6 a7 a8 a9 a10 a11 a12 a13 a14 a15 => .mk a0 a1 a2 a3 a4 a5 a6 a7 a8 a9 a10 a11 a12 (g a13) a14 a15
  | 14, g, .mk a0 a1 a2 a3 a4 a5 a6 a7 a8 a9 a10 a11 a12 a13 a14 a15 => .mk a0 a1 a2 a3 a4 a5 a6 a7 a8 a9 a10 a11 a12 a13 (g a14) a15
  | _, g, .mk a0 a1 a2 a3 a4 a5 a6 a7 a8 a9 a10 a11 a12 a13 a14 a15 => .mk a0 a1 a2 a3 a4 a5 a6 a7 a8 a9 a10 a11 a12 a13 a14 (g a15)
theorem lt16 {d : Nat} (h : d < 16) : d = 0 ∨ d = 1 ∨ d = 2 ∨ d = 3 ∨ d = 4 ∨ d = 5 ∨ d = 6 ∨ d = 7 ∨ d = 8 ∨ d = 9 ∨ d = 10 ∨ d = 11 ∨ d = 12 ∨ d = 13 ∨ d = 14 ∨ d = 15 := by omega
theorem selS_eq {β : Type} (d : Nat) (h : d < 16) (x : N16 β) : (selS d).f x = N16.selC d x := by
  obtain ⟨a0, a1, a2, a3, a4, a5, a6, a7, a8, a9, a10, a11, a12, a13, a14, a15⟩ := x
  rcases lt16 h with rfl | rfl | rfl | rfl | rfl | rfl | rfl | rfl | rfl | rfl | rfl | rfl | rfl | rfl | rfl | rfl <;> rfl
theorem updS_eq {β : Type} (d : Nat) (h : d < 16) (g : β → β) (x : N16 β) : (updS d).f g x = N16.updC d g x := by
  obtain ⟨a0, a1, a2, a3, a4, a5, a6, a7, a8, a9, a10, a11, a12, a13, a14, a15⟩ := x
  rcases lt16 h with rfl | rfl | rfl | rfl | rfl | rfl | rfl | rfl | rfl | rfl | rfl | rfl | rfl | rfl | rfl | rfl <;> rfl
theorem sel_upd {β : Type} {d d' : Nat} (h : d < 16) (h' : d' < 16) (g : β → β) (x : N16 β) : N16.selC d' (N16.updC d g x) = if d' = d then g (N16.selC d' x) else N16.selC d' x := by
  obtain ⟨a0, a1, a2, a3, a4, a5, a6, a7, a8, a9, a10, a11, a12, a13, a14, a15⟩ := x
  rcases lt16 h with rfl | rfl | rfl | rfl | rfl | rfl | rfl | rfl | rfl | rfl | rfl | rfl | rfl | rfl | rfl | rfl <;> rcases lt16 h' with rfl | rfl | rfl | rfl | rfl | rfl | rfl | rfl | rfl | rfl | rfl | rfl | rfl | rfl | rfl | rfl <;> rfl
def N16.all {β : Type} (x : β) : N16 β := .mk x x x x x x x x x x x x x x x x
theorem sel_all {β : Type} (d : Nat) (h : d < 16) (x : β) : N16.selC d (.all x) = x := by
  rcases lt16 h with rfl | rfl | rfl | rfl | rfl | rfl | rfl | rfl | rfl | rfl | rfl | rfl | rfl | rfl | rfl | rfl <;> rfl
/-- A tree of numbers: below 256, then 4096 more, then 65536 more, then the rest. -/
structure Tr (α : Type) where
  lo : N16 (N16 (Option α))
  mid : N16 (N16 (N16 (Option α)))
  hi : N16 (N16 (N16 (N16 (Option α))))
  rest : Bt α
structure LG (α : Type) where
  f : Tr α → Option α
structure LP (α : Type) where
  f : Option α → Tr α → Tr α
def Tr.e1 {α : Type} : N16 (Option α) := .all none
def Tr.e2 {α : Type} : N16 (N16 (Option α)) := .all Tr.e1
def Tr.e3 {α : Type} : N16 (N16 (N16 (Option α))) := .all Tr.e2
def Tr.e4 {α : Type} : N16 (N16 (N16 (N16 (Option α)))) := .all Tr.e3
def Tr.leaf {α : Type} : Tr α := ⟨Tr.e2, Tr.e3, Tr.e4, .leaf⟩
/-- The digits of a number. -/
def dg (k : Nat) : Nat := k % 16
noncomputable def lg2 {α : Type} (k : Nat) (x : N16 (N16 (Option α))) : Option α := (Sel.rec (motive := fun _ => _) (fun f => f (Sel.rec (motive := fun _ => _) (fun f => f x) (selS (dg (k / 16))))) (selS (dg k)))
noncomputable def lp2 {α : Type} (k : Nat) (v : Option α) (x : N16 (N16 (Option α))) : N16 (N16 (Option α)) := (Upd.rec (motive := fun _ => _) (fun f => f (fun y => (Upd.rec (motive := fun _ => _) (fun f => f (fun _ => v) y) (updS (dg k)))) x) (updS (dg (k / 16))))
noncomputable def lg3 {α : Type} (k : Nat) (x : N16 (N16 (N16 (Option α)))) : Option α := (Sel.rec (motive := fun _ => _) (fun f => f (Sel.rec (motive := fun _ => _) (fun f => f (Sel.rec (motive := fun _ => _) (fun f => f x) (selS (dg (k / 256))))) (selS (dg (k / 16))))) (selS (dg k)))
noncomputable def lp3 {α : Type} (k : Nat) (v : Option α) (x : N16 (N16 (N16 (Option α)))) : N16 (N16 (N16 (Option α))) := (Upd.rec (motive := fun _ => _) (fun f => f (fun y => (Upd.rec (motive := fun _ => _) (fun f => f (fun y => (Upd.rec (motive := fun _ => _) (fun f => f (fun _ => v) y) (updS (dg k)))) y) (updS (dg (k / 16))))) x) (updS (dg (k / 256))))
noncomputable def lg4 {α : Type} (k : Nat) (x : N16 (N16 (N16 (N16 (Option α))))) : Option α := (Sel.rec (motive := fun _ => _) (fun f => f (Sel.rec (motive := fun _ => _) (fun f => f (Sel.rec (motive := fun _ => _) (fun f => f (Sel.rec (motive := fun _ => _) (fun f => f x) (selS (dg (k / 4096))))) (selS (dg (k / 256))))) (selS (dg (k / 16))))) (selS (dg k)))
noncomputable def lp4 {α : Type} (k : Nat) (v : Option α) (x : N16 (N16 (N16 (N16 (Option α))))) : N16 (N16 (N16 (N16 (Option α)))) := (Upd.rec (motive := fun _ => _) (fun f => f (fun y => (Upd.rec (motive := fun _ => _) (fun f => f (fun y => (Upd.rec (motive := fun _ => _) (fun f => f (fun y => (Upd.rec (motive := fun _ => _) (fun f => f (fun _ => v) y) (updS (dg k)))) y) (updS (dg (k / 16))))) y) (updS (dg (k / 256))))) x) (updS (dg (k / 4096))))
noncomputable def lensG {α : Type} (n : Nat) : LG α :=
  match Nat.blt n 256, Nat.blt n 4352, Nat.blt n 69888 with
  | true, _, _ => ⟨fun t => Tr.rec (motive := fun _ => Option α) (fun lo _ _ _ => lg2 n lo) t⟩
  | false, true, _ => ⟨fun t => Tr.rec (motive := fun _ => Option α) (fun _ mid _ _ => lg3 (n - 256) mid) t⟩
  | false, false, true => ⟨fun t => Tr.rec (motive := fun _ => Option α) (fun _ _ hi _ => lg4 (n - 4352) hi) t⟩
  | false, false, false => ⟨fun t => Tr.rec (motive := fun _ => Option α) (fun _ _ _ rest => Bt.get rest (n - 69888)) t⟩
noncomputable def lensP {α : Type} (n : Nat) : LP α :=
  match Nat.blt n 256, Nat.blt n 4352, Nat.blt n 69888 with
  | true, _, _ => ⟨fun v t => Tr.rec (motive := fun _ => Tr α) (fun lo mid hi rest => Tr.mk (lp2 n v lo) mid hi rest) t⟩
  | false, true, _ => ⟨fun v t => Tr.rec (motive := fun _ => Tr α) (fun lo mid hi rest => Tr.mk lo (lp3 (n - 256) v mid) hi rest) t⟩
  | false, false, true => ⟨fun v t => Tr.rec (motive := fun _ => Tr α) (fun lo mid hi rest => Tr.mk lo mid (lp4 (n - 4352) v hi) rest) t⟩
  | false, false, false => ⟨fun v t => Tr.rec (motive := fun _ => Tr α) (fun lo mid hi rest => Tr.mk lo mid hi (Bt.set rest (n - 69888) v)) t⟩
noncomputable def Tr.get {α : Type} (t : Tr α) (n : Nat) : Option α := LG.rec (motive := fun _ => Option α) (fun g => g t) (lensG n)
noncomputable def Tr.set {α : Type} (t : Tr α) (n : Nat) (v : Option α) : Tr α := LP.rec (motive := fun _ => Tr α) (fun g => g v t) (lensP n)
def get2 {α : Type} (k : Nat) (x : N16 (N16 (Option α))) : Option α := (N16.selC (dg k) (N16.selC (dg (k / 16)) x))
def put2 {α : Type} (k : Nat) (v : Option α) (x : N16 (N16 (Option α))) : N16 (N16 (Option α)) := (N16.updC (dg (k / 16)) (N16.updC (dg k) (fun _ => v)) x)
def get3 {α : Type} (k : Nat) (x : N16 (N16 (N16 (Option α)))) : Option α := (N16.selC (dg k) (N16.selC (dg (k / 16)) (N16.selC (dg (k / 256)) x)))
def put3 {α : Type} (k : Nat) (v : Option α) (x : N16 (N16 (N16 (Option α)))) : N16 (N16 (N16 (Option α))) := (N16.updC (dg (k / 256)) (N16.updC (dg (k / 16)) (N16.updC (dg k) (fun _ => v))) x)
def get4 {α : Type} (k : Nat) (x : N16 (N16 (N16 (N16 (Option α))))) : Option α := (N16.selC (dg k) (N16.selC (dg (k / 16)) (N16.selC (dg (k / 256)) (N16.selC (dg (k / 4096)) x))))
def put4 {α : Type} (k : Nat) (v : Option α) (x : N16 (N16 (N16 (N16 (Option α))))) : N16 (N16 (N16 (N16 (Option α)))) := (N16.updC (dg (k / 4096)) (N16.updC (dg (k / 256)) (N16.updC (dg (k / 16)) (N16.updC (dg k) (fun _ => v)))) x)
def Tr.getC {α : Type} (t : Tr α) (n : Nat) : Option α :=
  match Nat.blt n 256, Nat.blt n 4352, Nat.blt n 69888 with
  | true, _, _ => get2 n t.lo
  | false, true, _ => get3 (n - 256) t.mid
  | false, false, true => get4 (n - 4352) t.hi
  | false, false, false => Bt.get t.rest (n - 69888)
def Tr.setC {α : Type} (t : Tr α) (n : Nat) (v : Option α) : Tr α :=
  match Nat.blt n 256, Nat.blt n 4352, Nat.blt n 69888 with
  | true, _, _ => ⟨put2 n v t.lo, t.mid, t.hi, t.rest⟩
  | false, true, _ => ⟨t.lo, put3 (n - 256) v t.mid, t.hi, t.rest⟩
  | false, false, true => ⟨t.lo, t.mid, put4 (n - 4352) v t.hi, t.rest⟩
  | false, false, false => ⟨t.lo, t.mid, t.hi, Bt.set t.rest (n - 69888) v⟩
theorem dg_lt (k : Nat) : dg k < 16 := Nat.mod_lt _ (by decide)
theorem selR_eq {β : Type} (k : Nat) (x : N16 β) : (selS (dg k)).f x = N16.selC (dg k) x := selS_eq _ (dg_lt k) x
theorem updR_eq {β : Type} (k : Nat) (g : β → β) (x : N16 β) : (updS (dg k)).f g x = N16.updC (dg k) g x := updS_eq _ (dg_lt k) g x
theorem lg2_eq {α : Type} (k : Nat) (x : N16 (N16 (Option α))) : lg2 k x = get2 k x := by unfold lg2 get2; simp only [selR_eq]
theorem lg3_eq {α : Type} (k : Nat) (x : N16 (N16 (N16 (Option α)))) : lg3 k x = get3 k x := by unfold lg3 get3; simp only [selR_eq]
theorem lg4_eq {α : Type} (k : Nat) (x : N16 (N16 (N16 (N16 (Option α))))) : lg4 k x = get4 k x := by unfold lg4 get4; simp only [selR_eq]
theorem lp2_eq {α : Type} (k : Nat) (v : Option α) (x : N16 (N16 (Option α))) : lp2 k v x = put2 k v x := by unfold lp2 put2; simp only [updR_eq]
theorem lp3_eq {α : Type} (k : Nat) (v : Option α) (x : N16 (N16 (N16 (Option α)))) : lp3 k v x = put3 k v x := by unfold lp3 put3; simp only [updR_eq]
theorem lp4_eq {α : Type} (k : Nat) (v : Option α) (x : N16 (N16 (N16 (N16 (Option α))))) : lp4 k v x = put4 k v x := by unfold lp4 put4; simp only [updR_eq]
theorem Tr.get_c {α : Type} (t : Tr α) (n : Nat) : t.get n = t.getC n := by
  obtain ⟨lo, mid, hi, rest⟩ := t
  have key : (lensG n).f ⟨lo, mid, hi, rest⟩ = Tr.getC ⟨lo, mid, hi, rest⟩ n := by
    unfold lensG Tr.getC
    split <;> simp only [lg2_eq, lg3_eq, lg4_eq]
  exact key
theorem Tr.set_c {α : Type} (t : Tr α) (n : Nat) (v : Option α) : t.set n v = t.setC n v := by
  obtain ⟨lo, mid, hi, rest⟩ := t
  have key : (lensP n).f v ⟨lo, mid, hi, rest⟩ = Tr.setC ⟨lo, mid, hi, rest⟩ n v := by
    unfold lensP Tr.setC
    split
    · show Tr.mk (lp2 n v lo) mid hi rest = Tr.mk (put2 n v lo) mid hi rest
      rw [lp2_eq]
    · show Tr.mk lo (lp3 (n - 256) v mid) hi rest = Tr.mk lo (put3 (n - 256) v mid) hi rest
      rw [lp3_eq]
    · show Tr.mk lo mid (lp4 (n - 4352) v hi) rest = Tr.mk lo mid (put4 (n - 4352) v hi) rest
      rw [lp4_eq]
    · rfl
  exact key
@[csimp] theorem Tr.get_eq : @Tr.get = @Tr.getC := by
  funext α t n
  exact Tr.get_c t n
@[csimp] theorem Tr.set_eq : @Tr.set = @Tr.setC := by
  funext α t n v
  exact Tr.set_c t n v
theorem blt_true {a b : Nat} (h : Nat.blt a b = true) : a < b := Nat.le_of_ble_eq_true h
theorem blt_false {a b : Nat} (h : Nat.blt a b = false) : b ≤ a := by
  rcases Nat.lt_or_ge a b with h' | h'
  · have : Nat.blt a b = true := Nat.ble_eq_true_of_le h'
    rw [this] at h; cases h
  · exact h'
theorem dg_eq (k : Nat) : dg k = k % 16 := rfl
theorem sel_upd' {β : Type} (k k' : Nat) (g : β → β) (x : N16 β) : N16.selC (dg k') (N16.updC (dg k) g x) = if dg k' = dg k then g (N16.selC (dg k') x) else N16.selC (dg k') x := sel_upd (dg_lt k) (dg_lt k') g x
theorem gp2 {α : Type} {k k' : Nat} (h : k < 256) (h' : k' < 256) (v : Option α) (x : N16 (N16 (Option α))) : get2 k' (put2 k v x) = if k' = k then v else get2 k' x := by
  unfold get2 put2
  by_cases e : k' = k
  · subst e; simp only [sel_upd', if_true]
  · rw [if_neg e]
    rw [sel_upd']
    split
    case isFalse => rfl
    rename_i q0
    rw [sel_upd']
    split
    case isFalse => rfl
    rename_i q1
    simp only [dg_eq] at q0 q1
    exact absurd (by omega) e
theorem gp3 {α : Type} {k k' : Nat} (h : k < 4096) (h' : k' < 4096) (v : Option α) (x : N16 (N16 (N16 (Option α)))) : get3 k' (put3 k v x) = if k' = k then v else get3 k' x := by
  unfold get3 put3
  by_cases e : k' = k
  · subst e; simp only [sel_upd', if_true]
  · rw [if_neg e]
    rw [sel_upd']
    split
    case isFalse => rfl
    rename_i q0
    rw [sel_upd']
    split
    case isFalse => rfl
    rename_i q1
    rw [sel_upd']
    split
    case isFalse => rfl
    rename_i q2
    simp only [dg_eq] at q0 q1 q2
    exact absurd (by omega) e
theorem gp4 {α : Type} {k k' : Nat} (h : k < 65536) (h' : k' < 65536) (v : Option α) (x : N16 (N16 (N16 (N16 (Option α))))) : get4 k' (put4 k v x) = if k' = k then v else get4 k' x := by
  unfold get4 put4
  by_cases e : k' = k
  · subst e; simp only [sel_upd', if_true]
  · rw [if_neg e]
    rw [sel_upd']
    split
    case isFalse => rfl
    rename_i q0
    rw [sel_upd']
    split
    case isFalse => rfl
    rename_i q1
    rw [sel_upd']
    split
    case isFalse => rfl
    rename_i q2
    rw [sel_upd']
    split
    case isFalse => rfl
    rename_i q3
    simp only [dg_eq] at q0 q1 q2 q3
    exact absurd (by omega) e
/-- Where a number lies. -/
theorem ranges (n : Nat) : (Nat.blt n 256 = true ∧ n < 256) ∨ (Nat.blt n 256 = false ∧ Nat.blt n 4352 = true ∧ 256 ≤ n ∧ n < 4352) ∨ (Nat.blt n 256 = false ∧ Nat.blt n 4352 = false ∧ Nat.blt n 69888 = true ∧ 4352 ≤ n ∧ n < 69888) ∨ (Nat.blt n 256 = false ∧ Nat.blt n 4352 = false ∧ Nat.blt n 69888 = false ∧ 69888 ≤ n) := by
  cases h1 : Nat.blt n 256 with
  | true => exact .inl ⟨rfl, blt_true h1⟩
  | false => cases h2 : Nat.blt n 4352 with
    | true => exact .inr (.inl ⟨rfl, rfl, blt_false h1, blt_true h2⟩)
    | false => cases h3 : Nat.blt n 69888 with
      | true => exact .inr (.inr (.inl ⟨rfl, rfl, rfl, blt_false h2, blt_true h3⟩))
      | false => exact .inr (.inr (.inr ⟨rfl, rfl, rfl, blt_false h3⟩))
theorem Tr.get_set {α : Type} (t : Tr α) (n m : Nat) (v : Option α) : (t.set n v).get m = if m = n then v else t.get m := by
  rw [Tr.set_c, Tr.get_c, Tr.get_c]
  unfold Tr.setC Tr.getC
  rcases ranges n with ⟨a1, a2⟩ | ⟨a1, a2, a3, a4⟩ | ⟨a1, a2, a3, a4, a5⟩ | ⟨a1, a2, a3, a4⟩ <;> rcases ranges m with ⟨b1, b2⟩ | ⟨b1, b2, b3, b4⟩ | ⟨b1, b2, b3, b4, b5⟩ | ⟨b1, b2, b3, b4⟩ <;> simp only [*]
  · exact gp2 a2 b2 _ _
  · rw [if_neg (by omega)]
  · rw [if_neg (by omega)]
  · rw [if_neg (by omega)]
  · rw [if_neg (by omega)]
  · rw [gp3 (k := n - 256) (k' := m - 256) (by omega) (by omega)]
    by_cases e : m = n
    · subst e; rw [if_pos rfl, if_pos rfl]
    · rw [if_neg e, if_neg (by omega)]
  · rw [if_neg (by omega)]
  · rw [if_neg (by omega)]
  · rw [if_neg (by omega)]
  · rw [if_neg (by omega)]
  · rw [gp4 (k := n - 4352) (k' := m - 4352) (by omega) (by omega)]
    by_cases e : m = n
    · subst e; rw [if_pos rfl, if_pos rfl]
    · rw [if_neg e, if_neg (by omega)]
  · rw [if_neg (by omega)]
  · rw [if_neg (by omega)]
  · rw [if_neg (by omega)]
  · rw [if_neg (by omega)]
  · rw [Bt.get_set]
    by_cases e : m = n
    · subst e; rw [if_pos rfl, if_pos rfl]
    · rw [if_neg e, if_neg (by omega)]
theorem Tr.get_leaf {α : Type} (n : Nat) : (Tr.leaf : Tr α).get n = none := by
  rw [Tr.get_c]
  unfold Tr.getC
  split
  · show get2 n Tr.e2 = none
    unfold get2 Tr.e2 Tr.e1
    simp only [sel_all, dg_lt]
  · show get3 _ Tr.e3 = none
    unfold get3 Tr.e3 Tr.e2 Tr.e1
    simp only [sel_all, dg_lt]
  · show get4 _ Tr.e4 = none
    unfold get4 Tr.e4 Tr.e3 Tr.e2 Tr.e1
    simp only [sel_all, dg_lt]
  · exact Bt.get_leaf _
/-- What abstract numbers stand for: blocks; capacities and stamps. -/
structure E where
  ρ : Nat → Option Nat
  κ : Nat → Option Nat
  lim : Nat
/-- All that an environment said, another one says. -/
structure E.sub (e e' : E) : Prop where
  ρ : ∀ b k, e.ρ b = some k → e'.ρ b = some k
  κ : ∀ b k, e.κ b = some k → e'.κ b = some k
structure E.le (e e' : E) : Prop where
  ρ : ∀ b k, e.ρ b = some k → e'.ρ b = some k
  κ : ∀ b k, e.κ b = some k → e'.κ b = some k
  lim : e.lim ≤ e'.lim
  old : ∀ b, b < e.lim → e.ρ b = none → e'.ρ b = none
  kold : ∀ b, b < e.lim → e.κ b = none → e'.κ b = none
theorem E.le.sub {e e' : E} (h : e.le e') : e.sub e' := ⟨h.ρ, h.κ⟩
theorem E.le.refl (e : E) : e.le e := ⟨fun _ _ h => h, fun _ _ h => h, Nat.le_refl _, fun _ _ h => h, fun _ _ h => h⟩
theorem E.le.trans {e e' e'' : E} (h : e.le e') (h' : e'.le e'') : e.le e'' :=
  ⟨fun b k q => h'.ρ b k (h.ρ b k q), fun b k q => h'.κ b k (h.κ b k q), Nat.le_trans h.lim h'.lim, fun b hb q => h'.old b (Nat.lt_of_lt_of_le hb h.lim) (h.old b hb q), fun b hb q => h'.kold b (Nat.lt_of_lt_of_le hb h.lim) (h.kold b hb q)⟩

mutual
/-- What an abstract value stands for. -/
def vrel (e : E) : V → Value → Prop
  | .bool b, v => v = .bool b
  | .int k n, v => v = .int k n
  | .str s, v => v = .string ⟨⟨s⟩⟩
  | .ptr none, v => v = .pointer none
  | .ptr (some (b, o)), v => ∃ k, e.ρ b = some k ∧ v = .pointer (some ⟨k, o, none⟩)
  | .slice none n (.exact c), v => v = .slice none n c
  | .slice none n (.upto _ _), v => n = 0 ∧ ∃ a c, v = .slice (some a) 0 c
  | .slice (some (b, o)) n (.exact c), v => ∃ k, e.ρ b = some k ∧ v = .slice (some ⟨k, o, none⟩) n c
  | .slice (some (b, o)) n (.upto q m), v => ∃ k c, e.ρ b = some k ∧ e.κ b = some c ∧ (q + m ≤ c ∧ n ≤ m) ∧ v = .slice (some ⟨k, o, none⟩) n (c - q)
  | .slice none _ (.tail _), _ => False
  | .slice (some (b, o)) n (.tail q), v => n = 0 ∧ ∃ k c a, e.ρ b = some k ∧ e.κ b = some c ∧ q ≤ c ∧ (q < c → a = ⟨k, o, none⟩) ∧ v = .slice (some a) 0 (c - q)
  | .map none, v => v = .map none
  | .map (some r), v => ∃ k, e.ρ r = some k ∧ v = .map (some k)
  | .func fn f c, v => ∃ fs cs, v = .func fn ⟨fs⟩ ⟨cs⟩ ∧ vrels e f fs ∧ vrels e c cs
  | .yield l, v => ∃ k, e.ρ l = some k ∧ v = .func (.yield k) #[] #[]
  | .nilFunc, v => v = .nilFunc
  | .iface t x, v => ∃ y, v = .iface t y ∧ vrel e x y
  | .nilIface, v => v = .nilIface
  | .agg cs, v => ∃ vs, v = .agg ⟨vs⟩ ∧ vrels e cs vs
  | .tuple cs, v => ∃ vs, v = .tuple ⟨vs⟩ ∧ vrels e cs vs
  | .stamp s, v => ∃ n, e.κ s = some n ∧ v = .int .i64 n
  | .junk, _ => True
def vrels (e : E) : List V → List Value → Prop
  | [], vs => vs = []
  | a :: l, vs => ∃ x r, vs = x :: r ∧ vrel e a x ∧ vrels e l r
end
mutual
theorem vrel_sub {e e' : E} (h : e.sub e') : ∀ (a : V) (v : Value), vrel e a v → vrel e' a v
  | .bool _, _, q | .int _ _, _, q | .str _, _, q | .ptr none, _, q | .map none, _, q | .nilFunc, _, q | .nilIface, _, q | .junk, _, q => by simp only [vrel] at q ⊢ <;> exact q
  | .slice none _ (.exact _), _, q | .slice none _ (.upto _ _), _, q => by simp only [vrel] at q ⊢ <;> exact q
  | .slice none _ (.tail _), _, q => by simp only [vrel] at q
  | .slice (some (b, o)) n (.tail c), _, q => by
    simp only [vrel] at q ⊢
    obtain ⟨h0, k, c, a, h1, h2, h3⟩ := q
    exact ⟨h0, k, c, a, h.ρ _ _ h1, h.κ _ _ h2, h3⟩
  | .ptr (some (b, o)), _, q => by
    simp only [vrel] at q ⊢
    obtain ⟨k, h1, h2⟩ := q
    exact ⟨k, h.ρ _ _ h1, h2⟩
  | .slice (some (b, o)) n (.exact c), _, q => by
    simp only [vrel] at q ⊢
    obtain ⟨k, h1, h2⟩ := q
    exact ⟨k, h.ρ _ _ h1, h2⟩
  | .slice (some (b, o)) n (.upto c m), _, q => by
    simp only [vrel] at q ⊢
    obtain ⟨k, c, h1, h2, h3⟩ := q
    exact ⟨k, c, h.ρ _ _ h1, h.κ _ _ h2, h3⟩
  | .map (some r), _, q => by
    simp only [vrel] at q ⊢
    obtain ⟨k, h1, h2⟩ := q
    exact ⟨k, h.ρ _ _ h1, h2⟩
  | .yield l, _, q => by
    simp only [vrel] at q ⊢
    obtain ⟨k, h1, h2⟩ := q
    exact ⟨k, h.ρ _ _ h1, h2⟩
  | .stamp l, _, q => by
    simp only [vrel] at q ⊢
    obtain ⟨k, h1, h2⟩ := q
    exact ⟨k, h.κ _ _ h1, h2⟩
  | .func fn f c, _, q => by
    simp only [vrel] at q ⊢
    obtain ⟨fs, cs, h1, h2, h3⟩ := q
    exact ⟨fs, cs, h1, vrels_sub h f fs h2, vrels_sub h c cs h3⟩
  | .iface t x, _, q => by
    simp only [vrel] at q ⊢
    obtain ⟨y, h1, h2⟩ := q
    exact ⟨y, h1, vrel_sub h x y h2⟩
  | .agg l, _, q => by
    simp only [vrel] at q ⊢
    obtain ⟨y, h1, h2⟩ := q
    exact ⟨y, h1, vrels_sub h l y h2⟩
  | .tuple l, _, q => by
    simp only [vrel] at q ⊢
    obtain ⟨y, h1, h2⟩ := q
    exact ⟨y, h1, vrels_sub h l y h2⟩
theorem vrels_sub {e e' : E} (h : e.sub e') : ∀ (l : List V) (vs : List Value), vrels e l vs → vrels e' l vs
  | [], _, q => by simpa only [vrels] using q
  | a :: l, _, q => by
    simp only [vrels] at q ⊢
    obtain ⟨x, r, h1, h2, h3⟩ := q
    exact ⟨x, r, h1, vrel_sub h a x h2, vrels_sub h l r h3⟩
end
theorem vrel_mono {e e' : E} (h : e.le e') (a : V) (v : Value) (q : vrel e a v) : vrel e' a v := vrel_sub h.sub a v q
theorem vrels_mono {e e' : E} (h : e.le e') (l : List V) (vs : List Value) (q : vrels e l vs) : vrels e' l vs := vrels_sub h.sub l vs q
section
variable {e : E}
theorem vrels_nil {vs : List Value} : vrels e [] vs ↔ vs = [] := by simp only [vrels]
theorem vrels_cons {a : V} {l : List V} {vs : List Value} : vrels e (a :: l) vs ↔ ∃ x r, vs = x :: r ∧ vrel e a x ∧ vrels e l r := by simp only [vrels]
theorem vrels_one {a : V} {x : Value} (h : vrel e a x) : vrels e [a] [x] := vrels_cons.2 ⟨x, [], rfl, h, vrels_nil.2 rfl⟩
theorem vrels_len : ∀ {l : List V} {vs : List Value}, vrels e l vs → vs.length = l.length
  | [], _, h => by rw [vrels_nil.1 h]; rfl
  | a :: l, _, h => by
    obtain ⟨x, r, rfl, _, h2⟩ := vrels_cons.1 h
    simp [vrels_len h2]
theorem vrels_append : ∀ {l l' : List V} {vs vs' : List Value}, vrels e l vs → vrels e l' vs' → vrels e (l ++ l') (vs ++ vs')
  | [], _, _, _, h, h' => by rw [vrels_nil.1 h]; exact h'
  | a :: l, _, _, _, h, h' => by
    obtain ⟨x, r, rfl, h1, h2⟩ := vrels_cons.1 h
    exact vrels_cons.2 ⟨x, _, rfl, h1, vrels_append h2 h'⟩
theorem vrels_take : ∀ (n : Nat) {l : List V} {vs : List Value}, vrels e l vs → vrels e (l.take n) (vs.take n)
  | 0, _, _, h => by simp [vrels_nil]
  | n + 1, [], _, h => by rw [vrels_nil.1 h]; simp [vrels_nil]
  | n + 1, a :: l, _, h => by
    obtain ⟨x, r, rfl, h1, h2⟩ := vrels_cons.1 h
    exact vrels_cons.2 ⟨x, _, rfl, h1, vrels_take n h2⟩
theorem vrels_drop : ∀ (n : Nat) {l : List V} {vs : List Value}, vrels e l vs → vrels e (l.drop n) (vs.drop n)
  | 0, _, _, h => by simpa using h
  | n + 1, [], _, h => by rw [vrels_nil.1 h]; simp [vrels_nil]
  | n + 1, a :: l, _, h => by
    obtain ⟨x, r, rfl, h1, h2⟩ := vrels_cons.1 h
    simpa using vrels_drop n h2
theorem vrels_get : ∀ {l : List V} {vs : List Value} (i : Nat) {a : V}, vrels e l vs → l[i]? = some a → ∃ x, vs[i]? = some x ∧ vrel e a x
  | [], _, i, a, h, ha => by simp at ha
  | b :: l, _, 0, a, h, ha => by
    obtain ⟨x, r, rfl, h1, h2⟩ := vrels_cons.1 h
    simp at ha
    subst ha
    exact ⟨x, rfl, h1⟩
  | b :: l, _, i + 1, a, h, ha => by
    obtain ⟨x, r, rfl, h1, h2⟩ := vrels_cons.1 h
    simp at ha
    obtain ⟨y, h3, h4⟩ := vrels_get i h2 ha
    exact ⟨y, by simpa using h3, h4⟩
theorem vrels_flat : ∀ {n : Nat} {l : List V} {vs : List Value}, vrels e l vs → vrels e (List.replicate n l).flatten (List.replicate n vs).flatten
  | 0, _, _, h => by simp [vrels_nil]
  | n + 1, _, _, h => by
    simp only [List.replicate_succ, List.flatten_cons]
    exact vrels_append h (vrels_flat h)
end
def V.cells : V → List V
  | .agg c => c
  | v => [v]
theorem vrel_cells {e : E} {a : V} {v : Value} (hj : a ≠ .junk) (h : vrel e a v) : vrels e a.cells v.cells.toList := by
  cases a with
  | junk => exact absurd rfl hj
  | agg c =>
    simp only [vrel] at h
    obtain ⟨vs, rfl, h⟩ := h
    exact h
  | ptr a =>
    cases a with
    | none => have := h; simp only [vrel] at this; subst this; exact vrels_one h
    | some p =>
      obtain ⟨b, o⟩ := p
      have := h
      simp only [vrel] at this
      obtain ⟨k, _, rfl⟩ := this
      exact vrels_one h
  | slice a n c =>
    cases a with
    | none =>
      cases c with
      | exact c => have := h; simp only [vrel] at this; subst this; exact vrels_one h
      | upto c m => have := h; simp only [vrel] at this; obtain ⟨rfl, a, c', rfl⟩ := this; exact vrels_one h
      | tail c => have := h; simp only [vrel] at this
    | some p =>
      obtain ⟨b, o⟩ := p
      cases c with
      | exact c =>
        have := h
        simp only [vrel] at this
        obtain ⟨k, _, rfl⟩ := this
        exact vrels_one h
      | upto c m =>
        have := h
        simp only [vrel] at this
        obtain ⟨k, c, _, _, _, rfl⟩ := this
        exact vrels_one h
      | tail c =>
        have := h
        simp only [vrel] at this
        obtain ⟨rfl, k, c, a, _, _, _, _, rfl⟩ := this
        exact vrels_one h
  | map r =>
    cases r with
    | none => have := h; simp only [vrel] at this; subst this; exact vrels_one h
    | some r =>
      have := h
      simp only [vrel] at this
      obtain ⟨k, _, rfl⟩ := this
      exact vrels_one h
  | func fn f c =>
    have := h
    simp only [vrel] at this
    obtain ⟨fs, cs, rfl, _⟩ := this
    exact vrels_one h
  | yield l =>
    have := h
    simp only [vrel] at this
    obtain ⟨k, _, rfl⟩ := this
    exact vrels_one h
  | iface t x =>
    have := h
    simp only [vrel] at this
    obtain ⟨k, rfl, _⟩ := this
    exact vrels_one h
  | tuple l =>
    have := h
    simp only [vrel] at this
    obtain ⟨k, rfl, _⟩ := this
    exact vrels_one h
  | stamp l =>
    have := h
    simp only [vrel] at this
    obtain ⟨k, _, rfl⟩ := this
    exact vrels_one h
  | _ => have := h; simp only [vrel] at this; subst this; exact vrels_one h

/-- A constant. -/
def toV : Nat → Value → Option V
  | 0, _ => none
  | _ + 1, .bool b => some (.bool b)
  | _ + 1, .int k n => some (.int k n)
  | _ + 1, .string s => some (.str s.data.toList)
  | _ + 1, .pointer none => some (.ptr none)
  | _ + 1, .slice none n c => some (.slice none n (.exact c))
  | _ + 1, .map none => some (.map none)
  | _ + 1, .nilFunc => some .nilFunc
  | _ + 1, .nilIface => some .nilIface
  | d + 1, .iface t v => (toV d v).map (.iface t)
  | d + 1, .agg c => (c.toList.mapM (toV d)).map .agg
  | d + 1, .tuple c => (c.toList.mapM (toV d)).map .tuple
  | d + 1, .func (.func g) f c => match f.toList.mapM (toV d), c.toList.mapM (toV d) with
    | some f, some c => some (.func (.func g) f c)
    | _, _ => none
  | _ + 1, _ => none
theorem mapM_rel {e : E} {f : Value → Option V} (hf : ∀ x a, f x = some a → vrel e a x) : ∀ (l : List Value) (as : List V), l.mapM f = some as → vrels e as l
  | [], as, h => by simp at h; subst h; exact vrels_nil.2 rfl
  | x :: l, as, h => by
    simp only [List.mapM_cons, Option.pure_def, Option.bind_eq_bind, Option.bind_eq_some_iff] at h
    obtain ⟨a, h1, bs, h2, h3⟩ := h
    simp at h3
    subst h3
    exact vrels_cons.2 ⟨x, l, rfl, hf x a h1, mapM_rel hf l bs h2⟩
theorem toV_rel {e : E} : ∀ (d : Nat) (x : Value) (a : V), toV d x = some a → vrel e a x
  | 0, x, a, h => by simp [toV] at h
  | d + 1, .bool b, a, h => by simp [toV] at h; subst h; simp only [vrel]
  | d + 1, .int k n, a, h => by simp [toV] at h; subst h; simp only [vrel]
  | d + 1, .string s, a, h => by simp [toV] at h; subst h; simp only [vrel]
  | d + 1, .pointer none, a, h => by simp [toV] at h; subst h; simp only [vrel]
  | d + 1, .slice none n c, a, h => by simp [toV] at h; subst h; simp only [vrel]
  | d + 1, .map none, a, h => by simp [toV] at h; subst h; simp only [vrel]
  | d + 1, .nilFunc, a, h => by simp [toV] at h; subst h; simp only [vrel]
  | d + 1, .nilIface, a, h => by simp [toV] at h; subst h; simp only [vrel]
  | d + 1, .iface t v, a, h => by
    simp only [toV, Option.map_eq_some_iff] at h
    obtain ⟨y, h1, rfl⟩ := h
    simp only [vrel]
    exact ⟨v, rfl, toV_rel d v y h1⟩
  | d + 1, .agg ⟨c⟩, a, h => by
    simp only [toV, Option.map_eq_some_iff] at h
    obtain ⟨y, h1, rfl⟩ := h
    simp only [vrel]
    exact ⟨c, rfl, mapM_rel (toV_rel d) c y h1⟩
  | d + 1, .tuple ⟨c⟩, a, h => by
    simp only [toV, Option.map_eq_some_iff] at h
    obtain ⟨y, h1, rfl⟩ := h
    simp only [vrel]
    exact ⟨c, rfl, mapM_rel (toV_rel d) c y h1⟩
  | d + 1, .func (.func g) ⟨f⟩ ⟨c⟩, a, h => by
    simp only [toV] at h
    cases h1 : List.mapM (toV d) f with
    | none => simp [h1] at h
    | some f' =>
      cases h2 : List.mapM (toV d) c with
      | none => simp [h1, h2] at h
      | some c' =>
        simp [h1, h2] at h
        subst h
        simp only [vrel]
        exact ⟨f, c, rfl, mapM_rel (toV_rel d) f f' h1, mapM_rel (toV_rel d) c c' h2⟩
  | d + 1, .float .., a, h | d + 1, .complex .., a, h | d + 1, .pointer (some _), a, h | d + 1, .slice (some _) _ _, a, h | d + 1, .map (some _), a, h | d + 1, .chan _, a, h
  | d + 1, .func (.method _) _ _, a, h | d + 1, .func (.methodOf ..) _ _, a, h | d + 1, .func (.via ..) _ _, a, h | d + 1, .func (.yield _) _ _, a, h => by simp [toV] at h
end Go.Proofs.YtjngkcnanhnopaaGreatDoor.Ev

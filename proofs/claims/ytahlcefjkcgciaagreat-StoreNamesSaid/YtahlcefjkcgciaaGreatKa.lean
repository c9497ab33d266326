import Derived.WalkKit
import Derived.RangeFuncLeaves
import Derived.OrdersIn
import Derived.Laws.CopyRow
import Derived.Laws.IdiomRangeMap
import Derived.Laws.OwnMore
import Derived.Laws.Tables
/-! The evaluator: abstract values, the abstract heap (a tree of numbers), what they stand for in a world. -/
namespace Go.Proofs.YtahlcefjkcgciaaGreat.Ev
open Go
set_option linter.unusedVariables false
set_option linter.unusedSimpArgs false

/-- A slice's capacity: a number, or whatever its array has from an element on. -/
inductive Cap where
  | exact (n : Nat)
  | upto (o : Nat)
inductive V where
  | bool (b : Bool)
  | int (k : IntKind) (n : Int)
  | str (s : List UInt8)
  | ptr (a : Option (Nat × Nat))
  | slice (a : Option (Nat × Nat)) (len : Nat) (cap : Cap)
  | map (r : Option Nat)
  | func (fn : Fn) (first captured : List V)
  | yield (l : Nat)
  | nilFunc
  | iface (t : TypeId) (v : V)
  | nilIface
  | agg (cs : List V)
  | tuple (vs : List V)
  | stamp (s : Nat)
  | junk
  deriving Inhabited
/-- A tree of numbers. -/
inductive Tr (α : Type) where
  | leaf
  | node (l : Tr α) (o : Option α) (r : Tr α)
def Tr.get {α : Type} : Tr α → Nat → Option α
  | .leaf, _ => none
  | .node l o r, n => cond (Nat.beq n 0) o (cond (Nat.beq (n % 2) 1) (l.get (n / 2)) (r.get (n / 2 - 1)))
def Tr.put {α : Type} (v : Option α) : Nat → Tr α → Nat → Tr α
  | 0, t, _ => t
  | f + 1, .leaf, n => cond (Nat.beq n 0) (.node .leaf v .leaf) (cond (Nat.beq (n % 2) 1) (.node (Tr.put v f .leaf (n / 2)) none .leaf) (.node .leaf none (Tr.put v f .leaf (n / 2 - 1))))
  | f + 1, .node l o r, n => cond (Nat.beq n 0) (.node l v r) (cond (Nat.beq (n % 2) 1) (.node (Tr.put v f l (n / 2)) o r) (.node l o (Tr.put v f r (n / 2 - 1))))
def Tr.set {α : Type} (t : Tr α) (n : Nat) (v : Option α) : Tr α := Tr.put v (n + 1) t n
theorem Tr.get_put {α : Type} (v : Option α) : ∀ (f : Nat) (t : Tr α) (n m : Nat), n < f → (Tr.put v f t n).get m = if m = n then v else t.get m
  | 0, t, n, m, h => by omega
  | f + 1, t, n, m, h => by
    have key : ∀ (l : Tr α) (o : Option α) (r : Tr α), (cond (Nat.beq n 0) (Tr.node l v r) (cond (Nat.beq (n % 2) 1) (.node (Tr.put v f l (n / 2)) o r) (.node l o (Tr.put v f r (n / 2 - 1))))).get m = if m = n then v else (Tr.node l o r).get m := by
      intro l o r
      by_cases h0 : n = 0
      · subst h0
        cases hm : Nat.beq m 0 with
        | true => have := Nat.eq_of_beq_eq_true hm; subst this; simp [Tr.get]
        | false =>
          have hne : m ≠ 0 := fun e => by subst e; simp at hm
          simp [Tr.get, hm, hne]
      · have hb : Nat.beq n 0 = false := by cases hh : Nat.beq n 0 with | false => rfl | true => exact absurd (Nat.eq_of_beq_eq_true hh) h0
        rw [hb]
        simp only [cond_false]
        cases hp : Nat.beq (n % 2) 1 with
        | true =>
          have hp' := Nat.eq_of_beq_eq_true hp
          simp only [cond_true]
          cases hm : Nat.beq m 0 with
          | true =>
            have := Nat.eq_of_beq_eq_true hm
            subst this
            rw [if_neg (fun e => h0 e.symm)]
            simp [Tr.get]
          | false =>
            have hm0 : m ≠ 0 := fun e => by subst e; simp at hm
            cases hq : Nat.beq (m % 2) 1 with
            | true =>
              have hq' := Nat.eq_of_beq_eq_true hq
              simp only [Tr.get, hm, hq, cond_true, cond_false]
              rw [Tr.get_put v f l (n / 2) (m / 2) (by omega)]
              by_cases e : m = n
              · subst e; simp
              · rw [if_neg e, if_neg (by omega)]
            | false =>
              have hq' : m % 2 ≠ 1 := fun e => by rw [e] at hq; simp at hq
              rw [if_neg (fun e => by subst e; exact hq' hp')]
              simp only [Tr.get, hm, hq, cond_false]
        | false =>
          have hp' : n % 2 ≠ 1 := fun e => by rw [e] at hp; simp at hp
          simp only [cond_false]
          cases hm : Nat.beq m 0 with
          | true =>
            have := Nat.eq_of_beq_eq_true hm
            subst this
            rw [if_neg (fun e => h0 e.symm)]
            simp [Tr.get]
          | false =>
            have hm0 : m ≠ 0 := fun e => by subst e; simp at hm
            cases hq : Nat.beq (m % 2) 1 with
            | true =>
              have hq' := Nat.eq_of_beq_eq_true hq
              rw [if_neg (fun e => by subst e; exact hp' hq')]
              simp only [Tr.get, hm, hq, cond_true, cond_false]
            | false =>
              have hq' : m % 2 ≠ 1 := fun e => by rw [e] at hq; simp at hq
              simp only [Tr.get, hm, hq, cond_false]
              rw [Tr.get_put v f r (n / 2 - 1) (m / 2 - 1) (by omega)]
              by_cases e : m = n
              · subst e; simp
              · rw [if_neg e, if_neg (by omega)]
    cases t with
    | leaf =>
      have := key .leaf none .leaf
      simp only [Tr.put]
      rw [this]
      simp [Tr.get]
    | node l o r => exact key l o r
theorem Tr.get_set {α : Type} (t : Tr α) (n m : Nat) (v : Option α) : (t.set n v).get m = if m = n then v else t.get m := Tr.get_put v (n + 1) t n m (by omega)

/-- What abstract numbers stand for: blocks; capacities and stamps. -/
structure E where
  ρ : Nat → Option Nat
  κ : Nat → Option Nat
  lim : Nat
/-- All that an environment said, another one says. -/
structure E.sub (e e' : E) : Prop where
  ρ : ∀ b k, e.ρ b = some k → e'.ρ b = some k
  κ : ∀ b k, e.κ b = some k → e'.κ b = some k
structure E.le (e e' : E) : Prop where
  ρ : ∀ b k, e.ρ b = some k → e'.ρ b = some k
  κ : ∀ b k, e.κ b = some k → e'.κ b = some k
  lim : e.lim ≤ e'.lim
  old : ∀ b, b < e.lim → e.ρ b = none → e'.ρ b = none
  kold : ∀ b, b < e.lim → e.κ b = none → e'.κ b = none
theorem E.le.sub {e e' : E} (h : e.le e') : e.sub e' := ⟨h.ρ, h.κ⟩
theorem E.le.refl (e : E) : e.le e := ⟨fun _ _ h => h, fun _ _ h => h, Nat.le_refl _, fun _ _ h => h, fun _ _ h => h⟩
theorem E.le.trans {e e' e'' : E} (h : e.le e') (h' : e'.le e'') : e.le e'' :=
  ⟨fun b k q => h'.ρ b k (h.ρ b k q), fun b k q => h'.κ b k (h.κ b k q), Nat.le_trans h.lim h'.lim, fun b hb q => h'.old b (Nat.lt_of_lt_of_le hb h.lim) (h.old b hb q), fun b hb q => h'.kold b (Nat.lt_of_lt_of_le hb h.lim) (h.kold b hb q)⟩

mutual
/-- What an abstract value stands for. -/
def vrel (e : E) : V → Value → Prop
  | .bool b, v => v = .bool b
  | .int k n, v => v = .int k n
  | .str s, v => v = .string ⟨⟨s⟩⟩
  | .ptr none, v => v = .pointer none
  | .ptr (some (b, o)), v => ∃ k, e.ρ b = some k ∧ v = .pointer (some ⟨k, o, none⟩)
  | .slice none n (.exact c), v => v = .slice none n c
  | .slice none _ (.upto _), _ => False
  | .slice (some (b, o)) n (.exact c), v => ∃ k, e.ρ b = some k ∧ v = .slice (some ⟨k, o, none⟩) n c
  | .slice (some (b, o)) n (.upto q), v => ∃ k c, e.ρ b = some k ∧ e.κ b = some c ∧ q + n ≤ c ∧ v = .slice (some ⟨k, o, none⟩) n (c - q)
  | .map none, v => v = .map none
  | .map (some r), v => ∃ k, e.ρ r = some k ∧ v = .map (some k)
  | .func fn f c, v => ∃ fs cs, v = .func fn ⟨fs⟩ ⟨cs⟩ ∧ vrels e f fs ∧ vrels e c cs
  | .yield l, v => ∃ k, e.ρ l = some k ∧ v = .func (.yield k) #[] #[]
  | .nilFunc, v => v = .nilFunc
  | .iface t x, v => ∃ y, v = .iface t y ∧ vrel e x y
  | .nilIface, v => v = .nilIface
  | .agg cs, v => ∃ vs, v = .agg ⟨vs⟩ ∧ vrels e cs vs
  | .tuple cs, v => ∃ vs, v = .tuple ⟨vs⟩ ∧ vrels e cs vs
  | .stamp s, v => ∃ n, e.κ s = some n ∧ v = .int .i64 n
  | .junk, _ => True
def vrels (e : E) : List V → List Value → Prop
  | [], vs => vs = []
  | a :: l, vs => ∃ x r, vs = x :: r ∧ vrel e a x ∧ vrels e l r
end
mutual
theorem vrel_sub {e e' : E} (h : e.sub e') : ∀ (a : V) (v : Value), vrel e a v → vrel e' a v
  | .bool _, _, q | .int _ _, _, q | .str _, _, q | .ptr none, _, q | .map none, _, q | .nilFunc, _, q | .nilIface, _, q | .junk, _, q => by simp only [vrel] at q ⊢ <;> exact q
  | .slice none _ (.exact _), _, q | .slice none _ (.upto _), _, q => by simp only [vrel] at q ⊢ <;> exact q
  | .ptr (some (b, o)), _, q => by
    simp only [vrel] at q ⊢
    obtain ⟨k, h1, h2⟩ := q
    exact ⟨k, h.ρ _ _ h1, h2⟩
  | .slice (some (b, o)) n (.exact c), _, q => by
    simp only [vrel] at q ⊢
    obtain ⟨k, h1, h2⟩ := q
    exact ⟨k, h.ρ _ _ h1, h2⟩
  | .slice (some (b, o)) n (.upto c), _, q => by
    simp only [vrel] at q ⊢
    obtain ⟨k, c, h1, h2, h3⟩ := q
    exact ⟨k, c, h.ρ _ _ h1, h.κ _ _ h2, h3⟩
  | .map (some r), _, q => by
    simp only [vrel] at q ⊢
    obtain ⟨k, h1, h2⟩ := q
    exact ⟨k, h.ρ _ _ h1, h2⟩
  | .yield l, _, q => by
    simp only [vrel] at q ⊢
    obtain ⟨k, h1, h2⟩ := q
    exact ⟨k, h.ρ _ _ h1, h2⟩
  | .stamp l, _, q => by
    simp only [vrel] at q ⊢
    obtain ⟨k, h1, h2⟩ := q
    exact ⟨k, h.κ _ _ h1, h2⟩
  | .func fn f c, _, q => by
    simp only [vrel] at q ⊢
    obtain ⟨fs, cs, h1, h2, h3⟩ := q
    exact ⟨fs, cs, h1, vrels_sub h f fs h2, vrels_sub h c cs h3⟩
  | .iface t x, _, q => by
    simp only [vrel] at q ⊢
    obtain ⟨y, h1, h2⟩ := q
    exact ⟨y, h1, vrel_sub h x y h2⟩
  | .agg l, _, q => by
    simp only [vrel] at q ⊢
    obtain ⟨y, h1, h2⟩ := q
    exact ⟨y, h1, vrels_sub h l y h2⟩
  | .tuple l, _, q => by
    simp only [vrel] at q ⊢
    obtain ⟨y, h1, h2⟩ := q
    exact ⟨y, h1, vrels_sub h l y h2⟩
theorem vrels_sub {e e' : E} (h : e.sub e') : ∀ (l : List V) (vs : List Value), vrels e l vs → vrels e' l vs
  | [], _, q => by simpa only [vrels] using q
  | a :: l, _, q => by
    simp only [vrels] at q ⊢
    obtain ⟨x, r, h1, h2, h3⟩ := q
    exact ⟨x, r, h1, vrel_sub h a x h2, vrels_sub h l r h3⟩
end
theorem vrel_mono {e e' : E} (h : e.le e') (a : V) (v : Value) (q : vrel e a v) : vrel e' a v := vrel_sub h.sub a v q
theorem vrels_mono {e e' : E} (h : e.le e') (l : List V) (vs : List Value) (q : vrels e l vs) : vrels e' l vs := vrels_sub h.sub l vs q
section
variable {e : E}
theorem vrels_nil {vs : List Value} : vrels e [] vs ↔ vs = [] := by simp only [vrels]
theorem vrels_cons {a : V} {l : List V} {vs : List Value} : vrels e (a :: l) vs ↔ ∃ x r, vs = x :: r ∧ vrel e a x ∧ vrels e l r := by simp only [vrels]
theorem vrels_one {a : V} {x : Value} (h : vrel e a x) : vrels e [a] [x] := vrels_cons.2 ⟨x, [], rfl, h, vrels_nil.2 rfl⟩
theorem vrels_len : ∀ {l : List V} {vs : List Value}, vrels e l vs → vs.length = l.length
  | [], _, h => by rw [vrels_nil.1 h]; rfl
  | a :: l, _, h => by
    obtain ⟨x, r, rfl, _, h2⟩ := vrels_cons.1 h
    simp [vrels_len h2]
theorem vrels_append : ∀ {l l' : List V} {vs vs' : List Value}, vrels e l vs → vrels e l' vs' → vrels e (l ++ l') (vs ++ vs')
  | [], _, _, _, h, h' => by rw [vrels_nil.1 h]; exact h'
  | a :: l, _, _, _, h, h' => by
    obtain ⟨x, r, rfl, h1, h2⟩ := vrels_cons.1 h
    exact vrels_cons.2 ⟨x, _, rfl, h1, vrels_append h2 h'⟩
theorem vrels_take : ∀ (n : Nat) {l : List V} {vs : List Value}, vrels e l vs → vrels e (l.take n) (vs.take n)
  | 0, _, _, h => by simp [vrels_nil]
  | n + 1, [], _, h => by rw [vrels_nil.1 h]; simp [vrels_nil]
  | n + 1, a :: l, _, h => by
    obtain ⟨x, r, rfl, h1, h2⟩ := vrels_cons.1 h
    exact vrels_cons.2 ⟨x, _, rfl, h1, vrels_take n h2⟩
theorem vrels_drop : ∀ (n : Nat) {l : List V} {vs : List Value}, vrels e l vs → vrels e (l.drop n) (vs.drop n)
  | 0, _, _, h => by simpa using h
  | n + 1, [], _, h => by rw [vrels_nil.1 h]; simp [vrels_nil]
  | n + 1, a :: l, _, h => by
    obtain ⟨x, r, rfl, h1, h2⟩ := vrels_cons.1 h
    simpa using vrels_drop n h2
theorem vrels_get : ∀ {l : List V} {vs : List Value} (i : Nat) {a : V}, vrels e l vs → l[i]? = some a → ∃ x, vs[i]? = some x ∧ vrel e a x
  | [], _, i, a, h, ha => by simp at ha
  | b :: l, _, 0, a, h, ha => by
    obtain ⟨x, r, rfl, h1, h2⟩ := vrels_cons.1 h
    simp at ha
    subst ha
    exact ⟨x, rfl, h1⟩
  | b :: l, _, i + 1, a, h, ha => by
    obtain ⟨x, r, rfl, h1, h2⟩ := vrels_cons.1 h
    simp at ha
    obtain ⟨y, h3, h4⟩ := vrels_get i h2 ha
    exact ⟨y, by simpa using h3, h4⟩
theorem vrels_flat : ∀ {n : Nat} {l : List V} {vs : List Value}, vrels e l vs → vrels e (List.replicate n l).flatten (List.replicate n vs).flatten
  | 0, _, _, h => by simp [vrels_nil]
  | n + 1, _, _, h => by
    simp only [List.replicate_succ, List.flatten_cons]
    exact vrels_append h (vrels_flat h)
end
def V.cells : V → List V
  | .agg c => c
  | v => [v]
theorem vrel_cells {e : E} {a : V} {v : Value} (hj : a ≠ .junk) (h : vrel e a v) : vrels e a.cells v.cells.toList := by
  cases a with
  | junk => exact absurd rfl hj
  | agg c =>
    simp only [vrel] at h
    obtain ⟨vs, rfl, h⟩ := h
    exact h
  | ptr a =>
    cases a with
    | none => have := h; simp only [vrel] at this; subst this; exact vrels_one h
    | some p =>
      obtain ⟨b, o⟩ := p
      have := h
      simp only [vrel] at this
      obtain ⟨k, _, rfl⟩ := this
      exact vrels_one h
  | slice a n c =>
    cases a with
    | none =>
      cases c with
      | exact c => have := h; simp only [vrel] at this; subst this; exact vrels_one h
      | upto c => simp only [vrel] at h
    | some p =>
      obtain ⟨b, o⟩ := p
      cases c with
      | exact c =>
        have := h
        simp only [vrel] at this
        obtain ⟨k, _, rfl⟩ := this
        exact vrels_one h
      | upto c =>
        have := h
        simp only [vrel] at this
        obtain ⟨k, c, _, _, _, rfl⟩ := this
        exact vrels_one h
  | map r =>
    cases r with
    | none => have := h; simp only [vrel] at this; subst this; exact vrels_one h
    | some r =>
      have := h
      simp only [vrel] at this
      obtain ⟨k, _, rfl⟩ := this
      exact vrels_one h
  | func fn f c =>
    have := h
    simp only [vrel] at this
    obtain ⟨fs, cs, rfl, _⟩ := this
    exact vrels_one h
  | yield l =>
    have := h
    simp only [vrel] at this
    obtain ⟨k, _, rfl⟩ := this
    exact vrels_one h
  | iface t x =>
    have := h
    simp only [vrel] at this
    obtain ⟨k, rfl, _⟩ := this
    exact vrels_one h
  | tuple l =>
    have := h
    simp only [vrel] at this
    obtain ⟨k, rfl, _⟩ := this
    exact vrels_one h
  | stamp l =>
    have := h
    simp only [vrel] at this
    obtain ⟨k, _, rfl⟩ := this
    exact vrels_one h
  | _ => have := h; simp only [vrel] at this; subst this; exact vrels_one h

/-- A constant. -/
def toV : Nat → Value → Option V
  | 0, _ => none
  | _ + 1, .bool b => some (.bool b)
  | _ + 1, .int k n => some (.int k n)
  | _ + 1, .string s => some (.str s.data.toList)
  | _ + 1, .pointer none => some (.ptr none)
  | _ + 1, .slice none n c => some (.slice none n (.exact c))
  | _ + 1, .map none => some (.map none)
  | _ + 1, .nilFunc => some .nilFunc
  | _ + 1, .nilIface => some .nilIface
  | d + 1, .iface t v => (toV d v).map (.iface t)
  | d + 1, .agg c => (c.toList.mapM (toV d)).map .agg
  | d + 1, .tuple c => (c.toList.mapM (toV d)).map .tuple
  | d + 1, .func (.func g) f c => match f.toList.mapM (toV d), c.toList.mapM (toV d) with
    | some f, some c => some (.func (.func g) f c)
    | _, _ => none
  | _ + 1, _ => none
theorem mapM_rel {e : E} {f : Value → Option V} (hf : ∀ x a, f x = some a → vrel e a x) : ∀ (l : List Value) (as : List V), l.mapM f = some as → vrels e as l
  | [], as, h => by simp at h; subst h; exact vrels_nil.2 rfl
  | x :: l, as, h => by
    simp only [List.mapM_cons, Option.pure_def, Option.bind_eq_bind, Option.bind_eq_some_iff] at h
    obtain ⟨a, h1, bs, h2, h3⟩ := h
    simp at h3
    subst h3
    exact vrels_cons.2 ⟨x, l, rfl, hf x a h1, mapM_rel hf l bs h2⟩
theorem toV_rel {e : E} : ∀ (d : Nat) (x : Value) (a : V), toV d x = some a → vrel e a x
  | 0, x, a, h => by simp [toV] at h
  | d + 1, .bool b, a, h => by simp [toV] at h; subst h; simp only [vrel]
  | d + 1, .int k n, a, h => by simp [toV] at h; subst h; simp only [vrel]
  | d + 1, .string s, a, h => by simp [toV] at h; subst h; simp only [vrel]
  | d + 1, .pointer none, a, h => by simp [toV] at h; subst h; simp only [vrel]
  | d + 1, .slice none n c, a, h => by simp [toV] at h; subst h; simp only [vrel]
  | d + 1, .map none, a, h => by simp [toV] at h; subst h; simp only [vrel]
  | d + 1, .nilFunc, a, h => by simp [toV] at h; subst h; simp only [vrel]
  | d + 1, .nilIface, a, h => by simp [toV] at h; subst h; simp only [vrel]
  | d + 1, .iface t v, a, h => by
    simp only [toV, Option.map_eq_some_iff] at h
    obtain ⟨y, h1, rfl⟩ := h
    simp only [vrel]
    exact ⟨v, rfl, toV_rel d v y h1⟩
  | d + 1, .agg ⟨c⟩, a, h => by
    simp only [toV, Option.map_eq_some_iff] at h
    obtain ⟨y, h1, rfl⟩ := h
    simp only [vrel]
    exact ⟨c, rfl, mapM_rel (toV_rel d) c y h1⟩
  | d + 1, .tuple ⟨c⟩, a, h => by
    simp only [toV, Option.map_eq_some_iff] at h
    obtain ⟨y, h1, rfl⟩ := h
    simp only [vrel]
    exact ⟨c, rfl, mapM_rel (toV_rel d) c y h1⟩
  | d + 1, .func (.func g) ⟨f⟩ ⟨c⟩, a, h => by
    simp only [toV] at h
    cases h1 : List.mapM (toV d) f with
    | none => simp [h1] at h
    | some f' =>
      cases h2 : List.mapM (toV d) c with
      | none => simp [h1, h2] at h
      | some c' =>
        simp [h1, h2] at h
        subst h
        simp only [vrel]
        exact ⟨f, c, rfl, mapM_rel (toV_rel d) f f' h1, mapM_rel (toV_rel d) c c' h2⟩
  | d + 1, .float .., a, h | d + 1, .complex .., a, h | d + 1, .pointer (some _), a, h | d + 1, .slice (some _) _ _, a, h | d + 1, .map (some _), a, h | d + 1, .chan _, a, h
  | d + 1, .func (.method _) _ _, a, h | d + 1, .func (.methodOf ..) _ _, a, h | d + 1, .func (.via ..) _ _, a, h | d + 1, .func (.yield _) _ _, a, h => by simp [toV] at h
end Go.Proofs.YtahlcefjkcgciaaGreat.Ev

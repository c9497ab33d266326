import Derived.Test.YtdammjolkcjogaaGKB
import Derived.Lib.Bytealg
import Derived.Laws.Externs
import Derived.MapKept
/-! The evaluator: a region that draws, by an order that is laid once for each region. What an operation that came up ahead of others comes to is looked at again only where memory may have changed. -/
namespace Go.Proofs.Ytdammjolkcjogaa.Ev
open Go Go.RowKit
set_option linter.unusedVariables false
set_option linter.unusedSimpArgs false

/-- Does an operation look at memory? -/
def memB (op : Op) : Bool :=
  match op with
  | .load .. => true
  | .lookup .. => true
  | .entry .. => true
  | .call .. => true
  | .range .. => true
  | .binOp .eql .. => true
  | .binOp .neq .. => true
  | _ => false
inductive SI where
  | val (it : It)
  | new (it : It)
  | eff (it : It)
/-- Who writes a temporary: one that may come up ahead of others (its place), or not. -/
def dstT : List It → Tr (Option Nat) → Option (Tr (Option Nat))
  | [], t => some t
  | it :: l, t => match it.o.dst with
    | none => dstT l t
    | some d => (match isEff it.o.op && it.o.guard.isNone, t.get d with
      | true, none => dstT l (t.set d (some none))
      | true, some none => dstT l t
      | false, none => dstT l (t.set d (some (some it.i)))
      | _, _ => none)
def ssaL (ops : Array Oper) (T : Tr (Option Nat)) (q : It) : Bool := (q.o.looksAt ops).all fun t => match T.get t with
  | some (some i) => q.m.testBit i
  | _ => true
def ssaF (ops : Array Oper) (its : List It) : Bool :=
  match dstT its .leaf with
  | some T => its.all (ssaL ops T)
  | none => false
theorem dstT_ok : ∀ (l : List It) (t T : Tr (Option Nat)), dstT l t = some T → (∀ d x, t.get d = some x → T.get d = some x) ∧
    ∀ p ∈ l, ∀ d, p.o.dst = some d → T.get d = some (if (isEff p.o.op && p.o.guard.isNone) = true then none else some p.i)
  | [], t, T, h => by cases h; exact ⟨fun _ _ q => q, fun p hp => (by cases hp)⟩
  | it :: l, t, T, h => by
    unfold dstT at h
    have go : ∀ (d : Nat) (x : Option Nat), it.o.dst = some d → t.get d = none → dstT l (t.set d (some x)) = some T → (if (isEff it.o.op && it.o.guard.isNone) = true then none else some it.i) = x →
        (∀ d x, t.get d = some x → T.get d = some x) ∧ ∀ p ∈ it :: l, ∀ d, p.o.dst = some d → T.get d = some (if (isEff p.o.op && p.o.guard.isNone) = true then none else some p.i) := by
      intro d x hd hn hl hx
      obtain ⟨h1, h2⟩ := dstT_ok l _ T hl
      refine ⟨fun d' x' q => h1 d' x' ?_, fun p hp d' hd' => ?_⟩
      · rw [Tr.get_set]
        by_cases e : d' = d
        · subst e; rw [hn] at q; cases q
        · rw [if_neg e]; exact q
      · rcases List.mem_cons.1 hp with rfl | hp
        · rw [hd] at hd'
          cases hd'
          rw [hx]
          exact h1 d x (by rw [Tr.get_set, if_pos rfl])
        · exact h2 p hp d' hd'
    split at h
    · rename_i hd
      obtain ⟨h1, h2⟩ := dstT_ok l _ T h
      refine ⟨h1, fun p hp d' hd' => ?_⟩
      rcases List.mem_cons.1 hp with rfl | hp
      · rw [hd] at hd'; cases hd'
      · exact h2 p hp d' hd'
    · rename_i d hd
      split at h
      · rename_i he hn
        exact go d none hd hn h (by rw [he]; rfl)
      · rename_i he hn
        obtain ⟨h1, h2⟩ := dstT_ok l _ T h
        refine ⟨h1, fun p hp d' hd' => ?_⟩
        rcases List.mem_cons.1 hp with rfl | hp
        · rw [hd] at hd'
          cases hd'
          rw [he]
          exact h1 d none hn
        · exact h2 p hp d' hd'
      · rename_i he hn
        exact go d (some it.i) hd hn h (by rw [he]; rfl)
      · cases h
theorem ssaF_ok {ops : Array Oper} {its : List It} (h : ssaF ops its = true) : ssaB ops its = true := by
  unfold ssaF at h
  split at h
  · rename_i T hT
    obtain ⟨_, h2⟩ := dstT_ok its _ T hT
    refine List.all_eq_true.2 fun p hp => ?_
    cases hd : p.o.dst with
    | none => rfl
    | some d =>
      cases he : isEff p.o.op && p.o.guard.isNone with
      | true => simp
      | false =>
        have hpT := h2 p hp d hd
        rw [he] at hpT
        simp only [Bool.false_or, Bool.false_eq_true, if_false] at hpT ⊢
        refine List.all_eq_true.2 fun q hq => ?_
        rw [Bool.and_eq_true]
        constructor
        · cases hqd : q.o.dst with
          | none => simp
          | some d' =>
            cases hdd : Nat.beq d' d with
            | false => simp [hdd]
            | true =>
              have := Nat.eq_of_beq_eq_true hdd
              subst this
              have hqT := h2 q hq d' hqd
              rw [hpT] at hqT
              cases he2 : isEff q.o.op && q.o.guard.isNone with
              | true => rw [he2] at hqT; cases hqT
              | false =>
                rw [he2] at hqT
                have : p.i = q.i := by simpa using hqT
                simp [this]
        · cases hc : (q.o.looksAt ops).contains d with
          | false => rfl
          | true =>
            have := List.all_eq_true.1 (List.all_eq_true.1 h q hq) d (by simpa using hc)
            rw [hpT] at this
            simpa using this
  · cases h
def clsSI (it : It) : SI := match cls it.o.op with
  | .alloc => .new it
  | _ => .val it
def consO (x : SI) (o : Option (List SI)) : Option (List SI) := match o with
  | some l => some (x :: l)
  | none => none
def mready (it : It) (done : Nat) : Bool := Nat.beq (it.m &&& done) it.m
def schP (next : List It → Nat → List It → Option (List SI)) : List It → List It → Nat → List It → Option (List SI)
  | [], acc, done, fr => next acc.reverse done fr
  | it :: l, acc, done, fr => match !(isEff it.o.op) && mready it done with
    | true => consO (clsSI it) (schP next l acc (done ||| 2 ^ it.i) (it :: fr))
    | false => schP next l (it :: acc) done fr
/-- What came up ahead, and does not look at what is written now. -/
def cleanB (ops : Array Oper) (it : It) (fr : List It) : Bool := match it.o.dst with
  | none => true
  | some d => fr.all fun p => !((p.o.looksAt ops).contains d)
def behind (it : It) (fr : List It) : List It := fr.filter fun p => !(it.m.testBit p.i)
def schN (ops : Array Oper) : Nat → List It → Nat → List It → Option (List SI)
  | 0, _, _, _ => none
  | f + 1, rest, done, fr => schP (fun rest done fr => match rest with
    | [] => some []
    | it :: l => match mready it done && (l.all (fun q => !(mready q done)) && cleanB ops it (behind it fr)) with
      | true => consO (.eff it) (schN ops f l (done ||| 2 ^ it.i) (behind it fr))
      | false => none) rest [] done fr
/-- What an order is asked. -/
inductive Sched (ops : Array Oper) (its : List It) : Nat → List It → List SI → Prop
  | nil {done fr} : (∀ it ∈ its, done.testBit it.i = true) → Sched ops its done fr []
  | free {done fr it l} : it ∈ its → rdy done it = true → isEff it.o.op = false → Sched ops its (done ||| 2 ^ it.i) (it :: fr) l → Sched ops its done fr (clsSI it :: l)
  | eff {done fr it l} : it ∈ its → rdy done it = true → (∀ q ∈ its, rdy done q = true → q = it) → cleanB ops it (behind it fr) = true → Sched ops its (done ||| 2 ^ it.i) (behind it fr) l → Sched ops its done fr (.eff it :: l)
structure Left (its rest : List It) (done : Nat) : Prop where
  mem : ∀ it ∈ rest, it ∈ its ∧ done.testBit it.i = false
  all : ∀ it ∈ its, done.testBit it.i = false → it ∈ rest
  dis : rest.Pairwise fun a b => a.i ≠ b.i
theorem Left.perm {its l l' : List It} {done : Nat} (h : Left its l done) (p : l.Perm l') : Left its l' done :=
  ⟨fun it hit => h.mem it (p.mem_iff.2 hit), fun it hit hd => p.mem_iff.1 (h.all it hit hd), (p.pairwise_iff (fun q => Ne.symm q)).1 h.dis⟩
theorem Left.tail {its l : List It} {it : It} {done : Nat} (h : Left its (it :: l) done) : Left its l (done ||| 2 ^ it.i) := by
  obtain ⟨d1, d2⟩ := List.pairwise_cons.1 h.dis
  refine ⟨fun q hq => ⟨(h.mem q (List.mem_cons_of_mem _ hq)).1, ?_⟩, fun q hq hd => ?_, d2⟩
  · cases hh : (done ||| 2 ^ it.i).testBit q.i with
    | false => rfl
    | true =>
      rcases or_bit.1 hh with h1 | h1
      · rw [(h.mem q (List.mem_cons_of_mem _ hq)).2] at h1; cases h1
      · exact absurd h1 (d1 q hq)
  · have h1 : done.testBit q.i = false := by
      cases hh : done.testBit q.i with
      | false => rfl
      | true => rw [or_bit.2 (.inl hh)] at hd; cases hd
    rcases List.mem_cons.1 (h.all q hq h1) with rfl | h2
    · rw [or_bit.2 (.inr rfl)] at hd; cases hd
    · exact h2
theorem rdy_of {it : It} {done : Nat} (h1 : done.testBit it.i = false) (h2 : mready it done = true) : rdy done it = true := by
  unfold rdy
  rw [h1]
  exact h2
theorem rdy_m {it : It} {done : Nat} (h : rdy done it = true) : done.testBit it.i = false ∧ mready it done = true := by
  unfold rdy at h
  simp only [Bool.and_eq_true, Bool.not_eq_true'] at h
  exact h
theorem schP_ok {ops : Array Oper} {its : List It} {next : List It → Nat → List It → Option (List SI)} (hn : ∀ rest done fr l, Left its rest done → next rest done fr = some l → Sched ops its done fr l) :
    ∀ (todo acc : List It) (done : Nat) (fr : List It) (l : List SI), Left its (todo ++ acc) done → schP next todo acc done fr = some l → Sched ops its done fr l
  | [], acc, done, fr, l, L, h => hn _ done fr l (L.perm (List.reverse_perm acc).symm) h
  | it :: todo, acc, done, fr, l, L, h => by
    unfold schP at h
    split at h
    · rename_i hc
      simp only [Bool.and_eq_true, Bool.not_eq_true'] at hc
      unfold consO at h
      split at h
      · rename_i l' hl
        cases h
        have hm := L.mem it List.mem_cons_self
        exact .free hm.1 (rdy_of hm.2 hc.2) hc.1 (schP_ok hn todo acc _ _ l' L.tail hl)
      · cases h
    · exact schP_ok hn todo (it :: acc) done fr l (L.perm List.perm_middle.symm) h
theorem schN_ok {ops : Array Oper} {its : List It} : ∀ (f : Nat) (rest : List It) (done : Nat) (fr : List It) (l : List SI), Left its rest done → schN ops f rest done fr = some l → Sched ops its done fr l
  | 0, _, _, _, _, _, h => by cases h
  | f + 1, rest, done, fr, l, L, h => by
    unfold schN at h
    refine schP_ok (fun rest done fr l L h => ?_) rest [] done fr l (by simpa using L) h
    split at h
    · cases h
      refine .nil fun it hit => ?_
      cases hh : done.testBit it.i with
      | true => rfl
      | false => have := L.all it hit hh; cases this
    · rename_i it rest'
      split at h
      · rename_i hc
        simp only [Bool.and_eq_true] at hc
        unfold consO at h
        split at h
        · rename_i l' hl
          cases h
          have hm := L.mem it List.mem_cons_self
          refine .eff hm.1 (rdy_of hm.2 hc.1) (fun q hq hr => ?_) hc.2.2 (schN_ok f rest' _ _ l' L.tail hl)
          obtain ⟨r1, r2⟩ := rdy_m hr
          rcases List.mem_cons.1 (L.all q hq r1) with rfl | h2
          · rfl
          · have := List.all_eq_true.1 hc.2.1 q h2
            rw [r2] at this
            cases this
        · cases h
      · cases h
theorem items_ge : ∀ (l : List Oper) (i : Nat) (ms : List Nat), ∀ it ∈ itemsGo i l ms, i ≤ it.i
  | [], _, _, it, h => by cases h
  | o :: l, i, ms, it, h => by
    rcases List.mem_cons.1 h with rfl | h
    · exact Nat.le_refl _
    · exact Nat.le_of_succ_le (items_ge l (i + 1) _ it h)
theorem items_pw : ∀ (l : List Oper) (i : Nat) (ms : List Nat), (itemsGo i l ms).Pairwise fun a b => a.i ≠ b.i
  | [], _, _ => .nil
  | o :: l, i, ms => .cons (fun b hb => by have := items_ge l (i + 1) _ b hb; exact fun q => by simp only at q; omega) (items_pw l (i + 1) _)
/-- The same rows, by masks that stand with the last one ahead. -/
noncomputable def nthR (k : Nat) : List Nat → Nat :=
  Nat.rec (motive := fun _ => List Nat → Nat) (fun l => List.rec (motive := fun _ => Nat) 0 (fun a _ _ => a) l) (fun _ ih l => List.rec (motive := fun _ => Nat) 0 (fun _ t _ => ih t) l) k
theorem nthR_eq : ∀ (k : Nat) (l : List Nat), nthR k l = l.getD k 0
  | 0, [] => rfl
  | 0, _ :: _ => rfl
  | n + 1, [] => rfl
  | n + 1, _ :: l => by rw [List.getD_cons_succ]; exact nthR_eq n l
noncomputable def edR (i : Nat) (rs : List Nat) (s : Nat) (ed : Edge) : Nat :=
  Bool.rec (motive := fun _ => Nat) s (Nat.lor s (Nat.lor (Nat.pow 2 ed.on) (Bool.rec (motive := fun _ => Nat) 0 (nthR (Nat.sub (Nat.sub i 1) ed.on) rs) (Nat.blt ed.on i)))) (Region.binds .any ed)
noncomputable def maskR (i : Nat) (rs : List Nat) (l : List Edge) : Nat → Nat :=
  List.rec (motive := fun _ => Nat → Nat) (fun s => s) (fun ed _ ih s => ih (edR i rs s ed)) l
noncomputable def itemsR (l : List Oper) : Nat → List Nat → List It :=
  List.rec (motive := fun _ => Nat → List Nat → List It) (fun _ _ => []) (fun o _ ih i rs => It.mk i o (maskR i rs o.after.toList 0) :: ih (Nat.succ i) (maskR i rs o.after.toList 0 :: rs)) l
theorem getD_rev (rs : List Nat) (k : Nat) : rs.reverse.getD k 0 = Bool.rec (motive := fun _ => Nat) 0 (nthR (Nat.sub (Nat.sub rs.length 1) k) rs) (Nat.blt k rs.length) := by
  cases h : Nat.blt k rs.length with
  | true =>
    have hk : k < rs.length := Nat.le_of_ble_eq_true h
    show _ = nthR (rs.length - 1 - k) rs
    rw [nthR_eq, List.getD_eq_getElem?_getD, List.getD_eq_getElem?_getD, List.getElem?_reverse hk]
  | false =>
    have hk : ¬ k < rs.length := fun h' => by
      have q : Nat.blt k rs.length = true := Nat.ble_eq_true_of_le h'
      rw [q] at h; cases h
    rw [List.getD_eq_getElem?_getD, List.getElem?_eq_none (by simp; omega)]
    rfl
theorem maskR_eq (rs : List Nat) : ∀ (l : List Edge) (s : Nat), maskR rs.length rs l s = l.foldl (fun s (ed : Edge) => cond (Region.binds .any ed) (s ||| (2 ^ ed.on ||| rs.reverse.getD ed.on 0)) s) s
  | [], s => rfl
  | ed :: l, s => by
    show maskR rs.length rs l (edR rs.length rs s ed) = _
    rw [maskR_eq rs l, List.foldl_cons]
    congr 1
    unfold edR
    rw [getD_rev]
    cases Region.binds .any ed <;> rfl
theorem itemsR_eq : ∀ (l : List Oper) (rs : List Nat), itemsR l rs.length rs = itemsGo rs.length l rs.reverse
  | [], rs => rfl
  | o :: l, rs => by
    show It.mk rs.length o (maskR rs.length rs o.after.toList 0) :: itemsR l (rs.length + 1) (maskR rs.length rs o.after.toList 0 :: rs) = _
    have h := itemsR_eq l (maskR rs.length rs o.after.toList 0 :: rs)
    rw [List.length_cons] at h
    rw [h, List.reverse_cons, maskR_eq]
    rfl
/-- All of a list, by the recursor. -/
noncomputable def allR {α : Type} (p : α → Bool) (l : List α) : Bool := List.rec (motive := fun _ => Bool) true (fun a _ ih => Bool.rec (motive := fun _ => Bool) false ih (p a)) l
theorem allR_eq {α : Type} (p : α → Bool) : ∀ l : List α, allR p l = l.all p
  | [] => rfl
  | a :: l => by
    show Bool.rec (motive := fun _ => Bool) false (allR p l) (p a) = (p a && l.all p)
    rw [allR_eq p l]
    cases p a <;> rfl
noncomputable def rdBitR (T : Tr (Option Nat)) (m : Nat) (t : Tmp) : Bool := Option.rec (motive := fun _ => Bool) true (fun x => Option.rec (motive := fun _ => Bool) true (fun i => m.testBit i) x) (T.get t)
noncomputable def opLookR (T : Tr (Option Nat)) (m : Nat) (x : Operand) : Bool := Operand.rec (motive := fun _ => Bool) (rdBitR T m) (fun _ => true) (fun _ => true) (fun _ => true) x
noncomputable def ssaLR (ops : Array Oper) (T : Tr (Option Nat)) (q : It) : Bool :=
  Bool.rec (motive := fun _ => Bool) false (Option.rec (motive := fun _ => Bool) true (fun g => allR (rdBitR T q.m) (((ops[g.1]?).bind (·.dst)).toList)) q.o.guard) (allR (opLookR T q.m) q.o.op.operands.toList)
theorem rdBitR_eq (T : Tr (Option Nat)) (m : Nat) (t : Tmp) : rdBitR T m t = match T.get t with
  | some (some i) => m.testBit i
  | _ => true := by
  unfold rdBitR
  cases T.get t with
  | none => rfl
  | some x => cases x <;> rfl
theorem look_ops (T : Tr (Option Nat)) (m : Nat) : ∀ l : List Operand, allR (opLookR T m) l = (l.filterMap fun | .tmp t => some t | _ => none).all (fun t => match T.get t with
  | some (some i) => m.testBit i
  | _ => true)
  | [] => rfl
  | x :: l => by
    show Bool.rec (motive := fun _ => Bool) false (allR (opLookR T m) l) (opLookR T m x) = _
    rw [look_ops T m l]
    cases x with
    | tmp t =>
      show Bool.rec (motive := fun _ => Bool) false _ (rdBitR T m t) = _
      rw [rdBitR_eq]
      simp only [List.filterMap_cons, List.all_cons]
      cases (match T.get t with
        | some (some i) => m.testBit i
        | _ => true) <;> rfl
    | _ => rfl
theorem ssaLR_eq (ops : Array Oper) (T : Tr (Option Nat)) (q : It) : ssaLR ops T q = ssaL ops T q := by
  unfold ssaLR ssaL Oper.looksAt
  rw [List.all_append, look_ops]
  cases (List.filterMap (fun | .tmp t => some t | _ => none) q.o.op.operands.toList).all (fun t => match T.get t with
    | some (some i) => q.m.testBit i
    | _ => true) with
  | false => rfl
  | true =>
    rw [Bool.true_and]
    cases q.o.guard with
    | none => rfl
    | some g =>
      show allR (rdBitR T q.m) (((ops[g.1]?).bind (·.dst)).toList) = _
      rw [allR_eq]
      congr 1
      funext t
      exact rdBitR_eq T q.m t
noncomputable def schedR (ops : Array Oper) : Option (List SI) :=
  (fun its => Bool.rec (motive := fun _ => Option (List SI)) none (schN ops (ops.size + 1) its 0 [])
    (Option.rec (motive := fun _ => Bool) false (fun T => Bool.rec (motive := fun _ => Bool) false (lowB its) (allR (ssaLR ops T) its)) (dstT its .leaf))) (itemsR ops.toList 0 [])
theorem sched_ok {ops : Array Oper} {l : List SI} (h : schedR ops = some l) : ssaB ops (itemsGo 0 ops.toList []) = true ∧ lowB (itemsGo 0 ops.toList []) = true ∧ Sched ops (itemsGo 0 ops.toList []) 0 [] l := by
  unfold schedR at h
  have he : itemsR ops.toList 0 [] = itemsGo 0 ops.toList [] := itemsR_eq ops.toList []
  rw [he] at h
  dsimp only at h
  cases hT : dstT (itemsGo 0 ops.toList []) .leaf with
  | none => rw [hT] at h; cases h
  | some T =>
    rw [hT] at h
    dsimp only at h
    cases ha : allR (ssaLR ops T) (itemsGo 0 ops.toList []) with
    | false => rw [ha] at h; cases h
    | true =>
      rw [ha] at h
      dsimp only at h
      cases hl : lowB (itemsGo 0 ops.toList []) with
      | false => rw [hl] at h; cases h
      | true =>
        rw [hl] at h
        have hs : ssaF ops (itemsGo 0 ops.toList []) = true := by
          unfold ssaF
          rw [hT]
          dsimp only
          rw [allR_eq, show ssaLR ops T = ssaL ops T from funext fun q => ssaLR_eq ops T q] at ha
          exact ha
        exact ⟨ssaF_ok hs, rfl, schN_ok _ _ _ _ _ ⟨fun it hit => ⟨hit, by simp⟩, fun it hit _ => hit, items_pw _ _ _⟩ h⟩
end Go.Proofs.Ytdammjolkcjogaa.Ev

/-! The evaluator: what an operation that came up ahead of others comes to hangs on what it looks at alone. -/
namespace Go.Proofs.Ytdammjolkcjogaa.Ev
open Go Go.RowKit
set_option linter.unusedVariables false
set_option linter.unusedSimpArgs false
section
variable {P : Program} {h h' : H} {tm tm' : Tr V}
theorem evL_tm : ∀ {l : List Operand}, (∀ x ∈ l, evO tm' x = evO tm x) → evL tm' l = evL tm l
  | [], _ => rfl
  | x :: l, hx => by
    unfold evL
    rw [hx x List.mem_cons_self, evL_tm (fun y hy => hx y (List.mem_cons_of_mem _ hy))]
theorem evP_tm : ∀ {l : List (Nat × Operand)}, (∀ x ∈ l, evO tm' x.2 = evO tm x.2) → evP tm' l = evP tm l
  | [], _ => rfl
  | (i, x) :: l, hx => by
    unfold evP
    rw [hx (i, x) List.mem_cons_self, evP_tm (fun y hy => hx y (List.mem_cons_of_mem _ hy))]
theorem evOO_tm : ∀ {o : Option Operand}, (∀ x ∈ o.toArray, evO tm' x = evO tm x) → evOO tm' o = evOO tm o
  | none, _ => rfl
  | some x, hx => by
    simp only [evOO, hx x (by simp)]
theorem pureOp_tm {op : Op} (hx : ∀ x ∈ op.operands.toList, evO tm' x = evO tm x) : pureOp P h tm' op = pureOp P h tm op := by
  cases op
  case build t ps =>
    simp only [pureOp]
    rw [evP_tm (fun x hxm => hx x.2 (by simp [Op.operands]; exact ⟨x.1, by simpa using hxm⟩))]
  case makeFunc fn f c =>
    simp only [pureOp]
    rw [evL_tm (fun x hxm => hx x (by simp [Op.operands]; exact .inl (by simpa using hxm))), evL_tm (fun x hxm => hx x (by simp [Op.operands]; exact .inr (by simpa using hxm)))]
  case slice t x lo hi mx =>
    simp only [pureOp]
    rw [hx x (by simp [Op.operands]), evOO_tm (fun y hy => hx y (by simp [Op.operands] at hy ⊢; exact .inr (.inl hy))), evOO_tm (fun y hy => hx y (by simp [Op.operands] at hy ⊢; exact .inr (.inr (.inl hy)))), evOO_tm (fun y hy => hx y (by simp [Op.operands] at hy ⊢; exact .inr (.inr (.inr hy))))]
  case call c =>
    simp only [pureOp]
    have ha : evL tm' c.args.toList = evL tm c.args.toList := by
      refine evL_tm fun x hxm => hx x ?_
      have hxm : x ∈ c.args := by simpa using hxm
      simp only [Op.operands, Call.operands]
      split <;> simp <;> first | exact .inr hxm | exact hxm
    rw [ha]
  all_goals first
    | rfl
    | (simp only [Op.operands] at hx
       simp only [pureOp]
       simp at hx
       simp only [hx])
theorem allocOp_tm {op : Op} (hx : ∀ x ∈ op.operands.toList, evO tm' x = evO tm x) : allocOp P h tm' op = allocOp P h tm op := by
  cases op
  case buildSlice t n ps =>
    simp only [allocOp]
    rw [evP_tm (fun x hxm => hx x.2 (by simp [Op.operands]; exact ⟨x.1, by simpa using hxm⟩))]
  case makeMap t r =>
    cases r with
    | none => rfl
    | some x =>
      simp only [allocOp]
      rw [hx x (by simp [Op.operands])]
  all_goals first
    | rfl
    | (simp only [Op.operands] at hx
       simp only [allocOp]
       simp at hx
       simp only [hx])
theorem ptrNe_mem {op : BinOp} {t u : TypeId} {x y : Operand} (hm : memB (.binOp op t x y u) = false) (a b : V) : ptrNe P h' op t a b = ptrNe P h op t a b := by
  unfold ptrNe
  split
  · split
    · split
      · cases op <;> first
          | (cases hm; done)
          | (generalize (!(Nat.beq _ _ && Nat.beq _ _) && cellsB h' _ && cellsB h' _) = c1
             generalize (!(Nat.beq _ _ && Nat.beq _ _) && cellsB h _ && cellsB h _) = c2
             cases c1 <;> cases c2 <;> rfl)
      · rfl
    · rfl
  · rfl
theorem pureOp_mem {op : Op} (hm : memB op = false) : pureOp P h' tm op = pureOp P h tm op := by
  cases op
  case binOp op t x y u =>
    simp only [pureOp]
    split
    · rfl
    · rw [ptrNe_mem (P := P) (h := h) (h' := h') hm]
    · rfl
  all_goals first | rfl | cases hm
theorem allocOp_mem {op : Op} (hm : memB op = false) : allocOp P h' tm op = allocOp P h tm op := by
  cases op <;> first | rfl | cases hm
theorem wantV_tm {ops : Array Oper} {o : Oper} (ht : ∀ t ∈ o.looksAt ops, tm'.get t = tm.get t) : wantV ops tm' o = wantV ops tm o := by
  unfold wantV
  split
  · rfl
  · rename_i j t hg
    split
    · rfl
    · rename_i oj hj
      split
      · rfl
      · rename_i d hd
        rw [ht d (by unfold Oper.looksAt; rw [hg]; simp [hj, hd])]
theorem evO_tm {ops : Array Oper} {o : Oper} (ht : ∀ t ∈ o.looksAt ops, tm'.get t = tm.get t) : ∀ x ∈ o.op.operands.toList, evO tm' x = evO tm x := by
  intro x hx
  cases x with
  | tmp t => exact ht t (by unfold Oper.looksAt; exact List.mem_append.2 (.inl (List.mem_filterMap.2 ⟨_, hx, rfl⟩)))
  | _ => rfl
end
section
variable {P : Program} {ops : Array Oper} {n : Nat} {s s' : St} {p : PI}
def stableK (p : PI) : Bool := match p.k with
  | .val _ => !(memB p.o.op)
  | .new .. => false
  | .skip => true
/-- What is looked at anew is as it was. -/
theorem chk_of (hc : chk P ops n s p = true) (ht : ∀ t ∈ p.o.looksAt ops, s'.tm.get t = s.tm.get t) (hd : ∀ d, p.o.dst = some d → s'.tm.get d = s.tm.get d)
    (hp : ∀ v, p.k = .val v → pureOp P s'.h s.tm p.o.op = pureOp P s.h s.tm p.o.op)
    (hn : ∀ b ob v, p.k = .new b ob v → allocOp P s'.h s.tm p.o.op = allocOp P s.h s.tm p.o.op ∧ s'.h.get b = s.h.get b) : chk P ops n s' p = true := by
  unfold chk at hc ⊢
  rw [wantV_tm ht]
  rw [Bool.and_eq_true] at hc ⊢
  refine ⟨?_, ?_⟩
  · have h1 := hc.1
    cases hdd : p.o.dst with
    | none => rfl
    | some d =>
      rw [hdd] at h1
      simp only at h1 ⊢
      rw [hd d hdd]
      exact h1
  · have h2 := hc.2
    have hops := evO_tm ht
    cases hk : p.k with
    | val v =>
      rw [hk] at h2
      simp only at h2 ⊢
      rw [pureOp_tm hops, hp v hk]
      exact h2
    | new b ob v =>
      rw [hk] at h2
      simp only at h2 ⊢
      obtain ⟨q1, q2⟩ := hn b ob v hk
      rw [allocOp_tm hops, q1, q2]
      exact h2
    | skip =>
      rw [hk] at h2
      exact h2
theorem chk_stable (hc : chk P ops n s p = true) (hst : stableK p = true) (ht : ∀ t ∈ p.o.looksAt ops, s'.tm.get t = s.tm.get t) (hd : ∀ d, p.o.dst = some d → s'.tm.get d = s.tm.get d) : chk P ops n s' p = true := by
  refine chk_of hc ht hd (fun v hk => ?_) (fun b ob v hk => ?_)
  · unfold stableK at hst
    rw [hk] at hst
    exact pureOp_mem (by simpa using hst)
  · unfold stableK at hst
    rw [hk] at hst
    cases hst
theorem sameC_rfl : ∀ a : Cap, sameC a a = true
  | .exact a => Nat.beq_refl a
  | .upto a m => by simp [sameC, Nat.beq_refl]
  | .tail a => Nat.beq_refl a
theorem sameA_rfl : ∀ a : Option (Nat × Nat), sameA a a = true
  | none => rfl
  | some a => by simp [sameA]
theorem sameLs_rfl : ∀ a : Option Nat, sameLs a a = true
  | none => rfl
  | some a => by simp [sameLs]
mutual
theorem sameV_rfl : ∀ a : V, sameV a a = true
  | .bool _ => by simp [sameV]
  | .int _ _ => by simp [sameV]
  | .str _ => by simp [sameV]
  | .ptr a => by simp only [sameV]; exact sameA_rfl a
  | .slice a n c => by simp [sameV, sameA_rfl a, sameC_rfl c]
  | .map a => by simp only [sameV]; exact sameLs_rfl a
  | .func fn f c => by simp [sameV, sameVs_rfl f, sameVs_rfl c]
  | .yield _ => by simp [sameV]
  | .nilFunc => rfl
  | .iface t x => by simp [sameV, sameV_rfl x]
  | .nilIface => rfl
  | .agg a => by simp only [sameV]; exact sameVs_rfl a
  | .tuple a => by simp only [sameV]; exact sameVs_rfl a
  | .stamp _ => by simp [sameV]
  | .junk => rfl
theorem sameVs_rfl : ∀ a : List V, sameVs a a = true
  | [] => rfl
  | a :: l => by simp [sameVs, sameV_rfl a, sameVs_rfl l]
end
end
end Go.Proofs.Ytdammjolkcjogaa.Ev

/-! The evaluator: the region that draws, by its laid order, is sound. -/
namespace Go.Proofs.Ytdammjolkcjogaa.Ev
open Go Go.RowKit
set_option linter.unusedVariables false
set_option linter.unusedSimpArgs false

def stepF (P : Program) (call : CallT) (ops : Array Oper) (n : Nat) : List SI → List PI → St → Option St
  | [], _, s => some s
  | .val it :: l, pend, s => (match freeS P ops n s it with
    | some (s', .val v) => stepF P call ops n l (cond (memB it.o.op) (⟨it.i, it.o, .val v⟩ :: pend) pend) s'
    | some (s', .skip) => stepF P call ops n l pend s'
    | _ => none)
  | .new it :: l, pend, s => (match freeS P ops n s it with
    | some (s', .new b ob v) => cond ((⟨it.i, it.o, .new b ob v⟩ :: pend).all fun p => !(memB p.o.op) || chk P ops n s' p) (stepF P call ops n l (⟨it.i, it.o, .new b ob v⟩ :: pend) s') none
    | some (s', .skip) => stepF P call ops n l pend s'
    | _ => none)
  | .eff it :: l, pend, s => (match step1 P call ops n it.o s with
    | some s' => cond ((pend.filter fun p => !(it.m.testBit p.i)).all (chk P ops n s')) (stepF P call ops n l (pend.filter fun p => !(it.m.testBit p.i)) s') none
    | none => none)
section
variable {P : Program} {ops : Array Oper} {n m : Nat} {w0 w : World} {e0 e : E} {dfs : List Deferred} {listed : Array Bool} {done : Nat} {pend : List PI} {s : St} {a : Act} {F : Fence} {call : CallT} {Q : Exit → Act → World → Prop}
theorem freeS_inv {s' : St} {it : It} {k : PK} (q : freeS P ops n s it = some (s', k)) :
    (wantV ops s.tm it.o = some false ∧ k = .skip ∧ ∃ tm, putO n s.tm it.o.dst (.tuple []) = some tm ∧ s' = ⟨tm, s.h⟩) ∨
    (wantV ops s.tm it.o = some true ∧ cls it.o.op = .pure ∧ ∃ v tm, pureOp P s.h s.tm it.o.op = some v ∧ k = .val v ∧ putO n s.tm it.o.dst v = some tm ∧ s' = ⟨tm, s.h⟩) ∨
    (wantV ops s.tm it.o = some true ∧ cls it.o.op = .alloc ∧ ∃ ob mk tm, allocOp P s.h s.tm it.o.op = some (ob, mk) ∧ k = .new s.h.nxt ob (mk s.h.nxt) ∧ putO n s.tm it.o.dst (mk s.h.nxt) = some tm ∧ s' = ⟨tm, s.h.new ob⟩) := by
  unfold freeS at q
  split at q
  · rename_i hw
    split at q
    · rename_i tm hp; cases q; exact .inl ⟨hw, rfl, tm, hp, rfl⟩
    · cases q
  · rename_i hw
    split at q
    · rename_i hc
      split at q
      · rename_i v hv
        split at q
        · rename_i tm hp; cases q; exact .inr (.inl ⟨hw, hc, v, tm, hv, rfl, hp, rfl⟩)
        · cases q
      · cases q
    · rename_i hc
      split at q
      · rename_i ob mk hv
        split at q
        · rename_i tm hp; cases q; exact .inr (.inr ⟨hw, hc, ob, mk, tm, hv, rfl, hp, rfl⟩)
        · cases q
      · cases q
    · cases q
  · cases q
theorem step1_tm {s' : St} {o : Oper} (q : step1 P call ops n o s = some s') : ∀ t, o.dst ≠ some t → s'.tm.get t = s.tm.get t := by
  intro t ht
  unfold step1 at q
  split at q
  · split at q
    · split at q
      · rename_i tm hp
        cases q
        show tm.get t = s.tm.get t
        rw [putO_get hp t, if_neg ht]
      · cases q
    · cases q
  · split at q
    · rename_i tm hp
      cases q
      show tm.get t = s.tm.get t
      rw [putO_get hp t, if_neg ht]
    · cases q
  · cases q
theorem putO_chk {tm tm' : Tr V} {dst : Option Tmp} {v : V} (q : putO n tm dst v = some tm') : (match (generalizing := false) dst with
    | none => true
    | some d => Nat.blt d n && (match tm'.get d with
      | some u => sameV u v
      | none => false)) = true := by
  cases dst with
  | none => rfl
  | some d =>
    have h1 := putO_get q d
    rw [if_pos rfl] at h1
    simp only [h1, sameV_rfl, Bool.and_true]
    exact Nat.le_of_lt_succ (Nat.succ_lt_succ_iff.2 (putO_lt q d rfl)) |> fun h => Nat.ble_eq_true_of_le (putO_lt q d rfl)
theorem sameO_cells (l : List V) (t : TypeId) : sameO (.cells l t none) (.cells l t none) = true := by simp [sameO, sameVs_rfl]
theorem allocOp_same {h : H} {tm : Tr V} {op : Op} {ob : O} {mk : Nat → V} (q : allocOp P h tm op = some (ob, mk)) (hm : memB op = false) : sameO ob ob = true := by
  cases op
  case alloc t =>
    simp only [allocOp] at q
    split at q
    · cases q; exact sameO_cells _ _
    · cases q
  case box t x =>
    simp only [allocOp] at q
    split at q
    · cases q
    · cases q; exact sameO_cells _ _
    · cases q
  case makeMap t r =>
    simp only [allocOp] at q
    split at q
    · cases q; rfl
    · split at q
      · cases q; rfl
      · cases q
  case makeSlice t l c =>
    simp only [allocOp] at q
    split at q
    · split at q
      · rename_i s z i _ _ _
        cases h1 : Nat.blt 0 s with
        | false => rw [h1] at q; cases q
        | true =>
          rw [h1] at q
          cases h2 : Nat.beq z.cells.length s with
          | false => rw [h2] at q; cases q
          | true =>
            rw [h2] at q
            simp only [cond_true] at q
            split at q
            · cases q; exact sameO_cells _ _
            · cases q
      · cases q
    · cases q
  case buildSlice t len ps =>
    simp only [allocOp] at q
    split at q
    · split at q
      · rename_i s z pp _ _ _
        cases h1 : Nat.beq len 0 with
        | true =>
          rw [h1] at q
          simp only [cond_true] at q
          split at q
          · cases q; exact sameO_cells _ _
          · cases q
        | false =>
          rw [h1] at q
          simp only [cond_false] at q
          cases h2 : Nat.ble (len * s) 16777216 with
          | false => rw [h2] at q; cases q
          | true =>
            rw [h2] at q
            simp only [cond_true] at q
            cases h3 : Nat.blt 0 (len * s) with
            | false => rw [h3] at q; cases q
            | true =>
              rw [h3] at q
              simp only [cond_true] at q
              split at q
              · rename_i cs _
                cases h4 : Nat.beq z.cells.length s with
                | false => rw [h4] at q; cases q
                | true => rw [h4] at q; cases q; exact sameO_cells _ _
              · cases q
      · cases q
    · cases q
  case range => cases hm
  all_goals (simp only [allocOp] at q; cases q)
/-- Who came up ahead, and what of it is looked at anew. -/
structure Lk (ops : Array Oper) (its : List It) (done : Nat) (fr : List It) (pg pd : List PI) : Prop where
  a : ∀ p ∈ pg, ∃ it ∈ fr, it.i = p.i ∧ it.o = p.o
  b : ∀ p ∈ pg, stableK p = true ∨ p ∈ pd
  c : ∀ it ∈ fr, it ∈ its ∧ ∀ j, it.m.testBit j = true → done.testBit j = true
theorem ssa_dst {its : List It} (hssa : ssaB ops its = true) {p q : It} (hp : p ∈ its) (hq : q ∈ its) (hne : p.i ≠ q.i) (hx : (isEff p.o.op && p.o.guard.isNone) = false) : ∀ t, q.o.dst = some t → p.o.dst ≠ some t := by
  intro t ht hpt
  have h1 := List.all_eq_true.1 hssa p hp
  rw [hpt, hx] at h1
  simp only [Bool.false_or] at h1
  have h2 := List.all_eq_true.1 h1 q hq
  rw [Bool.and_eq_true] at h2
  have h3 := h2.1
  rw [ht] at h3
  have hb : Nat.beq p.i q.i = false := by cases hh : Nat.beq p.i q.i with | false => rfl | true => exact absurd (Nat.eq_of_beq_eq_true hh) hne
  rw [hb] at h3
  simp at h3
theorem ssa_look {its : List It} (hssa : ssaB ops its = true) {p q : It} (hp : p ∈ its) (hq : q ∈ its) (hx : (isEff p.o.op && p.o.guard.isNone) = false) {d : Nat} (hd : p.o.dst = some d) (hl : d ∈ q.o.looksAt ops) : q.m.testBit p.i = true := by
  have h1 := List.all_eq_true.1 hssa p hp
  rw [hd, hx] at h1
  simp only [Bool.false_or] at h1
  have h2 := List.all_eq_true.1 h1 q hq
  rw [Bool.and_eq_true] at h2
  have h3 := h2.2
  have hc : (q.o.looksAt ops).contains d = true := by simpa using hl
  rw [hc] at h3
  simpa using h3
theorem mready_bit {it : It} {done : Nat} (h : mready it done = true) : ∀ j, it.m.testBit j = true → done.testBit j = true := by
  intro j hj
  have := Nat.eq_of_beq_eq_true h
  rw [← this, Nat.testBit_and] at hj
  simp only [Bool.and_eq_true] at hj
  exact hj.2
theorem drawFM (hF : Open F) (hcall : CallOk P call) (hssa : ssaB ops (itemsGo 0 ops.toList []) = true) (hlow : lowB (itemsGo 0 ops.toList []) = true) {s' : St}
    (hQ : ∀ e' a' w', e0.le e' → SRel w0 e' n s' a' w' → a'.defers = dfs → Q .normal a' w') :
    ∀ (l : List SI) (done : Nat) (fr : List It) (pg pd : List PI) (s : St) (fc : Nat) (listed : Array Bool) (e : E) (a : Act) (w : World), Sched ops (itemsGo 0 ops.toList []) done fr l → Lk ops (itemsGo 0 ops.toList []) done fr pg pd →
      stepF P call ops n l pd s = some s' → Inv P ops n w0 e0 dfs listed done pg s e a w → cnt (List.range ops.size) listed ≤ fc → wpAnyIn F m P .any ops Q fc listed a w := by
  intro l done fr pg pd s fc listed e a w hs
  induction hs generalizing pg pd s fc listed e a w with
  | nil hall =>
    intro L q I hc
    cases q
    refine sweep hF hssa hlow (fun listed e a w I hall => ?_) (fun fc listed e a w it' I hm' hnd' hr' h0 hpre hc => ?_) fc listed e a w I hc
    · refine hQ e a w I.le ⟨⟨I.tsz, fun t v ht => I.tr t v ht (fun p hp hu => ?_)⟩, I.rel⟩ I.dfs
      have hlt := (Array.getElem?_eq_some_iff.1 (I.mem p hp)).1
      have h1 := hall p.i hlt
      have : p.i < listed.size := by rw [I.size]; exact hlt
      have h2 : listed.getD p.i false = true := by simpa [this] using h1
      rw [hu] at h2
      cases h2
    · rw [hall it' hm'] at hnd'
      cases hnd'
  | @free done fr it l hm hr hne hsch ih =>
    intro L q I hc
    obtain ⟨hnd, hmr⟩ := rdy_m hr
    have hmb := mready_bit hmr
    -- what is written now, no one looks at that came up ahead
    have hself : ∀ d, it.o.dst = some d → d ∉ it.o.looksAt ops := fun d hd hl => by
      have := hmb _ (ssa_look hssa hm hm (by rw [hne]; rfl) hd hl)
      rw [hnd] at this
      cases this
    have hpl : ∀ p ∈ pg, ∀ d, it.o.dst = some d → d ∉ p.o.looksAt ops ∧ p.o.dst ≠ some d := fun p hp d hd => by
      obtain ⟨itp, h1, h2, h3⟩ := L.a p hp
      have hneq : itp.i ≠ it.i := fun hh => by have := I.pdn p hp; rw [← h2, hh, hnd] at this; cases this
      refine ⟨fun hl => ?_, fun hpd => ?_⟩
      · have := (L.c itp h1).2 _ (ssa_look hssa hm (L.c itp h1).1 (by rw [hne]; rfl) hd (by rw [h3]; exact hl))
        rw [hnd] at this
        cases this
      · exact ssa_dst hssa hm (L.c itp h1).1 (Ne.symm hneq) (by rw [hne]; rfl) d (by rw [h3]; exact hpd) hd
    -- who came up ahead comes to the same
    have old : ∀ (tm : Tr V) (v : V) (h' : H) (p : PI), putO n s.tm it.o.dst v = some tm → p ∈ pg → (∀ v, p.k = .val v → pureOp P h' s.tm p.o.op = pureOp P s.h s.tm p.o.op) →
        (∀ b ob v, p.k = .new b ob v → allocOp P h' s.tm p.o.op = allocOp P s.h s.tm p.o.op ∧ h'.get b = s.h.get b) → chk P ops n ⟨tm, h'⟩ p = true := by
      intro tm v h' p hput hp h1 h2
      refine chk_of (s' := ⟨tm, h'⟩) (I.chk p hp) (fun t ht => ?_) (fun d hd => ?_) h1 h2
      · show tm.get t = s.tm.get t
        rw [putO_get hput t, if_neg (fun hd => (hpl p hp t hd).1 ht)]
      · show tm.get d = s.tm.get d
        rw [putO_get hput d, if_neg (fun hd' => (hpl p hp d hd').2 hd)]
    have tmg : ∀ (tm : Tr V) (v : V), putO n s.tm it.o.dst v = some tm → ∀ t ∈ it.o.looksAt ops, tm.get t = s.tm.get t := fun tm v hput t ht => by
      rw [putO_get hput t, if_neg (fun hd => hself t hd ht)]
    have fin : ∀ (s1 : St) (k : PK) (pd' : List PI), freeS P ops n s it = some (s1, k) → (∀ p ∈ (⟨it.i, it.o, k⟩ : PI) :: pg, chk P ops n s1 p = true) → (∀ p ∈ pd, p ∈ pd') → (stableK ⟨it.i, it.o, k⟩ = true ∨ (⟨it.i, it.o, k⟩ : PI) ∈ pd') →
        stepF P call ops n l pd' s1 = some s' → wpAnyIn F m P .any ops Q fc listed a w := by
      intro s1 k pd' hfr hall hsub hnew hst
      obtain ⟨e', I'⟩ := I.free hm hnd hfr (List.all_eq_true.2 hall)
      refine ih _ pd' s1 fc listed e' a w ⟨fun p hp => ?_, fun p hp => ?_, fun q hq => ?_⟩ hst I' hc
      · rcases List.mem_cons.1 hp with rfl | hp
        · exact ⟨it, List.mem_cons_self, rfl, rfl⟩
        · obtain ⟨itp, h1, h2⟩ := L.a p hp
          exact ⟨itp, List.mem_cons_of_mem _ h1, h2⟩
      · rcases List.mem_cons.1 hp with rfl | hp
        · exact hnew
        · rcases L.b p hp with h | h
          · exact .inl h
          · exact .inr (hsub p h)
      · rcases List.mem_cons.1 hq with rfl | hq
        · exact ⟨hm, fun j hj => or_bit.2 (.inl (hmb j hj))⟩
        · exact ⟨(L.c q hq).1, fun j hj => or_bit.2 (.inl ((L.c q hq).2 j hj))⟩
    -- what it comes to itself
    have selfv : ∀ (v : V) (tm : Tr V), cls it.o.op = .pure → wantV ops s.tm it.o = some true → pureOp P s.h s.tm it.o.op = some v → putO n s.tm it.o.dst v = some tm → chk P ops n ⟨tm, s.h⟩ ⟨it.i, it.o, .val v⟩ = true := by
      intro v tm hcl hw hv hput
      unfold chk
      rw [Bool.and_eq_true]
      refine ⟨putO_chk hput, ?_⟩
      simp only [hne, hcl]
      rw [wantV_tm (tmg tm v hput), hw, pureOp_tm (evO_tm (tmg tm v hput)), hv]
      simp [isTrue, sameV_rfl]
    have selfs : ∀ (tm : Tr V), wantV ops s.tm it.o = some false → putO n s.tm it.o.dst (.tuple []) = some tm → chk P ops n ⟨tm, s.h⟩ ⟨it.i, it.o, .skip⟩ = true := by
      intro tm hw hput
      unfold chk
      rw [Bool.and_eq_true]
      refine ⟨putO_chk hput, ?_⟩
      show isFalse (wantV ops tm it.o) = true
      rw [wantV_tm (tmg tm _ hput), hw]
      rfl
    have selfn : ∀ (ob : O) (mk : Nat → V) (tm : Tr V), cls it.o.op = .alloc → wantV ops s.tm it.o = some true → allocOp P s.h s.tm it.o.op = some (ob, mk) → memB it.o.op = false → putO n s.tm it.o.dst (mk s.h.nxt) = some tm → sameO ob ob = true → chk P ops n ⟨tm, s.h.new ob⟩ ⟨it.i, it.o, .new s.h.nxt ob (mk s.h.nxt)⟩ = true := by
      intro ob mk tm hcl hw hv hmm hput hso
      unfold chk
      rw [Bool.and_eq_true]
      refine ⟨putO_chk hput, ?_⟩
      simp only [hne, hcl]
      rw [wantV_tm (tmg tm _ hput), hw, allocOp_tm (evO_tm (tmg tm _ hput)), allocOp_mem (h := s.h) hmm, hv, H.get_new, if_pos rfl]
      simp [isTrue, sameV_rfl, hso]
    have skip : ∀ (tm : Tr V), wantV ops s.tm it.o = some false → putO n s.tm it.o.dst (.tuple []) = some tm → freeS P ops n s it = some (⟨tm, s.h⟩, .skip) → stepF P call ops n l pd ⟨tm, s.h⟩ = some s' → wpAnyIn F m P .any ops Q fc listed a w := by
      intro tm hw hput hfr hst
      refine fin _ _ pd hfr (fun p hp => ?_) (fun p hp => hp) (.inl rfl) hst
      rcases List.mem_cons.1 hp with rfl | hp
      · exact selfs tm hw hput
      · exact old tm _ s.h p hput hp (fun _ _ => rfl) (fun _ _ _ _ => ⟨rfl, rfl⟩)
    unfold clsSI at q
    split at q
    · rename_i hcl
      unfold stepF at q
      cases hfr : freeS P ops n s it with
      | none => rw [hfr] at q; cases q
      | some r =>
        obtain ⟨s1, k⟩ := r
        rw [hfr] at q
        rcases freeS_inv hfr with ⟨hw, rfl, tm, hput, rfl⟩ | ⟨_, hc2, _⟩ | ⟨hw, hc2, ob, mk, tm, hal, rfl, hput, rfl⟩
        · exact skip tm hw hput hfr q
        · rw [hcl] at hc2; cases hc2
        · simp only at q
          cases hch : ((⟨it.i, it.o, .new s.h.nxt ob (mk s.h.nxt)⟩ : PI) :: pd).all fun p => !(memB p.o.op) || chk P ops n ⟨tm, s.h.new ob⟩ p with
          | false => rw [hch] at q; cases q
          | true =>
            rw [hch] at q
            simp only [cond_true] at q
            have hch := List.all_eq_true.1 hch
            have dyn : ∀ p ∈ (⟨it.i, it.o, .new s.h.nxt ob (mk s.h.nxt)⟩ : PI) :: pd, memB p.o.op = true → chk P ops n ⟨tm, s.h.new ob⟩ p = true := fun p hp hmm => by
              have := hch p hp
              rw [hmm] at this
              simpa using this
            refine fin _ _ (⟨it.i, it.o, .new s.h.nxt ob (mk s.h.nxt)⟩ :: pd) hfr (fun p hp => ?_) (fun p hp => List.mem_cons_of_mem _ hp) (.inr List.mem_cons_self) q
            rcases List.mem_cons.1 hp with rfl | hp
            · cases hmm : memB it.o.op with
              | true => exact dyn _ List.mem_cons_self hmm
              | false => exact selfn ob mk tm hcl hw hal hmm hput (allocOp_same hal hmm)
            · cases hmm : memB p.o.op with
              | true =>
                rcases L.b p hp with hst | hin
                · cases hk : p.k with
                  | val v => unfold stableK at hst; rw [hk, hmm] at hst; cases hst
                  | new b ob v => unfold stableK at hst; rw [hk] at hst; cases hst
                  | skip => exact old tm _ _ p hput hp (fun v hk' => by rw [hk] at hk'; cases hk') (fun b ob v hk' => by rw [hk] at hk'; cases hk')
                · exact dyn p (List.mem_cons_of_mem _ hin) hmm
              | false =>
                refine old tm _ _ p hput hp (fun v hk => pureOp_mem hmm) (fun b ob' v hk => ⟨allocOp_mem hmm, ?_⟩)
                rw [H.get_new, if_neg]
                have := I.nlt p hp b ob' v hk
                omega
    · rename_i hcl
      unfold stepF at q
      cases hfr : freeS P ops n s it with
      | none => rw [hfr] at q; cases q
      | some r =>
        obtain ⟨s1, k⟩ := r
        rw [hfr] at q
        rcases freeS_inv hfr with ⟨hw, rfl, tm, hput, rfl⟩ | ⟨hw, hc2, v, tm, hv, rfl, hput, rfl⟩ | ⟨_, hc2, _⟩
        · exact skip tm hw hput hfr q
        · refine fin _ _ _ hfr (fun p hp => ?_) (fun p hp => ?_) ?_ q
          · rcases List.mem_cons.1 hp with rfl | hp
            · exact selfv v tm hc2 hw hv hput
            · exact old tm _ s.h p hput hp (fun _ _ => rfl) (fun _ _ _ _ => ⟨rfl, rfl⟩)
          · cases memB it.o.op with
            | true => exact List.mem_cons_of_mem _ hp
            | false => exact hp
          · cases hmm : memB it.o.op with
            | true => exact .inr List.mem_cons_self
            | false => exact .inl (by unfold stableK; simp only [hmm]; rfl)
        · rw [hc2] at hcl; exact absurd rfl hcl
  | @eff done fr it l hm hr huniq hclean hsch ih =>
    intro L q I hc
    obtain ⟨hnd, hmr⟩ := rdy_m hr
    have hmb := mready_bit hmr
    unfold stepF at q
    split at q
    · rename_i s1 hs1
      cases hch : (pd.filter fun p => !(it.m.testBit p.i)).all (chk P ops n s1) with
      | false => rw [hch] at q; cases q
      | true =>
        rw [hch] at q
        simp only [cond_true] at q
        have hch := List.all_eq_true.1 hch
        have hchk : ((pg.filter fun p => !(it.m.testBit p.i)).all (Ev.chk P ops n s1)) = true := by
          refine List.all_eq_true.2 fun p hp => ?_
          obtain ⟨hpg, hpb⟩ := List.mem_filter.1 hp
          rcases L.b p hpg with hst | hin
          · obtain ⟨itp, h1, h2, h3⟩ := L.a p hpg
            have hneq : itp.i ≠ it.i := fun hh => by have := I.pdn p hpg; rw [← h2, hh, hnd] at this; cases this
            refine chk_stable (I.chk p hpg) hst (fun t ht => step1_tm hs1 t (fun hd => ?_)) (fun d hd => step1_tm hs1 d (fun hd' => ?_))
            · unfold cleanB at hclean
              rw [hd] at hclean
              have := List.all_eq_true.1 hclean itp (List.mem_filter.2 ⟨h1, by rw [h2]; exact hpb⟩)
              rw [h3] at this
              have hcc : (p.o.looksAt ops).contains t = true := by simpa using ht
              rw [hcc] at this
              cases this
            · exact ssa_dst hssa (L.c itp h1).1 hm hneq (by rw [h3]; exact not_eff I hpg) d hd' (by rw [h3]; exact hd)
          · exact hch p (List.mem_filter.2 ⟨hin, hpb⟩)
        obtain ⟨k0, hk0, hk1⟩ := items_mem ops.toList 0 [] it hm
        have hoi : ops[it.i]? = some it.o := by rw [hk0]; simpa using hk1
        have hlt := (Array.getElem?_eq_some_iff.1 hoi).1
        refine sweep hF hssa hlow (fun listed e a w I hall => ?_) (fun fc listed e a w it' I hm' hnd' hr' h0 hpre hc => ?_) fc listed e a w I hc
        · have h1 := hall it.i hlt
          have h2 : listed.getD it.i false = true := by
            have : it.i < listed.size := by rw [I.size]; exact hlt
            simpa [this] using h1
          rw [I.sub it.i h2] at hnd
          cases hnd
        · obtain rfl := huniq it' hm' hr'
          refine exec_eff hF hcall hssa I hm hnd h0 hpre hs1 hchk (fun e' a' w' I' => ih (pg.filter fun p => !(it'.m.testBit p.i)) (pd.filter fun p => !(it'.m.testBit p.i)) s1 fc _ e' a' w' ⟨fun p hp => ?_, fun p hp => ?_, fun q hq => ?_⟩ q I' ?_)
          · obtain ⟨hpg, hpb⟩ := List.mem_filter.1 hp
            obtain ⟨itp, h1, h2, h3⟩ := L.a p hpg
            exact ⟨itp, List.mem_filter.2 ⟨h1, by rw [h2]; exact hpb⟩, h2, h3⟩
          · obtain ⟨hpg, hpb⟩ := List.mem_filter.1 hp
            rcases L.b p hpg with h | h
            · exact .inl h
            · exact .inr (List.mem_filter.2 ⟨h, hpb⟩)
          · obtain ⟨hq1, _⟩ := List.mem_filter.1 hq
            exact ⟨(L.c q hq1).1, fun j hj => or_bit.2 (.inl ((L.c q hq1).2 j hj))⟩
          · have := cnt_lt h0 _ (List.mem_range.2 hlt)
            omega
    · cases q
end
noncomputable def drawF (P : Program) (call : CallT) : DrawT := fun ops n s =>
  match schedR ops with
  | some l => stepF P call ops n l [] s
  | none => drawV P call ops n s
theorem drawF_ok {P : Program} {call : CallT} (hm : P.follows .mixedOrders = true) (hcall : CallOk P call) : DrawOk P call (drawF P call) where
  ok := by
    intro F hF w0 e n s s' a w m id ops Q S q hQ
    unfold drawF at q
    split at q
    · rename_i l hl
      obtain ⟨hssa, hlow, hsch⟩ := sched_ok hl
      refine wpIn_region_any hm (drawFM hF hcall hssa hlow (e0 := e) (dfs := a.defers) hQ l 0 [] [] [] s ops.size _ e a _ hsch ⟨fun p hp => (by cases hp), fun p hp => (by cases hp), fun p hp => (by cases hp)⟩ q ?_ ?_)
      · refine ⟨by simp, fun i h => ?_, fun i h1 h2 h3 => ?_, fun p hp => (by cases hp), fun p hp => (by cases hp), fun p hp => (by cases hp), fun i o ho h => ?_, S.t.1, fun t v ht _ => S.t.2 t v ht, S.r.drew, fun p hp => (by cases hp), fun p hp => (by cases hp), fun p hp => (by cases hp), E.le.refl e, rfl⟩
        · by_cases hi : i < ops.size <;> simp [hi] at h
        · simp at h2
        · by_cases hi : i < ops.size <;> simp [hi] at h
      · have := cnt_len (Array.replicate ops.size false) (List.range ops.size)
        simpa using this
    · exact (drawV_ok hm hcall).ok hF S q hQ
end Go.Proofs.Ytdammjolkcjogaa.Ev

/-! The evaluator's hot path, told by recursors: the same, and the kernel runs it faster. -/
namespace Go.Proofs.Ytdammjolkcjogaa.Ev
open Go Go.RowKit
set_option linter.unusedVariables false
set_option linter.unusedSimpArgs false

noncomputable def opdR (x : Operand) (tm : Tr V) : Option V :=
  Operand.rec (motive := fun _ => Option V) (fun t => LG.rec (motive := fun _ => Option V) (fun g => g tm) (lensG t)) (fun v => toV 12 v) (fun _ => none) (fun f => some (.func (.func f) [] [])) x
theorem opdR_eq (x : Operand) (tm : Tr V) : opdR x tm = evO tm x := by cases x <;> rfl
noncomputable def evLR (l : List Operand) : Tr V → Option (List V) :=
  List.rec (motive := fun _ => Tr V → Option (List V)) (fun _ => some []) (fun x _ ih tm => Option.rec (motive := fun _ => Option (List V)) none (fun v => Option.rec (motive := fun _ => Option (List V)) none (fun vs => some (v :: vs)) (ih tm)) (opdR x tm)) l
theorem evLR_eq (tm : Tr V) : ∀ l : List Operand, evLR l tm = evL tm l
  | [] => rfl
  | x :: l => by
    show Option.rec (motive := fun _ => Option (List V)) none (fun v => Option.rec (motive := fun _ => Option (List V)) none (fun vs => some (v :: vs)) (evLR l tm)) (opdR x tm) = _
    rw [opdR_eq, evLR_eq tm l]
    show _ = (match evO tm x, evL tm l with
      | some v, some vs => some (v :: vs)
      | _, _ => none)
    cases evO tm x with
    | none => rfl
    | some v => cases evL tm l <;> rfl

noncomputable def asPtr (v : V) : Option (Nat × Nat) := V.rec (motive_1 := fun _ => Option (Nat × Nat)) (motive_2 := fun _ => PUnit) (fun _ => none) (fun _ _ => none) (fun _ => none) (fun a => a) (fun _ _ _ => none) (fun _ => none) (fun _ _ _ _ _ => none) (fun _ => none) (none) (fun _ _ _ => none) (none) (fun _ _ => none) (fun _ _ => none) (fun _ => none) (none) PUnit.unit (fun _ _ _ _ => PUnit.unit) v
theorem asPtr_eq (v : V) : asPtr v = match v with
  | .ptr (some p) => some p
  | _ => none := by
  cases v <;> try rfl
  rename_i a
  cases a <;> rfl
/-- One cell; some cells; cells anew. -/
noncomputable def cellR (off : Nat) : List V → Option V :=
  Nat.rec (motive := fun _ => List V → Option V) (fun l => List.rec (motive := fun _ => Option V) none (fun a _ _ => some a) l) (fun _ ih l => List.rec (motive := fun _ => Option V) none (fun _ t _ => ih t) l) off
theorem cellR_eq : ∀ (off : Nat) (l : List V), cellR off l = l[off]?
  | 0, [] => rfl
  | 0, _ :: _ => rfl
  | n + 1, [] => rfl
  | n + 1, _ :: l => by rw [List.getElem?_cons_succ]; exact cellR_eq n l
noncomputable def takeR (n : Nat) : List V → Option (List V) :=
  Nat.rec (motive := fun _ => List V → Option (List V)) (fun _ => some []) (fun _ ih l => List.rec (motive := fun _ => Option (List V)) none (fun a t _ => Option.rec (motive := fun _ => Option (List V)) none (fun r => some (a :: r)) (ih t)) l) n
theorem takeR_eq : ∀ (n : Nat) (l : List V), takeR n l = cond (Nat.ble n l.length) (some (l.take n)) none
  | 0, l => rfl
  | n + 1, [] => rfl
  | n + 1, a :: l => by
    show Option.rec (motive := fun _ => Option (List V)) none (fun r => some (a :: r)) (takeR n l) = _
    rw [takeR_eq n l]
    show _ = cond (Nat.ble n l.length) (some (a :: l.take n)) none
    cases Nat.ble n l.length <;> rfl
noncomputable def cellsR (n off : Nat) : List V → Option (List V) :=
  Nat.rec (motive := fun _ => List V → Option (List V)) (fun l => takeR n l) (fun _ ih l => List.rec (motive := fun _ => Option (List V)) none (fun _ t _ => ih t) l) off
theorem cellsR_eq (n : Nat) (hn : 0 < n) : ∀ (off : Nat) (l : List V), cellsR n off l = cond (Nat.ble (off + n) l.length) (some ((l.drop off).take n)) none
  | 0, l => by rw [Nat.zero_add]; exact takeR_eq n l
  | k + 1, [] => by
    have h : Nat.ble (k + 1 + n) ([] : List V).length = false := by
      cases h : Nat.ble (k + 1 + n) ([] : List V).length with
      | false => rfl
      | true => have := Nat.le_of_ble_eq_true h; simp at this
    rw [h]; rfl
  | k + 1, a :: l => by
    show cellsR n k l = _
    rw [cellsR_eq n hn k l]
    have : Nat.ble (k + 1 + n) (a :: l).length = Nat.ble (k + n) l.length := by rw [show k + 1 + n = (k + n) + 1 by omega]; rfl
    rw [this, List.drop_succ_cons]
noncomputable def getR (h : H) (b : Nat) : Option O := H.rec (motive := fun _ => Option O) (fun hp _ _ _ => LG.rec (motive := fun _ => Option O) (fun g => g hp) (lensG b)) h
theorem getR_eq (h : H) (b : Nat) : getR h b = h.get b := rfl
noncomputable def getWR (h : H) (b : Nat) : Option O := getR h b
theorem getWR_eq (h : H) (b : Nat) : getWR h b = h.getW b := rfl
noncomputable def oneR (off : Nat) (o : O) : Option V := O.rec (motive := fun _ => Option V) (fun l _ _ => cellR off l) (fun _ _ => none) (fun _ _ _ _ => none) (fun _ => none) none o
noncomputable def manyR (n off : Nat) (o : O) : Option V := O.rec (motive := fun _ => Option V) (fun l _ _ => Option.rec (motive := fun _ => Option V) none (fun r => some (.agg r)) (cellsR n off l)) (fun _ _ => none) (fun _ _ _ _ => none) (fun _ => none) none o
noncomputable def aggR (h : H) (p : Nat × Nat) (n : Nat) : Option V :=
  Nat.rec (motive := fun _ => Option V) (Option.rec (motive := fun _ => Option V) none (fun l => some (.agg l)) (loadN h p 0)) (fun k _ => Prod.rec (motive := fun _ => Option V) (fun b off => Option.rec (motive := fun _ => Option V) none (manyR (Nat.succ k) off) (getR h b)) p) n
noncomputable def celR (h : H) (p : Nat × Nat) : Option V := Prod.rec (motive := fun _ => Option V) (fun b off => Option.rec (motive := fun _ => Option V) none (oneR off) (getR h b)) p
noncomputable def loadR (P : Program) (t : TypeId) (h : H) (p : Nat × Nat) : Option V :=
  Option.rec (motive := fun _ => Option V) none (fun ag => Bool.rec (motive := fun _ => Option V) (celR h p) (Option.rec (motive := fun _ => Option V) none (aggR h p) (sz P t)) ag) (isAg P t)
theorem celV_eq (l : List V) (off : Nat) : (match cond (Nat.ble (off + 1) l.length) (some ((l.drop off).take 1)) none with
    | some [v] => some v
    | _ => none) = l[off]? := by
  cases h : Nat.ble (off + 1) l.length with
  | false =>
    have : ¬ off < l.length := fun h' => by rw [Nat.ble_eq_true_of_le h'] at h; cases h
    rw [List.getElem?_eq_none (by omega)]
    rfl
  | true =>
    have hlt : off < l.length := Nat.le_of_ble_eq_true h
    have hd : (l.drop off).take 1 = [l[off]] := by rw [List.drop_eq_getElem_cons hlt]; rfl
    rw [cond_true, hd, List.getElem?_eq_getElem hlt]
theorem celR_eq (h : H) (p : Nat × Nat) : celR h p = match loadN h p 1 with
    | some [v] => some v
    | _ => none := by
  obtain ⟨b, off⟩ := p
  show Option.rec (motive := fun _ => Option V) none (oneR off) (h.get b) = _
  unfold loadN
  dsimp only
  cases h.get b with
  | none => rfl
  | some o => cases o with
    | cells l t opn =>
      dsimp only
      rw [celV_eq]
      exact cellR_eq off l
    | _ => rfl
theorem aggR_eq (h : H) (p : Nat × Nat) (n : Nat) : aggR h p n = match loadN h p n with
    | some l => some (.agg l)
    | none => none := by
  cases n with
  | zero =>
    show Option.rec (motive := fun _ => Option V) none (fun l => some (.agg l)) (loadN h p 0) = _
    cases loadN h p 0 <;> rfl
  | succ k =>
    obtain ⟨b, off⟩ := p
    show Option.rec (motive := fun _ => Option V) none (manyR (Nat.succ k) off) (h.get b) = _
    unfold loadN
    dsimp only
    cases h.get b with
    | none => rfl
    | some o => cases o with
      | cells l t opn =>
        show Option.rec (motive := fun _ => Option V) none (fun r => some (.agg r)) (cellsR (k + 1) off l) = _
        rw [cellsR_eq (k + 1) (Nat.succ_pos k)]
        dsimp only
        cases Nat.ble (off + (k + 1)) l.length <;> rfl
      | _ => rfl
theorem loadR_eq (P : Program) (t : TypeId) (h : H) (p : Nat × Nat) : loadR P t h p = loadV P h t p := by
  unfold loadR loadV
  cases isAg P t with
  | none => rfl
  | some ag => cases ag with
    | false => exact celR_eq h p
    | true => cases sz P t with
      | none => rfl
      | some n => exact aggR_eq h p n

noncomputable def simpleV (v : V) : Bool := V.rec (motive_1 := fun _ => Bool) (motive_2 := fun _ => PUnit) (fun _ => true) (fun _ _ => true) (fun _ => true) (fun _ => true) (fun _ _ _ => true) (fun _ => true) (fun _ _ _ _ _ => true) (fun _ => true) (true) (fun _ _ _ => true) (true) (fun _ _ => false) (fun _ _ => false) (fun _ => true) (false) PUnit.unit (fun _ _ _ _ => PUnit.unit) v
noncomputable def asInt (v : V) : Option (IntKind × Int) := V.rec (motive_1 := fun _ => Option (IntKind × Int)) (motive_2 := fun _ => PUnit) (fun _ => none) (fun k n => some (k, n)) (fun _ => none) (fun _ => none) (fun _ _ _ => none) (fun _ => none) (fun _ _ _ _ _ => none) (fun _ => none) (none) (fun _ _ _ => none) (none) (fun _ _ => none) (fun _ _ => none) (fun _ => none) (none) PUnit.unit (fun _ _ _ _ => PUnit.unit) v
noncomputable def asFn (v : V) : Option (Fn × List V × List V) := V.rec (motive_1 := fun _ => Option (Fn × List V × List V)) (motive_2 := fun _ => PUnit) (fun _ => none) (fun _ _ => none) (fun _ => none) (fun _ => none) (fun _ _ _ => none) (fun _ => none) (fun fn f c _ _ => some (fn, f, c)) (fun _ => none) (none) (fun _ _ _ => none) (none) (fun _ _ => none) (fun _ _ => none) (fun _ => none) (none) PUnit.unit (fun _ _ _ _ => PUnit.unit) v
noncomputable def asBool (v : V) : Option Bool := V.rec (motive_1 := fun _ => Option Bool) (motive_2 := fun _ => PUnit) (fun b => some b) (fun _ _ => none) (fun _ => none) (fun _ => none) (fun _ _ _ => none) (fun _ => none) (fun _ _ _ _ _ => none) (fun _ => none) (none) (fun _ _ _ => none) (none) (fun _ _ => none) (fun _ _ => none) (fun _ => none) (none) PUnit.unit (fun _ _ _ _ => PUnit.unit) v
noncomputable def asTup (v : V) : Option (List V) := V.rec (motive_1 := fun _ => Option (List V)) (motive_2 := fun _ => PUnit) (fun _ => none) (fun _ _ => none) (fun _ => none) (fun _ => none) (fun _ _ _ => none) (fun _ => none) (fun _ _ _ _ _ => none) (fun _ => none) (none) (fun _ _ _ => none) (none) (fun _ _ => none) (fun l _ => some l) (fun _ => none) (none) PUnit.unit (fun _ _ _ _ => PUnit.unit) v
theorem asInt_eq {v : V} {r : IntKind × Int} (h : asInt v = some r) : v = .int r.1 r.2 := by
  cases v <;> first | (cases h; rfl) | cases h
theorem asFn_eq {v : V} {r : Fn × List V × List V} (h : asFn v = some r) : v = .func r.1 r.2.1 r.2.2 := by
  cases v <;> first | (cases h; rfl) | cases h
theorem asFn_none {v : V} (h : asFn v = none) : ∀ fn f c, v ≠ .func fn f c := by
  intro fn f c q
  subst q
  cases h
theorem simpleV_cells {v : V} (h : simpleV v = true) : v.cells = [v] ∧ v.ok = true ∧ v.one = true := by
  cases v <;> first | exact ⟨rfl, rfl, rfl⟩ | cases h
noncomputable def overR (vs : List V) : List V → Option (List V) :=
  List.rec (motive := fun _ => List V → Option (List V)) (fun l => some l) (fun v _ ih l => List.rec (motive := fun _ => Option (List V)) none (fun _ t _ => Option.rec (motive := fun _ => Option (List V)) none (fun r => some (v :: r)) (ih t)) l) vs
theorem overR_eq : ∀ (vs l : List V), overR vs l = cond (Nat.ble vs.length l.length) (some (vs ++ l.drop vs.length)) none
  | [], l => rfl
  | v :: vs, [] => rfl
  | v :: vs, a :: l => by
    show Option.rec (motive := fun _ => Option (List V)) none (fun r => some (v :: r)) (overR vs l) = cond (Nat.ble vs.length l.length) (some (v :: (vs ++ l.drop vs.length))) none
    rw [overR_eq vs l]
    cases Nat.ble vs.length l.length <;> rfl
noncomputable def setAtR (vs : List V) (off : Nat) : List V → Option (List V) :=
  Nat.rec (motive := fun _ => List V → Option (List V)) (fun l => overR vs l) (fun _ ih l => List.rec (motive := fun _ => Option (List V)) none (fun a t _ => Option.rec (motive := fun _ => Option (List V)) none (fun r => some (a :: r)) (ih t)) l) off
theorem setAtR_eq (vs : List V) (hv : vs ≠ []) : ∀ (off : Nat) (l : List V), setAtR vs off l = cond (Nat.ble (off + vs.length) l.length) (some (setR l off vs)) none
  | 0, l => by
    rw [Nat.zero_add]
    show overR vs l = _
    rw [overR_eq]
    simp [setR]
  | n + 1, [] => by
    have h : Nat.ble (n + 1 + vs.length) ([] : List V).length = false := by
      cases h : Nat.ble (n + 1 + vs.length) ([] : List V).length with
      | false => rfl
      | true => have := Nat.le_of_ble_eq_true h; simp at this
    rw [h]; rfl
  | n + 1, a :: l => by
    show Option.rec (motive := fun _ => Option (List V)) none (fun r => some (a :: r)) (setAtR vs n l) = _
    rw [setAtR_eq vs hv n l]
    have h : Nat.ble (n + 1 + vs.length) (a :: l).length = Nat.ble (n + vs.length) l.length := by rw [show n + 1 + vs.length = (n + vs.length) + 1 by omega]; rfl
    have h2 : setR (a :: l) (n + 1) vs = a :: setR l n vs := by
      unfold setR
      rw [List.take_succ_cons, show n + 1 + vs.length = (n + vs.length) + 1 by omega, List.drop_succ_cons]
      rfl
    rw [h, h2]
    cases Nat.ble (n + vs.length) l.length <;> rfl
noncomputable def putObR (h : H) (b : Nat) (t : TypeId) (opn : Option Nat) (o : Option (List V)) : Option H := Option.rec (motive := fun _ => Option H) none (fun l => some (h.set b (some (.cells l t opn)))) o
noncomputable def storeObR (h : H) (b off : Nat) (vs : List V) (o : O) : Option H := O.rec (motive := fun _ => Option H) (fun l t opn => putObR h b t opn (setAtR vs off l)) (fun _ _ => none) (fun _ _ _ _ => none) (fun _ => none) none o
noncomputable def storeR (h : H) (p : Nat × Nat) (vs : List V) : Option H :=
  Prod.rec (motive := fun _ => Option H) (fun b off => Option.rec (motive := fun _ => Option H) none (storeObR h b off vs) (getWR h b)) p
theorem storeR_eq (h : H) (p : Nat × Nat) (vs : List V) (hv : vs ≠ []) (ho : vs.all V.one = true) : storeR h p vs = storeN h p vs := by
  obtain ⟨b, off⟩ := p
  show Option.rec (motive := fun _ => Option H) none (storeObR h b off vs) (getWR h b) = _
  rw [getWR_eq]
  unfold storeN
  dsimp only
  cases h.getW b with
  | none => rfl
  | some o => cases o with
    | cells l t opn =>
      show putObR h b t opn (setAtR vs off l) = _
      rw [setAtR_eq vs hv]
      dsimp only
      rw [ho]
      cases Nat.ble (off + vs.length) l.length <;> rfl
    | _ => rfl
noncomputable def doneR (o : Option H) : Option (V × H) := Option.rec (motive := fun _ => Option (V × H)) none (fun h' => some (.tuple [], h')) o
def storeG (h : H) (p : Nat × Nat) (v : V) (n : Nat) : Option (V × H) := cond (v.ok && Nat.beq v.cells.length n) (match storeN h p v.cells with
  | some h' => some (.tuple [], h')
  | none => none) none
noncomputable def storeS (h : H) (p : Nat × Nat) (v : V) (n : Nat) : Option (V × H) :=
  Bool.rec (motive := fun _ => Option (V × H)) (storeG h p v n) (Bool.rec (motive := fun _ => Option (V × H)) none (doneR (storeR h p [v])) (Nat.beq 1 n)) (simpleV v)
theorem storeS_eq (h : H) (p : Nat × Nat) (v : V) (n : Nat) : storeS h p v n = storeG h p v n := by
  unfold storeS
  cases hs : simpleV v with
  | false => rfl
  | true =>
    obtain ⟨h1, h2, h3⟩ := simpleV_cells hs
    unfold storeG
    rw [h1, h2]
    show Bool.rec (motive := fun _ => Option (V × H)) none (doneR (storeR h p [v])) (Nat.beq 1 n) = _
    rw [storeR_eq h p [v] (by simp) (by simp [h3])]
    simp only [Bool.true_and, List.length_singleton]
    cases Nat.beq 1 n with
    | false => rfl
    | true =>
      show doneR (storeN h p [v]) = _
      cases storeN h p [v] <;> rfl
noncomputable def bindP (o : Option V) (k : Nat × Nat → Option (V × H)) : Option (V × H) := Option.rec (motive := fun _ => Option (V × H)) none (fun a => Option.rec (motive := fun _ => Option (V × H)) none k (asPtr a)) o
noncomputable def e_storeR (t : TypeId) (a x : Operand) (P : Program) (_ : CallT) (h : H) (tm : Tr V) : Option (V × H) :=
  bindP (opdR a tm) (fun p => Option.rec (motive := fun _ => Option (V × H)) none (fun v => Option.rec (motive := fun _ => Option (V × H)) none (storeS h p v) (sz P t)) (opdR x tm))
theorem e_storeR_eq (t : TypeId) (a x : Operand) (P : Program) (call : CallT) (h : H) (tm : Tr V) : e_storeR t a x P call h tm = e_store t a x P call h tm := by
  unfold e_storeR e_store bindP
  rw [opdR_eq, opdR_eq]
  cases evO tm a with
  | none => rfl
  | some av =>
    show Option.rec (motive := fun _ => Option (V × H)) none _ (asPtr av) = _
    rw [asPtr_eq]
    cases av with
    | ptr q => cases q with
      | none => rfl
      | some p => cases evO tm x with
        | none => rfl
        | some v => cases hz : sz P t with
          | none => simp only [hz]
          | some n =>
            simp only [hz]
            exact storeS_eq h p v n
    | _ => rfl
/-- A value, and the heap as it is. -/
noncomputable def withH (o : Option V) (h : H) : Option (V × H) := Option.rec (motive := fun _ => Option (V × H)) none (fun v => some (v, h)) o
theorem withH_eq (o : Option V) (h : H) : withH o h = wrapP o h := by cases o <;> rfl
noncomputable def r_load (t : TypeId) (a : Operand) (P : Program) (_ : CallT) (h : H) (tm : Tr V) : Option (V × H) := bindP (opdR a tm) (fun p => withH (loadR P t h p) h)
theorem r_load_eq (t : TypeId) (a : Operand) (P : Program) (call : CallT) (h : H) (tm : Tr V) : r_load t a P call h tm = wrapP (p_load t a P h tm) h := by
  unfold r_load p_load bindP
  rw [opdR_eq]
  cases evO tm a with
  | none => rfl
  | some av =>
    show Option.rec (motive := fun _ => Option (V × H)) none _ (asPtr av) = _
    rw [asPtr_eq]
    cases av with
    | ptr q => cases q with
      | none => rfl
      | some p =>
        show withH (loadR P t h p) h = _
        rw [withH_eq, loadR_eq]
    | _ => rfl
def fieldOff (P : Program) (s : TypeId) (f : Nat) : Option Nat :=
  match P.underlying s with
  | some (.struct fs) => (match fs[f]? with
    | some fl => (match sz P fl.type with
      | some (_ + 1) => some fl.offset
      | _ => none)
    | none => none)
  | _ => none
noncomputable def r_fieldAddr (s : TypeId) (x : Operand) (f : Nat) (P : Program) (_ : CallT) (h : H) (tm : Tr V) : Option (V × H) :=
  bindP (opdR x tm) (fun p => Option.rec (motive := fun _ => Option (V × H)) none (fun o => Prod.rec (motive := fun _ => Option (V × H)) (fun b off => some (.ptr (some (b, Nat.add off o)), h)) p) (fieldOff P s f))
theorem r_fieldAddr_eq (s : TypeId) (x : Operand) (f : Nat) (P : Program) (call : CallT) (h : H) (tm : Tr V) : r_fieldAddr s x f P call h tm = wrapP (p_fieldAddr s x f P h tm) h := by
  unfold r_fieldAddr p_fieldAddr bindP
  rw [opdR_eq]
  cases evO tm x with
  | none => rfl
  | some av =>
    show Option.rec (motive := fun _ => Option (V × H)) none _ (asPtr av) = _
    rw [asPtr_eq]
    unfold fieldA fieldOff
    cases hu : P.underlying s with
    | none => cases av with
      | ptr q => cases q <;> rfl
      | _ => rfl
    | some d => cases d with
      | struct fs => cases av with
        | ptr q => cases q with
          | none => rfl
          | some p =>
            dsimp only
            cases hf : fs[f]? with
            | none => rfl
            | some fl =>
              dsimp only
              cases sz P fl.type with
              | none => rfl
              | some n => cases n <;> rfl
        | _ => rfl
      | _ => cases av with
        | ptr q => cases q <;> rfl
        | _ => rfl

noncomputable def kNo (k : IntKind) : Nat := IntKind.rec (motive := fun _ => Nat) 0 1 2 3 4 5 6 7 k
noncomputable def kTop (k : IntKind) : Nat := IntKind.rec (motive := fun _ => Nat) 127 32767 2147483647 9223372036854775807 255 65535 4294967295 18446744073709551615 k
theorem kNo_eq (k k' : IntKind) : Nat.beq (kNo k) (kNo k') = decide (k = k') := by cases k <;> cases k' <;> rfl
theorem wrap_of {k : IntKind} {x : Int} (h1 : x % (2 ^ k.bits : Int) = x) (h2 : k.signed = true → x < (2 ^ (k.bits - 1) : Int)) : k.wrap x = x := by
  unfold IntKind.wrap
  simp only [h1]
  split
  · rename_i h
    simp only [Bool.and_eq_true, decide_eq_true_iff] at h
    have := h2 h.1
    omega
  · rfl
theorem wrap_small (k : IntKind) (n : Nat) (h : n ≤ kTop k) : k.wrap (Int.ofNat n) = Int.ofNat n := by
  have hn : (0 : Int) ≤ Int.ofNat n := Int.natCast_nonneg n
  have hi : (Int.ofNat n : Int) = (n : Int) := rfl
  cases k
  · have h : n ≤ 127 := h
    exact wrap_of (Int.emod_eq_of_lt hn (show Int.ofNat n < (2 ^ 8 : Int) by rw [hi]; omega)) (fun _ => show Int.ofNat n < (2 ^ 7 : Int) by rw [hi]; omega)
  · have h : n ≤ 32767 := h
    exact wrap_of (Int.emod_eq_of_lt hn (show Int.ofNat n < (2 ^ 16 : Int) by rw [hi]; omega)) (fun _ => show Int.ofNat n < (2 ^ 15 : Int) by rw [hi]; omega)
  · have h : n ≤ 2147483647 := h
    exact wrap_of (Int.emod_eq_of_lt hn (show Int.ofNat n < (2 ^ 32 : Int) by rw [hi]; omega)) (fun _ => show Int.ofNat n < (2 ^ 31 : Int) by rw [hi]; omega)
  · have h : n ≤ 9223372036854775807 := h
    exact wrap_of (Int.emod_eq_of_lt hn (show Int.ofNat n < (2 ^ 64 : Int) by rw [hi]; omega)) (fun _ => show Int.ofNat n < (2 ^ 63 : Int) by rw [hi]; omega)
  · have h : n ≤ 255 := h
    exact wrap_of (Int.emod_eq_of_lt hn (show Int.ofNat n < (2 ^ 8 : Int) by rw [hi]; omega)) (fun q => nomatch q)
  · have h : n ≤ 65535 := h
    exact wrap_of (Int.emod_eq_of_lt hn (show Int.ofNat n < (2 ^ 16 : Int) by rw [hi]; omega)) (fun q => nomatch q)
  · have h : n ≤ 4294967295 := h
    exact wrap_of (Int.emod_eq_of_lt hn (show Int.ofNat n < (2 ^ 32 : Int) by rw [hi]; omega)) (fun q => nomatch q)
  · have h : n ≤ 18446744073709551615 := h
    exact wrap_of (Int.emod_eq_of_lt hn (show Int.ofNat n < (2 ^ 64 : Int) by rw [hi]; omega)) (fun q => nomatch q)
noncomputable def ieq (a b : Int) : Bool := Int.rec (motive := fun _ => Bool) (fun m => Int.rec (motive := fun _ => Bool) (fun n => Nat.beq m n) (fun _ => false) b) (fun m => Int.rec (motive := fun _ => Bool) (fun _ => false) (fun n => Nat.beq m n) b) a
noncomputable def ile (a b : Int) : Bool := Int.rec (motive := fun _ => Bool) (fun m => Int.rec (motive := fun _ => Bool) (fun n => Nat.ble m n) (fun _ => false) b) (fun m => Int.rec (motive := fun _ => Bool) (fun _ => true) (fun n => Nat.ble n m) b) a
theorem ieq_eq (a b : Int) : ieq a b = (a == b) := by
  cases a with
  | ofNat m => cases b with
    | ofNat n =>
      show Nat.beq m n = _
      rw [Bool.eq_iff_iff]
      simp [Nat.beq_eq]
      omega
    | negSucc n =>
      show false = _
      rw [Bool.eq_iff_iff]
      simp
  | negSucc m => cases b with
    | ofNat n =>
      show false = _
      rw [Bool.eq_iff_iff]
      simp
    | negSucc n =>
      show Nat.beq m n = _
      rw [Bool.eq_iff_iff]
      simp [Nat.beq_eq]
theorem ile_eq (a b : Int) : ile a b = decide (a ≤ b) := by
  rw [Bool.eq_iff_iff, decide_eq_true_iff]
  cases a with
  | ofNat m => cases b with
    | ofNat n =>
      show Nat.ble m n = true ↔ _
      rw [Nat.ble_eq]
      simp only [Int.ofNat_eq_natCast]
      omega
    | negSucc n =>
      show false = true ↔ _
      simp only [Int.ofNat_eq_natCast, Int.negSucc_eq]
      simp
      omega
  | negSucc m => cases b with
    | ofNat n =>
      show true = true ↔ _
      simp only [Int.ofNat_eq_natCast, Int.negSucc_eq]
      simp
      omega
    | negSucc n =>
      show Nat.ble n m = true ↔ _
      rw [Nat.ble_eq]
      simp only [Int.negSucc_eq]
      omega
noncomputable def addR (k : IntKind) (a b : Int) : Int :=
  Int.rec (motive := fun _ => Int) (fun m => Int.rec (motive := fun _ => Int) (fun n => Bool.rec (motive := fun _ => Int) (k.wrap (a + b)) (Int.ofNat (Nat.add m n)) (Nat.ble (Nat.add m n) (kTop k))) (fun _ => k.wrap (a + b)) b) (fun _ => k.wrap (a + b)) a
theorem addR_eq (k : IntKind) (a b : Int) : addR k a b = k.wrap (a + b) := by
  cases a with
  | ofNat m => cases b with
    | ofNat n =>
      show Bool.rec (motive := fun _ => Int) (k.wrap (Int.ofNat m + Int.ofNat n)) (Int.ofNat (Nat.add m n)) (Nat.ble (Nat.add m n) (kTop k)) = _
      cases h : Nat.ble (Nat.add m n) (kTop k) with
      | false => rfl
      | true => exact (wrap_small k _ (Nat.le_of_ble_eq_true h)).symm
    | negSucc n => rfl
  | negSucc m => rfl
noncomputable def intR (op : BinOp) : IntKind → Int → Int → Option V :=
  BinOp.rec (motive := fun _ => IntKind → Int → Int → Option V)
    (fun k a b => some (.int k (addR k a b)))
    (fun k a b => semV (intOp .sub k a b)) (fun k a b => semV (intOp .mul k a b)) (fun k a b => semV (intOp .quo k a b)) (fun k a b => semV (intOp .rem k a b)) (fun k a b => semV (intOp .and k a b)) (fun k a b => semV (intOp .or k a b)) (fun k a b => semV (intOp .xor k a b))
    (fun k a b => none) (fun k a b => none) (fun k a b => semV (intOp .andNot k a b))
    (fun k a b => some (.bool (ieq a b))) (fun k a b => some (.bool (Bool.rec true false (ieq a b)))) (fun k a b => some (.bool (Bool.rec true false (ile b a)))) (fun k a b => some (.bool (ile a b))) (fun k a b => some (.bool (Bool.rec true false (ile a b)))) (fun k a b => some (.bool (ile b a))) op
noncomputable def isShift (op : BinOp) : Bool := BinOp.rec (motive := fun _ => Bool) false false false false false false false false true true false false false false false false false op
theorem not_rec (b : Bool) : (Bool.rec true false b : Bool) = !b := by cases b <;> rfl
theorem intR_eq (op : BinOp) (k : IntKind) (a b : Int) (h : isShift op = false) : intR op k a b = semV (intOp op k a b) := by
  cases op <;> first
    | (cases h; done)
    | rfl
    | (show some (V.int k (addR k a b)) = some (V.int k (k.wrap (a + b)))
       rw [addR_eq])
    | (show some (V.bool (ieq a b)) = some (V.bool (a == b))
       rw [ieq_eq])
    | (show some (V.bool (Bool.rec true false (ieq a b))) = some (V.bool (a != b))
       rw [not_rec, ieq_eq]; rfl)
    | (show some (V.bool (Bool.rec true false (ile b a))) = some (V.bool (decide (a < b)))
       rw [not_rec, ile_eq]; congr 2; rw [Bool.eq_iff_iff]; simp)
    | (show some (V.bool (ile a b)) = some (V.bool (decide (a ≤ b)))
       rw [ile_eq])
    | (show some (V.bool (Bool.rec true false (ile a b))) = some (V.bool (decide (a > b)))
       rw [not_rec, ile_eq]; congr 2; rw [Bool.eq_iff_iff]; simp)
    | (show some (V.bool (ile b a)) = some (V.bool (decide (a ≥ b)))
       rw [ile_eq])
theorem binI_ns {op : BinOp} (k : IntKind) (a : Int) (k' : IntKind) (b : Int) (h : isShift op = false) : binI op k a k' b = if k = k' then semV (intOp op k a b) else none := by
  cases op <;> first | (cases h; done) | rfl
noncomputable def binIR (op : BinOp) (k : IntKind) (a : Int) (k' : IntKind) (b : Int) : Option V :=
  Bool.rec (motive := fun _ => Option V) (Bool.rec (motive := fun _ => Option V) none (intR op k a b) (Nat.beq (kNo k) (kNo k'))) (binI op k a k' b) (isShift op)
theorem binIR_eq (op : BinOp) (k : IntKind) (a : Int) (k' : IntKind) (b : Int) : binIR op k a k' b = binI op k a k' b := by
  unfold binIR
  cases hs : isShift op with
  | true => rfl
  | false =>
    show Bool.rec (motive := fun _ => Option V) none (intR op k a b) (Nat.beq (kNo k) (kNo k')) = _
    rw [kNo_eq, intR_eq op k a b hs]
    rw [binI_ns k a k' b hs]
    by_cases hk : k = k'
    · rw [if_pos hk, decide_eq_true hk]
    · rw [if_neg hk, decide_eq_false hk]
noncomputable def r_binOp (op : BinOp) (t : TypeId) (x y : Operand) (u : TypeId) (P : Program) (_ : CallT) (h : H) (tm : Tr V) : Option (V × H) :=
  Option.rec (motive := fun _ => Option (V × H)) none (fun a => Option.rec (motive := fun _ => Option (V × H)) none (fun b =>
    Option.rec (motive := fun _ => Option (V × H)) (wrapP (p_binOp op t x y u P h tm) h) (fun p => Option.rec (motive := fun _ => Option (V × H)) (wrapP (p_binOp op t x y u P h tm) h) (fun q =>
      Prod.rec (motive := fun _ => Option (V × H)) (fun k i => Prod.rec (motive := fun _ => Option (V × H)) (fun k' j => withH (binIR op k i k' j) h) q) p) (asInt b)) (asInt a)) (opdR y tm)) (opdR x tm)
theorem r_binOp_eq (op : BinOp) (t : TypeId) (x y : Operand) (u : TypeId) (P : Program) (call : CallT) (h : H) (tm : Tr V) : r_binOp op t x y u P call h tm = wrapP (p_binOp op t x y u P h tm) h := by
  unfold r_binOp
  rw [opdR_eq, opdR_eq]
  cases hx : evO tm x with
  | none => unfold p_binOp; rw [hx]; rfl
  | some a => cases hy : evO tm y with
    | none => unfold p_binOp; rw [hx, hy]; cases a <;> rfl
    | some b =>
      dsimp only
      cases ha : asInt a with
      | none => rfl
      | some p => cases hb : asInt b with
        | none => rfl
        | some q =>
          obtain ⟨k, i⟩ := p
          obtain ⟨k', j⟩ := q
          have h1 := asInt_eq ha
          have h2 := asInt_eq hb
          subst h1
          subst h2
          show withH (binIR op k i k' j) h = _
          rw [withH_eq, binIR_eq]
          unfold p_binOp
          rw [hx, hy]
          show wrapP (binI op k i k' j) h = wrapP (match binI op k i k' j with
            | some v => some v
            | none => none) h
          cases binI op k i k' j <;> rfl
noncomputable def r_extract (t : Operand) (i : Nat) (P : Program) (_ : CallT) (h : H) (tm : Tr V) : Option (V × H) :=
  Option.rec (motive := fun _ => Option (V × H)) none (fun a => Option.rec (motive := fun _ => Option (V × H)) none (fun l => withH (cellR i l) h) (asTup a)) (opdR t tm)
theorem r_extract_eq (t : Operand) (i : Nat) (P : Program) (call : CallT) (h : H) (tm : Tr V) : r_extract t i P call h tm = wrapP (p_extract t i P h tm) h := by
  unfold r_extract p_extract
  rw [opdR_eq]
  cases evO tm t with
  | none => rfl
  | some a => cases a with
    | tuple l =>
      show withH (cellR i l) h = _
      rw [withH_eq, cellR_eq]
    | _ => rfl
noncomputable def r_pick (c a b : Operand) (P : Program) (_ : CallT) (h : H) (tm : Tr V) : Option (V × H) :=
  Option.rec (motive := fun _ => Option (V × H)) none (fun v => Option.rec (motive := fun _ => Option (V × H)) none (fun q => Bool.rec (motive := fun _ => Option (V × H)) (withH (opdR b tm) h) (withH (opdR a tm) h) q) (asBool v)) (opdR c tm)
theorem r_pick_eq (c a b : Operand) (P : Program) (call : CallT) (h : H) (tm : Tr V) : r_pick c a b P call h tm = wrapP (p_pick c a b P h tm) h := by
  unfold r_pick p_pick
  rw [opdR_eq, opdR_eq, opdR_eq]
  cases evO tm c with
  | none => rfl
  | some v => cases v with
    | bool q => cases q with
      | true => exact withH_eq _ _
      | false => exact withH_eq _ _
    | _ => rfl
noncomputable def appR (a b : List V) : List V := List.rec (motive := fun _ => List V) b (fun x _ ih => x :: ih) a
theorem appR_eq (b : List V) : ∀ a : List V, appR a b = a ++ b
  | [] => rfl
  | x :: a => congrArg (x :: ·) (appR_eq b a)
noncomputable def app3 (a b c : List V) : List V := List.rec (motive := fun _ => List V) (appR a b) (fun _ _ _ => appR a (appR b c)) c
theorem app3_eq (a b c : List V) : app3 a b c = a ++ b ++ c := by
  cases c with
  | nil => show appR a b = _; rw [appR_eq]; simp
  | cons x c => show appR a (appR b (x :: c)) = _; rw [appR_eq, appR_eq]; simp
noncomputable def goFn (call : CallT) (h : H) (args : List V) (fv : V) (fn : Fn) (first cap : List V) : Option (V × H) :=
  Fn.rec (motive := fun _ => Option (V × H)) (fun g => call (.call g (app3 first args cap)) h) (fun _ => callV call h fv args) (fun _ _ => callV call h fv args) (fun _ _ _ _ => callV call h fv args) (fun _ => callV call h fv args) fn
noncomputable def callR (call : CallT) (h : H) (args : List V) (fv : V) : Option (V × H) :=
  Option.rec (motive := fun _ => Option (V × H)) (callV call h fv args) (fun q => Prod.rec (motive := fun _ => Option (V × H)) (fun fn fc => Prod.rec (motive := fun _ => Option (V × H)) (fun first cap => goFn call h args fv fn first cap) fc) q) (asFn fv)
theorem callR_eq (call : CallT) (h : H) (args : List V) (fv : V) : callR call h args fv = callV call h fv args := by
  unfold callR
  cases ha : asFn fv with
  | none => rfl
  | some q =>
    obtain ⟨fn, first, cap⟩ := q
    have h1 := asFn_eq ha
    subst h1
    show goFn call h args _ fn first cap = _
    cases fn <;> first | rfl | (unfold goFn; dsimp only; rw [app3_eq]; rfl)
noncomputable def e_valR (f : Operand) (c : Call) (call : CallT) (h : H) (tm : Tr V) : Option (V × H) :=
  Option.rec (motive := fun _ => Option (V × H)) none (fun args => Option.rec (motive := fun _ => Option (V × H)) none (callR call h args) (opdR f tm)) (evLR c.args.toList tm)
theorem e_valR_eq (f : Operand) (c : Call) (call : CallT) (h : H) (tm : Tr V) : e_valR f c call h tm = e_val f c call h tm := by
  unfold e_valR e_val
  rw [evLR_eq, opdR_eq]
  cases evL tm c.args.toList with
  | none => rfl
  | some args => cases evO tm f with
    | none => rfl
    | some fv => exact callR_eq call h args fv
noncomputable def e_callR (c : Call) (P : Program) (call : CallT) (h : H) (tm : Tr V) : Option (V × H) :=
  Callee.rec (motive := fun _ => Option (V × H)) (fun f => e_valR f c call h tm) (fun _ _ => e_call c P call h tm) (fun _ => e_call c P call h tm) c.callee
theorem e_callR_eq (c : Call) (P : Program) (call : CallT) (h : H) (tm : Tr V) : e_callR c P call h tm = e_call c P call h tm := by
  obtain ⟨callee, args, ats⟩ := c
  cases callee with
  | value f => exact e_valR_eq f _ call h tm
  | _ => rfl

noncomputable def evK (op : Op) : Program → CallT → H → Tr V → Option (V × H) :=
  Op.rec (motive := fun _ => Program → CallT → H → Tr V → Option (V × H))
    (fun a _ _ h tm => withH (opdR a tm) h)
    (fun a _ _ h tm => withH (opdR a tm) h)
    (r_pick)
    (fun a P _ h tm => wrapA (allocOp P h tm (.alloc a)) h)
    (fun a b P _ h tm => wrapA (allocOp P h tm (.box a b)) h)
    (fun a b P _ h tm => withH (p_build a b P h tm) h)
    (fun a b c P _ h tm => wrapA (allocOp P h tm (.buildSlice a b c)) h)
    (fun a b c d P call h tm => effOp P call h tm (.insert a b c d))
    (r_load)
    (e_storeR)
    (fun _ _ _ _ _ => none)
    (fun _ _ _ _ _ => none)
    (fun a P _ h tm => withH (p_nilCheck a P h tm) h)
    (r_binOp)
    (fun a b c P _ h tm => withH (p_unOp a b c P h tm) h)
    (fun a b c P _ h tm => withH (p_convert a b c P h tm) h)
    (fun _ _ _ _ _ _ => none)
    (fun a b P _ h tm => withH (p_makeInterface a b P h tm) h)
    (fun a b c P _ h tm => withH (p_makeFunc a b c P h tm) h)
    (fun a b P _ h tm => wrapA (allocOp P h tm (.makeMap a b)) h)
    (fun _ _ _ _ _ _ => none)
    (fun a b c P _ h tm => wrapA (allocOp P h tm (.makeSlice a b c)) h)
    (fun a b c d e P _ h tm => withH (p_slice a b c d e P h tm) h)
    (r_fieldAddr)
    (fun a b c P _ h tm => withH (p_field a b c P h tm) h)
    (fun a b c P _ h tm => withH (p_indexAddr a b c P h tm) h)
    (fun a b c P _ h tm => withH (p_index a b c P h tm) h)
    (fun a b c d P _ h tm => withH (p_lookup a b c d P h tm) h)
    (fun a b c d P call h tm => effOp P call h tm (.mapUpdate a b c d))
    (fun a b c P call h tm => effOp P call h tm (.mapEntry a b c))
    (fun a b c d P call h tm => effOp P call h tm (.entryStore a b c d))
    (fun a b P _ h tm => wrapA (allocOp P h tm (.range a b)) h)
    (fun a b P call h tm => effOp P call h tm (.next a b))
    (fun a P _ h tm => withH (p_entry a P h tm) h)
    (fun a b c d P _ h tm => withH (p_typeAssert a b c d P h tm) h)
    (r_extract)
    (e_callR)
    (fun _ _ _ _ _ => none)
    (fun _ _ _ _ _ => none)
    (fun _ _ _ _ _ => none)
    (fun _ _ _ _ _ _ => none)
    (fun _ _ _ _ _ _ _ => none)
    (fun _ _ _ _ _ _ => none)
    op
theorem evK_op (op : Op) (P : Program) (call : CallT) (h : H) (tm : Tr V) : evK op P call h tm = evOp P call h tm op := by
  rw [← evF_op]
  cases op
  case move a => show withH (opdR a tm) h = _; rw [opdR_eq, withH_eq]; rfl
  case assign a => show withH (opdR a tm) h = _; rw [opdR_eq, withH_eq]; rfl
  case pick a b c => exact r_pick_eq a b c P call h tm
  case load a b => exact r_load_eq a b P call h tm
  case store a b c => exact e_storeR_eq a b c P call h tm
  case binOp a b c d e => exact r_binOp_eq a b c d e P call h tm
  case fieldAddr a b c => exact r_fieldAddr_eq a b c P call h tm
  case extract a b => exact r_extract_eq a b P call h tm
  case call c => exact e_callR_eq c P call h tm
  all_goals first
    | rfl
    | exact withH_eq _ _
/-- One operation, and where its value goes. -/
noncomputable def putR (n : Nat) (dst : Option Tmp) (v : V) (tm : Tr V) (h : H) : Option St :=
  Option.rec (motive := fun _ => Option St) (some ⟨tm, h⟩) (fun d => Bool.rec (motive := fun _ => Option St) none (some (St.mk (LP.rec (motive := fun _ => Tr V) (fun g => g (some v) tm) (lensP d)) h)) (Nat.ble (Nat.succ d) n)) dst
theorem putR_eq (n : Nat) (dst : Option Tmp) (v : V) (tm : Tr V) (h : H) : putR n dst v tm h = match putO n tm dst v with
    | some tm' => some (St.mk tm' h)
    | none => none := by
  cases dst with
  | none => rfl
  | some d =>
    show Bool.rec (motive := fun _ => Option St) none (some ⟨tm.set d (some v), h⟩) (Nat.ble (Nat.succ d) n) = _
    unfold putO
    dsimp only
    show _ = match cond (Nat.ble (Nat.succ d) n) (some (tm.set d (some v))) none with
      | some tm' => some (St.mk tm' h)
      | none => none
    cases Nat.ble (Nat.succ d) n <;> rfl
noncomputable def gotR (n : Nat) (dst : Option Tmp) (tm : Tr V) (r : V × H) : Option St := Prod.rec (motive := fun _ => Option St) (fun v h' => putR n dst v tm h') r
noncomputable def runR (P : Program) (call : CallT) (n : Nat) (dst : Option Tmp) (op : Op) (tm : Tr V) (h : H) : Option St := Option.rec (motive := fun _ => Option St) none (gotR n dst tm) (evK op P call h tm)
noncomputable def stepR (o : Oper) (P : Program) (call : CallT) (ops : Array Oper) (n : Nat) (s : St) : Option St :=
  Oper.rec (motive := fun _ => Option St) (fun dst op _ _ _ guard => Option.rec (motive := fun _ => Option St)
    (St.rec (motive := fun _ => Option St) (fun tm h => runR P call n dst op tm h) s)
    (fun _ => Option.rec (motive := fun _ => Option St) none (fun b => Bool.rec (motive := fun _ => Option St)
      (St.rec (motive := fun _ => Option St) (fun tm h => putR n dst (.tuple []) tm h) s) (St.rec (motive := fun _ => Option St) (fun tm h => runR P call n dst op tm h) s) b) (wantV ops s.tm o)) guard) o
theorem runR_eq (P : Program) (call : CallT) (n : Nat) (dst : Option Tmp) (op : Op) (tm : Tr V) (h : H) : runR P call n dst op tm h = match evF op P call h tm with
    | some (v, h') => (match putO n tm dst v with
      | some tm' => some ⟨tm', h'⟩
      | none => none)
    | none => none := by
  unfold runR
  rw [evK_op, evF_op]
  cases evOp P call h tm op with
  | none => rfl
  | some r => exact putR_eq n dst r.1 tm r.2
theorem stepR_eq (o : Oper) (P : Program) (call : CallT) (ops : Array Oper) (n : Nat) (s : St) : stepR o P call ops n s = step1 P call ops n o s := by
  obtain ⟨dst, op, ty, pos, aft, guard⟩ := o
  obtain ⟨tm, h⟩ := s
  cases guard with
  | none =>
    show runR P call n dst op tm h = _
    rw [runR_eq]
    rfl
  | some g =>
    show Option.rec (motive := fun _ => Option St) none _ (wantV ops tm _) = _
    unfold step1
    dsimp only
    cases wantV ops tm _ with
    | none => rfl
    | some b => cases b with
      | false => exact putR_eq n dst _ tm h
      | true => exact runR_eq P call n dst op tm h
noncomputable def evListK (l : List Oper) : Program → CallT → Array Oper → Nat → St → Option St :=
  List.rec (motive := fun _ => Program → CallT → Array Oper → Nat → St → Option St) (fun _ _ _ _ s => some s) (fun o _ ih P call ops n s => Option.rec (motive := fun _ => Option St) none (ih P call ops n) (stepR o P call ops n s)) l
theorem evListK_eq (P : Program) (call : CallT) (ops : Array Oper) (n : Nat) : ∀ (l : List Oper) (s : St), evListK l P call ops n s = evList P call ops n l s
  | [], s => rfl
  | o :: l, s => by
    show Option.rec (motive := fun _ => Option St) none (evListK l P call ops n) (stepR o P call ops n s) = _
    rw [stepR_eq]
    simp only [evList]
    cases step1 P call ops n o s with
    | none => rfl
    | some s' => exact evListK_eq P call ops n l s'
/-- A region that draws. -/
noncomputable def clsK (op : Op) : Cls := cls op
noncomputable def pushK (op : Op) (p : PI) (pend : List PI) : List PI := Bool.rec (motive := fun _ => List PI) pend (p :: pend) (memB op)
noncomputable def contV (n : Nat) (dst : Option Tmp) (tm : Tr V) (h : H) (next : List PI → St → Option St) (pend : List PI) (v : V) : Option St :=
  Option.rec (motive := fun _ => Option St) none (next pend) (putR n dst v tm h)
noncomputable def valRun (P : Program) (call : CallT) (n : Nat) (next : List PI → St → Option St) (pend : List PI) (i : Nat) (o : Oper) (dst : Option Tmp) (op : Op) (tm : Tr V) (h : H) : Option St :=
  Option.rec (motive := fun _ => Option St) none (fun r => Prod.rec (motive := fun _ => Option St) (fun v _ => contV n dst tm h next (pushK op ⟨i, o, .val v⟩ pend) v) r) (evK op P call h tm)
def valG (P : Program) (ops : Array Oper) (n : Nat) (it : It) (next : List PI → St → Option St) (pend : List PI) (s : St) : Option St :=
  match freeS P ops n s it with
    | some (s', .val v) => next (cond (memB it.o.op) (⟨it.i, it.o, .val v⟩ :: pend) pend) s'
    | some (s', .skip) => next pend s'
    | _ => none
noncomputable def valK (P : Program) (call : CallT) (ops : Array Oper) (n : Nat) (it : It) (next : List PI → St → Option St) (pend : List PI) (s : St) : Option St :=
  It.rec (motive := fun _ => Option St) (fun i o m => Oper.rec (motive := fun _ => Option St) (fun dst op ty pos aft guard => Cls.rec (motive := fun _ => Option St)
    (Option.rec (motive := fun _ => Option St)
      (St.rec (motive := fun _ => Option St) (fun tm h => valRun P call n next pend i ⟨dst, op, ty, pos, aft, guard⟩ dst op tm h) s)
      (fun _ => Option.rec (motive := fun _ => Option St) none (fun b => Bool.rec (motive := fun _ => Option St)
        (St.rec (motive := fun _ => Option St) (fun tm h => contV n dst tm h next pend (.tuple [])) s)
        (St.rec (motive := fun _ => Option St) (fun tm h => valRun P call n next pend i ⟨dst, op, ty, pos, aft, guard⟩ dst op tm h) s) b) (wantV ops s.tm o)) guard)
    (valG P ops n it next pend s) (valG P ops n it next pend s) (clsK op)) o) it
theorem contV_eq (n : Nat) (dst : Option Tmp) (tm : Tr V) (h : H) (next : List PI → St → Option St) (pend : List PI) (v : V) : contV n dst tm h next pend v = match putO n tm dst v with
    | some tm' => next pend ⟨tm', h⟩
    | none => none := by
  unfold contV
  rw [putR_eq]
  cases putO n tm dst v <;> rfl
theorem evOp_pure {op : Op} (hc : cls op = .pure) (P : Program) (call : CallT) (h : H) (tm : Tr V) : evOp P call h tm op = match pureOp P h tm op with
    | some v => some (v, h)
    | none => none := by
  unfold evOp
  rw [hc]
  rfl
theorem valRun_eq {op : Op} (hc : cls op = .pure) (P : Program) (call : CallT) (n : Nat) (next : List PI → St → Option St) (pend : List PI) (i : Nat) (o : Oper) (dst : Option Tmp) (tm : Tr V) (h : H) :
    valRun P call n next pend i o dst op tm h = match pureOp P h tm op with
      | some v => (match putO n tm dst v with
        | some tm' => next (cond (memB op) (⟨i, o, .val v⟩ :: pend) pend) ⟨tm', h⟩
        | none => none)
      | none => none := by
  unfold valRun
  rw [evK_op, evOp_pure hc]
  cases pureOp P h tm op with
  | none => rfl
  | some v =>
    show contV n dst tm h next (pushK op ⟨i, o, .val v⟩ pend) v = _
    rw [contV_eq]
    unfold pushK
    cases memB op <;> rfl
theorem valK_eq (P : Program) (call : CallT) (ops : Array Oper) (n : Nat) (it : It) (next : List PI → St → Option St) (pend : List PI) (s : St) : valK P call ops n it next pend s = valG P ops n it next pend s := by
  obtain ⟨i, ⟨dst, op, ty, pos, aft, guard⟩, m⟩ := it
  obtain ⟨tm, h⟩ := s
  unfold valK clsK
  dsimp only
  cases hc : cls op with
  | alloc => rfl
  | eff => rfl
  | pure =>
    dsimp only
    unfold valG freeS
    dsimp only
    cases guard with
    | none =>
      dsimp only [wantV]
      rw [valRun_eq hc, hc]
      dsimp only
      cases pureOp P h tm op with
      | none => rfl
      | some v =>
        dsimp only
        cases putO n tm dst v <;> rfl
    | some g =>
      dsimp only
      cases wantV ops tm ⟨dst, op, ty, pos, aft, some g⟩ with
      | none => rfl
      | some b => cases b with
        | false =>
          dsimp only
          rw [contV_eq]
          cases putO n tm dst (.tuple []) <;> rfl
        | true =>
          dsimp only
          rw [valRun_eq hc, hc]
          dsimp only
          cases pureOp P h tm op with
          | none => rfl
          | some v =>
            dsimp only
            cases putO n tm dst v <;> rfl
def newG (P : Program) (ops : Array Oper) (n : Nat) (it : It) (next : List PI → St → Option St) (pend : List PI) (s : St) : Option St :=
  match freeS P ops n s it with
    | some (s', .new b ob v) => cond ((⟨it.i, it.o, .new b ob v⟩ :: pend).all fun p => !(memB p.o.op) || chk P ops n s' p) (next (⟨it.i, it.o, .new b ob v⟩ :: pend) s') none
    | some (s', .skip) => next pend s'
    | _ => none
def effG (P : Program) (ops : Array Oper) (n : Nat) (it : It) (next : List PI → St → Option St) (pend : List PI) (s' : St) : Option St :=
  cond ((pend.filter fun p => !(it.m.testBit p.i)).all (chk P ops n s')) (next (pend.filter fun p => !(it.m.testBit p.i)) s') none
noncomputable def effK (P : Program) (call : CallT) (ops : Array Oper) (n : Nat) (it : It) (next : List PI → St → Option St) (pend : List PI) (s : St) : Option St :=
  Option.rec (motive := fun _ => Option St) none (List.rec (motive := fun _ => St → Option St) (next []) (fun _ _ _ => effG P ops n it next pend) pend) (stepR it.o P call ops n s)
theorem effK_eq (P : Program) (call : CallT) (ops : Array Oper) (n : Nat) (it : It) (next : List PI → St → Option St) (pend : List PI) (s : St) : effK P call ops n it next pend s = match step1 P call ops n it.o s with
    | some s' => effG P ops n it next pend s'
    | none => none := by
  unfold effK
  rw [stepR_eq]
  cases step1 P call ops n it.o s with
  | none => rfl
  | some s' => cases pend <;> rfl
noncomputable def stepK (l : List SI) : Program → CallT → Array Oper → Nat → List PI → St → Option St :=
  List.rec (motive := fun _ => Program → CallT → Array Oper → Nat → List PI → St → Option St) (fun _ _ _ _ _ s => some s) (fun si _ ih P call ops n pend s => SI.rec (motive := fun _ => Option St)
    (fun it => valK P call ops n it (ih P call ops n) pend s) (fun it => newG P ops n it (ih P call ops n) pend s) (fun it => effK P call ops n it (ih P call ops n) pend s) si) l
theorem stepK_eq (P : Program) (call : CallT) (ops : Array Oper) (n : Nat) : ∀ (l : List SI) (pend : List PI) (s : St), stepK l P call ops n pend s = stepF P call ops n l pend s
  | [], pend, s => rfl
  | .val it :: l, pend, s => by
    show valK P call ops n it (stepK l P call ops n) pend s = _
    rw [valK_eq, show stepK l P call ops n = stepF P call ops n l from funext fun a => funext fun b => stepK_eq P call ops n l a b]
    rfl
  | .new it :: l, pend, s => by
    show newG P ops n it (stepK l P call ops n) pend s = _
    rw [show stepK l P call ops n = stepF P call ops n l from funext fun a => funext fun b => stepK_eq P call ops n l a b]
    rfl
  | .eff it :: l, pend, s => by
    show effK P call ops n it (stepK l P call ops n) pend s = _
    rw [effK_eq, show stepK l P call ops n = stepF P call ops n l from funext fun a => funext fun b => stepK_eq P call ops n l a b]
    rfl
noncomputable def drawK (P : Program) (call : CallT) : DrawT := fun ops n s => Option.rec (motive := fun _ => Option St) (drawV P call ops n s) (fun l => stepK l P call ops n [] s) (schedR ops)
theorem drawK_eq (P : Program) (call : CallT) : drawK P call = drawF P call := by
  funext ops n s
  unfold drawK drawF
  cases schedR ops with
  | none => rfl
  | some l => exact stepK_eq P call ops n l [] s
theorem drawK_ok {P : Program} {call : CallT} (hm : P.follows .mixedOrders = true) (hcall : CallOk P call) : DrawOk P call (drawK P call) := drawK_eq P call ▸ drawF_ok hm hcall
/-- Code. -/
noncomputable def wrapK (o : Option St) (mk : List Nat) : Res := Option.rec (motive := fun _ => Res) none (fun s' => some (.normal, s', mk)) o
noncomputable def thenE (k : St → List Nat → Res) (ex : Ex) (s : St) (mk : List Nat) : Res := Ex.rec (motive := fun _ => Res) (k s mk) (fun id => some (.exit id, s, mk)) (fun l => some (.goto l, s, mk)) (some (.ret, s, mk)) ex
noncomputable def thenK (r : Res) (k : St → List Nat → Res) : Res := Option.rec (motive := fun _ => Res) none (fun p => Prod.rec (motive := fun _ => Res) (fun ex q => Prod.rec (motive := fun _ => Res) (fun s mk => thenE k ex s mk) q) p) r
noncomputable def blockE (id : Nat) (ex : Ex) (q : St × List Nat) : Res := Ex.rec (motive := fun _ => Res) (some (.normal, q)) (fun id' => Bool.rec (motive := fun _ => Res) (some (.exit id', q)) (some (.normal, q)) (Nat.beq id' id)) (fun l => some (.goto l, q)) (some (.ret, q)) ex
noncomputable def blockK (id : Nat) (r : Res) : Res := Option.rec (motive := fun _ => Res) none (fun p => Prod.rec (motive := fun _ => Res) (fun ex q => blockE id ex q) p) r
noncomputable def pickK (v : Option V) (x y : Res) : Res := Option.rec (motive := fun _ => Res) none (fun a => Option.rec (motive := fun _ => Res) none (fun b => Bool.rec (motive := fun _ => Res) y x b) (asBool a)) v
theorem wrapK_eq (o : Option St) (mk : List Nat) : wrapK o mk = wrapS o mk := by cases o <;> rfl
theorem thenK_eq (r : Res) (k : St → List Nat → Res) : thenK r k = thenS r k := by
  cases r with
  | none => rfl
  | some p => obtain ⟨ex, s, mk⟩ := p; cases ex <;> rfl
theorem blockK_eq (id : Nat) (r : Res) : blockK id r = blockS id r := by
  cases r with
  | none => rfl
  | some p =>
    obtain ⟨ex, s, mk⟩ := p
    cases ex with
    | exit id' =>
      show Bool.rec (motive := fun _ => Res) (some (.exit id', s, mk)) (some (.normal, s, mk)) (Nat.beq id' id) = cond (Nat.beq id' id) (some (.normal, s, mk)) (some (.exit id', s, mk))
      cases Nat.beq id' id <;> rfl
    | _ => rfl
theorem pickK_eq (v : Option V) (x y : Res) : pickK v x y = pickS v x y := by
  cases v with
  | none => rfl
  | some a => cases a with
    | bool b => cases b <;> rfl
    | _ => rfl
noncomputable def loopK (f : Nat) : (St → List Nat → Res) → St → List Nat → Res :=
  Nat.rec (motive := fun _ => (St → List Nat → Res) → St → List Nat → Res) (fun _ _ _ => none) (fun _ ih step s mk => thenK (step s mk) (ih step)) f
theorem loopK_eq (step : St → List Nat → Res) : ∀ (f : Nat) (s : St) (mk : List Nat), loopK f step s mk = loopR f step s mk
  | 0, s, mk => rfl
  | f + 1, s, mk => by
    show thenK (step s mk) (loopK f step) = thenS (step s mk) (loopR f step)
    rw [thenK_eq, show loopK f step = loopR f step from funext fun a => funext fun b => loopK_eq step f a b]
noncomputable def k_region (_ : Nat) (ops : Array Oper) (d : Bool) : CT := fun P call draw n ro s mk => Bool.rec (motive := fun _ => Res) (wrapK (evListK ops.toList P call ops n s) mk) (wrapK (draw ops n s) mk) d
noncomputable def k_seq (_ _ : Code) (ra rb : CT) : CT := fun P call draw n ro s mk => thenK (ra P call draw n ro s mk) (rb P call draw n ro)
noncomputable def k_cond (c : Operand) (_ _ : Code) (ra rb : CT) : CT := fun P call draw n ro s mk => pickK (St.rec (motive := fun _ => Option V) (fun tm _ => opdR c tm) s) (ra P call draw n ro s mk) (rb P call draw n ro s mk)
noncomputable def k_block (id : Nat) (_ : Code) (ra : CT) : CT := fun P call draw n ro s mk => blockK id (ra P call draw n ro s mk)
noncomputable def k_loop (_ : Code) (ra : CT) : CT := fun P call draw n ro s mk => loopK 100000 (ra P call draw n ro) s mk
noncomputable def evKC (c : Code) : CT :=
  Code.rec (motive := fun _ => CT)
    (fun _ _ _ _ _ s mk => some (.normal, s, mk))
    k_region
    k_seq
    k_cond
    k_block
    k_loop
    c_range
    (fun id _ _ _ _ _ s mk => some (.exit id, s, mk))
    c_scope
    (fun _ _ _ _ _ _ s mk => some (.normal, s, mk))
    (fun l _ _ _ _ _ s mk => some (.goto l, s, mk))
    (fun _ _ _ _ _ s mk => some (.ret, s, mk))
    (fun _ _ _ _ _ _ _ _ => none)
    c
theorem evKC_eq (P : Program) (call : CallT) (draw : DrawT) (n : Nat) (ro : Option Nat) : ∀ (c : Code) (s : St) (mk : List Nat), evKC c P call draw n ro s mk = evR c P call draw n ro s mk
  | .skip, s, mk => rfl
  | .region id ops d, s, mk => by
    cases d with
    | false =>
      show wrapK (evListK ops.toList P call ops n s) mk = wrapS (evListR ops.toList P call ops n s) mk
      rw [wrapK_eq, evListK_eq, evListR_eq]
    | true =>
      show wrapK (draw ops n s) mk = wrapS (draw ops n s) mk
      rw [wrapK_eq]
  | .seq a b, s, mk => by
    show thenK (evKC a P call draw n ro s mk) (evKC b P call draw n ro) = thenS (evR a P call draw n ro s mk) (evR b P call draw n ro)
    rw [thenK_eq, evKC_eq P call draw n ro a, show evKC b P call draw n ro = evR b P call draw n ro from funext fun x => funext fun y => evKC_eq P call draw n ro b x y]
  | .cond c a b, s, mk => by
    show pickK (opdR c s.tm) (evKC a P call draw n ro s mk) (evKC b P call draw n ro s mk) = pickS (evO s.tm c) (evR a P call draw n ro s mk) (evR b P call draw n ro s mk)
    rw [pickK_eq, opdR_eq, evKC_eq P call draw n ro a, evKC_eq P call draw n ro b]
  | .block id b, s, mk => by
    show blockK id (evKC b P call draw n ro s mk) = blockS id (evR b P call draw n ro s mk)
    rw [blockK_eq, evKC_eq P call draw n ro b]
  | .loop b, s, mk => by
    show loopK 100000 (evKC b P call draw n ro) s mk = loopR 100000 (evR b P call draw n ro) s mk
    rw [loopK_eq, show evKC b P call draw n ro = evR b P call draw n ro from funext fun x => funext fun y => evKC_eq P call draw n ro b x y]
  | .rangeFunc g ps a b, s, mk => rfl
  | .exit id, s, mk => rfl
  | .scope b, s, mk => by
    show jumpN (evLab P call draw n ro b) 10000 (evKC b P call draw n ro s mk) = jumpN (evLab P call draw n ro b) 10000 (evR b P call draw n ro s mk)
    rw [evKC_eq P call draw n ro b]
  | .label _, s, mk => rfl
  | .goto _, s, mk => rfl
  | .ret, s, mk => rfl
  | .refuse _, s, mk => rfl

end Go.Proofs.Ytdammjolkcjogaa.Ev

/-! The evaluator: a closed function that comes to true. -/
namespace Go.Proofs.Ytdammjolkcjogaa.Ev
open Go Go.RowKit
set_option linter.unusedVariables false
set_option linter.unusedSimpArgs false

/-- strings.Compare, in assembly. -/
def cmpE : H → List V → Option V := fun _ args =>
  match args with
  | [.str a, .str b] => some (.int .i64 (Lib.compareBytes a b))
  | _ => none
/-- strings.IndexByte, in assembly. -/
def idxE : H → List V → Option V := fun _ args =>
  match args with
  | [.str a, .int .u8 c] => some (.int .i64 (Lib.indexByte a c.toNat.toUInt8))
  | _ => none
def pureE (f : H → List V → Option V) : H → List V → Option (V × H) := fun h args => match f h args with
  | some v => some (v, h)
  | none => none
/-- maps.Clone's own. -/
def clnE : H → List V → Option (V × H) := fun h args =>
  match args with
  | [.iface t (.map (some r))] => (match h.get r with
    | some (.map es ls) => some (.iface t (.map (some h.nxt)), h.new (.map es ls))
    | _ => none)
  | _ => none
def extL : List (FuncId × (H → List V → Option (V × H))) → ExtT
  | [], _ => none
  | p :: l, g => cond (Nat.beq g p.1) (some p.2) (extL l g)
def ExtFOk (P : Program) (g : FuncId) (f : H → List V → Option (V × H)) : Prop := ∀ w0 e h w args v h', f h args = some (v, h') → Rel w0 e h w → ∀ xs, vrels e args xs → ∃ e' x w', (callFunc g ⟨xs⟩).run P w = .ok (.value x) w' ∧ e.le e' ∧ vrel e' v x ∧ Rel w0 e' h' w'
def ExtPOk (P : Program) (g : FuncId) (f : H → List V → Option V) : Prop := ∀ w0 e h w args v, f h args = some v → Rel w0 e h w → ∀ xs, vrels e args xs → ∃ x, (callFunc g ⟨xs⟩).run P w = .ok (.value x) w ∧ vrel e v x
theorem pureE_ok {P : Program} {g : FuncId} {f : H → List V → Option V} (hp : ExtPOk P g f) : ExtFOk P g (pureE f) := by
  intro w0 e h w args v h' q R xs hv
  unfold pureE at q
  split at q
  · rename_i v' hf
    cases q
    obtain ⟨x, h1, h2⟩ := hp w0 e h w args v hf R xs hv
    exact ⟨e, x, w, h1, E.le.refl e, h2, R⟩
  · cases q
theorem extL_ok {P : Program} : ∀ l : List (FuncId × (H → List V → Option (V × H))), (∀ p ∈ l, ExtFOk P p.1 p.2) → ExtOk P (extL l)
  | [], _ => fun g f q => by cases q
  | p :: l, hl => fun g f q => by
    unfold extL at q
    cases hg : Nat.beq g p.1 with
    | false => rw [hg] at q; exact extL_ok l (fun p hp => hl p (List.mem_cons_of_mem _ hp)) g f q
    | true =>
      rw [hg] at q
      cases q
      have hg := Nat.eq_of_beq_eq_true hg
      subst hg
      exact hl p List.mem_cons_self
def noSpec : SpecT := fun _ => none
theorem noSpec_ok {P : Program} : SpecOk P noSpec := fun g f q => by cases q
theorem cmpE_ok {P : Program} {g : FuncId} {fn : Func} (hf : P.funcs[g]? = some fn) (hnm : (fn.name == "runtime.NumGoroutine") = false) (hb : fn.body.isNone = true) (hn : Extern.findNext fn = none) (he : Extern.find fn = some Extern.BytealgCompare.compare) : ExtPOk P g cmpE := by
  intro w0 e h w args v hv R xs hx
  unfold cmpE at hv
  split at hv
  · rename_i a b
    cases hv
    obtain ⟨x, r, rfl, h1, h2⟩ := vrels_cons.1 hx
    obtain ⟨y, r', rfl, h3, h4⟩ := vrels_cons.1 h2
    obtain rfl := vrels_nil.1 h4
    simp only [vrel] at h1 h3
    subst h1 h3
    refine ⟨_, ?_, by simp only [vrel]; rfl⟩
    rw [run_callFunc_extern hf hnm hb hn he]
    have := Lib.run_compareString (P := P) ⟨⟨a⟩⟩ ⟨⟨b⟩⟩ w
    rw [show (⟨[.string ⟨⟨a⟩⟩, .string ⟨⟨b⟩⟩]⟩ : Array Value) = #[.string ⟨⟨a⟩⟩, .string ⟨⟨b⟩⟩] from rfl, this]
    rfl
  · cases hv
theorem idxE_ok {P : Program} {g : FuncId} {fn : Func} (hf : P.funcs[g]? = some fn) (hnm : (fn.name == "runtime.NumGoroutine") = false) (hb : fn.body.isNone = true) (hn : Extern.findNext fn = none) (he : Extern.find fn = some Extern.BytealgIndexByte.indexByte) : ExtPOk P g idxE := by
  intro w0 e h w args v hv R xs hx
  unfold idxE at hv
  split at hv
  · rename_i a c
    cases hv
    obtain ⟨x, r, rfl, h1, h2⟩ := vrels_cons.1 hx
    obtain ⟨y, r', rfl, h3, h4⟩ := vrels_cons.1 h2
    obtain rfl := vrels_nil.1 h4
    simp only [vrel] at h1 h3
    subst h1 h3
    refine ⟨_, ?_, by simp only [vrel]; rfl⟩
    rw [run_callFunc_extern hf hnm hb hn he]
    have := Lib.run_indexByteString (P := P) ⟨⟨a⟩⟩ c w
    rw [show (⟨[.string ⟨⟨a⟩⟩, .int .u8 c]⟩ : Array Value) = #[.string ⟨⟨a⟩⟩, .int .u8 c] from rfl, this]
    rfl
  · cases hv
theorem clnE_ok {P : Program} {g : FuncId} {fn : Func} (hf : P.funcs[g]? = some fn) (hnm : (fn.name == "runtime.NumGoroutine") = false) (hb : fn.body.isNone = true) (hn : Extern.findNext fn = none) (he : Extern.find fn = some Extern.MapsClone.clone) : ExtFOk P g clnE := by
  intro w0 e h w args v h' q R xs hx
  unfold clnE at q
  split at q
  · rename_i t r
    split at q
    · rename_i es ls hg
      cases q
      obtain ⟨x, r', rfl, h1, h2⟩ := vrels_cons.1 hx
      obtain rfl := vrels_nil.1 h2
      simp only [vrel] at h1
      obtain ⟨y, rfl, k, hk, rfl⟩ := h1
      obtain ⟨l, clk, es', t1, tp, t2, t3, t4, t5⟩ := R.map hg hk
      have hle : e.le (e.bind h.nxt (some w.heap.size) none) := E.bind_le R.rn R.kn R.ll
      refine ⟨e.bind h.nxt (some w.heap.size) none, .iface t (.map (some w.heap.size)), w.alloc (.map ⟨l⟩ clk), ?_, hle, ?_, ?_⟩
      · rw [run_callFunc_extern hf hnm hb hn he]
        have : (Extern.MapsClone.clone #[.iface t (.map (some k))]).run P w = .ok (.iface t (.map (some w.heap.size))) (w.alloc (.map ⟨l⟩ clk)) := by
          have e1 : Extern.MapsClone.clone #[.iface t (.map (some k))] = (getObj k >>= fun o => match o with
              | .map entries clock => (newObj (.map entries clock) >>= fun n => pure (.iface t (.map (some n))))
              | _ => stuck "maps.clone: a map expected") := rfl
          rw [e1]
          simp [MapKept.run_getObj_map t1, Result.andThen, go_sem]
        rw [show (⟨[.iface t (.map (some k))]⟩ : Array Value) = #[.iface t (.map (some k))] from rfl, this]
        rfl
      · simp only [vrel]
        exact ⟨_, rfl, _, E.bind_ρ _ _ _ _, rfl⟩
      · refine R.made (World.grownBy_alloc w (.map ⟨l⟩ clk) none) (Nat.le_refl _) (by rw [World.size_alloc]; exact Nat.lt_succ_self _) ?_
        rw [World.alloc_heap_new]
        exact ⟨l, clk, es', rfl, tp, mrel_mono hle t2, t3, t4, crel_mono hle t5⟩
    · cases q
  · cases q
theorem names_of {P : Program} (h : P.funcs.toList.all (fun fn => !(fn.name == "runtime.NumGoroutine")) = true) : ∀ (g : FuncId) (fn : Func), P.funcs[g]? = some fn → (fn.name == "runtime.NumGoroutine") = false := by
  intro g fn hg
  have hm : fn ∈ P.funcs.toList := by
    have := Array.mem_of_getElem? hg
    simpa using this
  have := List.all_eq_true.1 h fn hm
  simpa using this
def isTrueV : Option (V × H) → Bool
  | some (.bool true, h) => h.log.isEmpty
  | _ => false
noncomputable def runE (P : Program) (ext : ExtT) (spec : SpecT) (d : Nat) (g : FuncId) : Bool := isTrueV (evCall P ext spec (drawF P) d (.fn g []) ⟨.leaf, 0, 0, []⟩)
theorem calls_true {P : Program} {ext : ExtT} {spec : SpecT} {d : Nat} {g : FuncId} (hm : P.follows .mixedOrders = true) (hnm : ∀ (g : FuncId) (fn : Func), P.funcs[g]? = some fn → (fn.name == "runtime.NumGoroutine") = false) (hex : ExtOk P ext) (hsp : SpecOk P spec) (h : runE P ext spec d g = true) (W : World) :
    Calls P g #[] W fun e W' => e = .returned (.bool true) ∧ Below W.heap.size W W' := by
  unfold runE at h
  cases hq : evCall P ext spec (drawF P) d (.fn g []) ⟨.leaf, 0, 0, []⟩ with
  | none => rw [hq] at h; cases h
  | some r =>
    obtain ⟨v, h'⟩ := r
    rw [hq] at h
    have hv : v = .bool true ∧ h'.log = [] := by
      unfold isTrueV at h
      split at h
      · rename_i hh; cases hh; exact ⟨rfl, List.isEmpty_iff.1 h⟩
      · cases h
    obtain ⟨rfl, hlog⟩ := hv
    have hc := evCall_ok hnm hex hsp (fun call hc => drawF_ok hm hc) d
    have R : Rel W ⟨fun _ => none, fun _ => none, 0⟩ ⟨.leaf, 0, 0, []⟩ W :=
      ⟨fun b o k _ hk => (by cases hk), fun b k hk => (by cases hk), fun b k hk => (by cases hk), fun b b' k o o' hk => (by cases hk), fun b k hk => (by cases hk), ⟨rfl, rfl, rfl, Nat.le_refl _, fun _ _ _ => rfl⟩, fun b _ => Tr.get_leaf b, rfl⟩
    have := (hc.fn hq R [] (vrels_nil.2 rfl)).2 0
    refine (callsIn_wide.1 this).mono ?_
    rintro en w' ⟨e', x, rfl, h1, h2, h3⟩
    simp only [vrel] at h2
    subst h2
    exact ⟨rfl, h3.bel.below (fun k hk => by obtain ⟨b, hb, _⟩ := hk; rw [hlog] at hb; cases hb)⟩
end Go.Proofs.Ytdammjolkcjogaa.Ev

/-! The evaluator: calls, told by recursors. -/
namespace Go.Proofs.Ytdammjolkcjogaa.Ev
open Go Go.RowKit
set_option linter.unusedVariables false
set_option linter.unusedSimpArgs false

noncomputable def argK (l : List V) : Nat → Tr V → Tr V := List.rec (motive := fun _ => Nat → Tr V → Tr V) (fun _ t => t) (fun v _ ih i t => ih (Nat.succ i) (LP.rec (motive := fun _ => Tr V) (fun g => g (some v) t) (lensP i))) l
theorem argK_eq : ∀ (l : List V) (i : Nat) (t : Tr V), argK l i t = argTm i l t
  | [], _, _ => rfl
  | v :: l, i, t => argK_eq l (i + 1) (t.set i (some v))
noncomputable def resCellK (P : Program) (h : H) (t : TypeId) (v : V) : Option V := Option.rec (motive := fun _ => Option V) none (fun p => loadR P t h p) (asPtr v)
noncomputable def resLK (l : List ResultVar) : Program → Tr V → H → Option (List V) :=
  List.rec (motive := fun _ => Program → Tr V → H → Option (List V)) (fun _ _ _ => some []) (fun r _ ih P tm h => Option.rec (motive := fun _ => Option (List V)) none (fun v => Option.rec (motive := fun _ => Option (List V)) none (fun vs => some (v :: vs)) (ih P tm h))
    (ResultVar.rec (motive := fun _ => Option V) (fun t => tm.get t) (fun a t => Option.rec (motive := fun _ => Option V) none (resCellK P h t) (tm.get a)) r)) l
theorem resLK_eq (P : Program) (s : St) : ∀ l : List ResultVar, resLK l P s.tm s.h = resL P s l
  | [] => rfl
  | .tmp t :: l => by
    show Option.rec (motive := fun _ => Option (List V)) none (fun v => Option.rec (motive := fun _ => Option (List V)) none (fun vs => some (v :: vs)) (resLK l P s.tm s.h)) (s.tm.get t) = _
    rw [resLK_eq P s l]
    show _ = match s.tm.get t, resL P s l with
      | some v, some vs => some (v :: vs)
      | _, _ => none
    cases s.tm.get t with
    | none => rfl
    | some v => cases resL P s l <;> rfl
  | .cell a t :: l => by
    show Option.rec (motive := fun _ => Option (List V)) none (fun v => Option.rec (motive := fun _ => Option (List V)) none (fun vs => some (v :: vs)) (resLK l P s.tm s.h)) (Option.rec (motive := fun _ => Option V) none (resCellK P s.h t) (s.tm.get a)) = _
    rw [resLK_eq P s l]
    show _ = match s.tm.get a with
      | some (.ptr (some p)) => (match loadV P s.h t p, resL P s l with
        | some v, some vs => some (v :: vs)
        | _, _ => none)
      | _ => none
    cases s.tm.get a with
    | none => rfl
    | some v =>
      unfold resCellK
      dsimp only
      rw [asPtr_eq]
      cases v with
      | ptr q => cases q with
        | none => rfl
        | some p =>
          dsimp only
          rw [loadR_eq]
          cases loadV P s.h t p with
          | none => rfl
          | some v => cases resL P s l <;> rfl
      | _ => rfl
noncomputable def resVK (l : List V) : V := List.rec (motive := fun _ => V) (.tuple []) (fun v t _ => List.rec (motive := fun _ => V) v (fun _ _ _ => .tuple (v :: t)) t) l
theorem resVK_eq (l : List V) : resVK l = resV l := by
  cases l with
  | nil => rfl
  | cons v t => cases t <;> rfl
noncomputable def endK2 (P : Program) (fn : Func) (tm : Tr V) (h : H) : Option (V × H) := Option.rec (motive := fun _ => Option (V × H)) none (fun vs => some (resVK vs, h)) (resLK fn.results.toList P tm h)
noncomputable def endK (P : Program) (fn : Func) (s : St) (mk : List Nat) : Option (V × H) :=
  St.rec (motive := fun _ => Option (V × H)) (fun tm h => List.rec (motive := fun _ => Option (V × H)) (endK2 P fn tm h) (fun _ _ _ => evEnd P fn ⟨tm, h⟩ mk) mk) s
theorem endK_eq (P : Program) (fn : Func) (s : St) (mk : List Nat) : endK P fn s mk = evEnd P fn s mk := by
  obtain ⟨tm, h⟩ := s
  cases mk with
  | cons _ _ => rfl
  | nil =>
    show endK2 P fn tm h = _
    unfold endK2
    rw [resLK_eq P ⟨tm, h⟩]
    show _ = match resL P ⟨tm, h⟩ fn.results.toList with
      | some vs => some (resV vs, h)
      | none => none
    cases resL P ⟨tm, h⟩ fn.results.toList with
    | none => rfl
    | some vs => show some (resVK vs, h) = _; rw [resVK_eq]
noncomputable def bodyEnd (P : Program) (fn : Func) (r : Res) : Option (V × H) :=
  Option.rec (motive := fun _ => Option (V × H)) none (fun p => Prod.rec (motive := fun _ => Option (V × H)) (fun ex q => Prod.rec (motive := fun _ => Option (V × H)) (fun s mk => Ex.rec (motive := fun _ => Option (V × H)) (endK P fn s mk) (fun _ => none) (fun _ => none) (endK P fn s mk) ex) q) p) r
noncomputable def fnK (P : Program) (call : CallT) (draw : DrawT) (args : List V) (h : H) (fn : Func) : Option (V × H) :=
  Option.rec (motive := fun _ => Option (V × H)) none (fun c => Bool.rec (motive := fun _ => Option (V × H)) none (bodyEnd P fn (evKC c P call draw fn.ntmps none (St.mk (argK args 0 .leaf) h) [])) (Nat.ble args.length fn.ntmps)) fn.body
noncomputable def evFnK (P : Program) (spec : SpecT) (call : CallT) (draw : DrawT) (g : FuncId) (args : List V) (h : H) : Option (V × H) :=
  Option.rec (motive := fun _ => Option (V × H)) (Option.rec (motive := fun _ => Option (V × H)) none (fnK P call draw args h) ((funcT P).get g)) (fun f => f h args) (spec g)
theorem evFnK_eq (P : Program) (spec : SpecT) (call : CallT) (draw : DrawT) (g : FuncId) (args : List V) (h : H) : evFnK P spec call draw g args h = evFn P spec call draw g args h := by
  unfold evFnK evFn
  cases spec g with
  | some f => rfl
  | none =>
    dsimp only
    cases (funcT P).get g with
    | none => rfl
    | some fn =>
      dsimp only
      unfold fnK
      cases fn.body with
      | none => rfl
      | some c =>
        dsimp only
        cases Nat.ble args.length fn.ntmps with
        | false => rfl
        | true =>
          show bodyEnd P fn (evKC c P call draw fn.ntmps none ⟨argK args 0 .leaf, h⟩ []) = _
          rw [evKC_eq, argK_eq]
          simp only [cond_true]
          cases evR c P call draw fn.ntmps none ⟨argTm 0 args .leaf, h⟩ [] with
          | none => rfl
          | some p =>
            obtain ⟨ex, s, mk⟩ := p
            cases ex <;> first | rfl | exact endK_eq P fn s mk
noncomputable def evCallK (P : Program) (ext : ExtT) (spec : SpecT) (draw : CallT → DrawT) (d : Nat) : CallT :=
  Nat.rec (motive := fun _ => CallT) (fun _ _ => none) (fun _ ih task h => Task.rec (motive := fun _ => Option (V × H)) (fun g args => evFnK P spec ih (draw ih) g args h)
    (fun g args => Option.rec (motive := fun _ => Option (V × H)) (evFnK P spec ih (draw ih) g args h) (fun f => f h args) (ext g))
    (fun l args => evRound P ih (draw ih) l args h) task) d
theorem evCallK_eq (P : Program) (ext : ExtT) (spec : SpecT) (draw : CallT → DrawT) : ∀ d, evCallK P ext spec draw d = evCall P ext spec draw d
  | 0 => rfl
  | d + 1 => by
    funext task h
    show Task.rec (motive := fun _ => Option (V × H)) (fun g args => evFnK P spec (evCallK P ext spec draw d) (draw (evCallK P ext spec draw d)) g args h)
      (fun g args => Option.rec (motive := fun _ => Option (V × H)) (evFnK P spec (evCallK P ext spec draw d) (draw (evCallK P ext spec draw d)) g args h) (fun f => f h args) (ext g))
      (fun l args => evRound P (evCallK P ext spec draw d) (draw (evCallK P ext spec draw d)) l args h) task = _
    rw [evCallK_eq P ext spec draw d]
    cases task with
    | fn g args => exact evFnK_eq P spec _ _ g args h
    | call g args =>
      simp only [evCall]
      cases ext g with
      | none => exact evFnK_eq P spec _ _ g args h
      | some f => rfl
    | round l args => rfl
noncomputable def runK (P : Program) (ext : ExtT) (spec : SpecT) (d : Nat) (g : FuncId) : Bool := isTrueV (evCallK P ext spec (drawK P) d (.fn g []) ⟨.leaf, 0, 0, []⟩)
theorem runK_eq (P : Program) (ext : ExtT) (spec : SpecT) (d : Nat) (g : FuncId) : runK P ext spec d g = runE P ext spec d g := by
  unfold runK runE
  rw [evCallK_eq, show drawK P = drawF P from funext fun call => drawK_eq P call]
end Go.Proofs.Ytdammjolkcjogaa.Ev

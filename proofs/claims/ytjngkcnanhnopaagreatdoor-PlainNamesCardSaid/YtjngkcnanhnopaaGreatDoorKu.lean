import Derived.Test.YtjngkcnanhnopaaGreatDoorKs
/-! The evaluator: a region that draws, by an order that is laid once for each region. What an operation that came up ahead of others comes to is looked at again only where memory may have changed. -/
namespace Go.Proofs.YtjngkcnanhnopaaGreatDoor.Ev
open Go Go.RowKit
set_option linter.unusedVariables false
set_option linter.unusedSimpArgs false

/-- Does an operation look at memory? -/
def memB (op : Op) : Bool :=
  match op with
  | .load .. => true
  | .lookup .. => true
  | .entry .. => true
  | .call .. => true
  | .range .. => true
  | .binOp .eql .. => true
  | .binOp .neq .. => true
  | _ => false
inductive SI where
  | val (it : It)
  | new (it : It)
  | eff (it : It)
/-- Who writes a temporary: one that may come up ahead of others (its place), or not. -/
def dstT : List It → Tr (Option Nat) → Option (Tr (Option Nat))
  | [], t => some t
  | it :: l, t => match it.o.dst with
    | none => dstT l t
    | some d => (match isEff it.o.op && it.o.guard.isNone, t.get d with
      | true, none => dstT l (t.set d (some none))
      | true, some none => dstT l t
      | false, none => dstT l (t.set d (some (some it.i)))
      | _, _ => none)
def ssaL (ops : Array Oper) (T : Tr (Option Nat)) (q : It) : Bool := (q.o.looksAt ops).all fun t => match T.get t with
  | some (some i) => q.m.testBit i
  | _ => true
def ssaF (ops : Array Oper) (its : List It) : Bool :=
  match dstT its .leaf with
  | some T => its.all (ssaL ops T)
  | none => false
theorem dstT_ok : ∀ (l : List It) (t T : Tr (Option Nat)), dstT l t = some T → (∀ d x, t.get d = some x → T.get d = some x) ∧
    ∀ p ∈ l, ∀ d, p.o.dst = some d → T.get d = some (if (isEff p.o.op && p.o.guard.isNone) = true then none else some p.i)
  | [], t, T, h => by cases h; exact ⟨fun _ _ q => q, fun p hp => (by cases hp)⟩
  | it :: l, t, T, h => by
    unfold dstT at h
    have go : ∀ (d : Nat) (x : Option Nat), it.o.dst = some d → t.get d = none → dstT l (t.set d (some x)) = some T → (if (isEff it.o.op && it.o.guard.isNone) = true then none else some it.i) = x →
        (∀ d x, t.get d = some x → T.get d = some x) ∧ ∀ p ∈ it :: l, ∀ d, p.o.dst = some d → T.get d = some (if (isEff p.o.op && p.o.guard.isNone) = true then none else some p.i) := by
      intro d x hd hn hl hx
      obtain ⟨h1, h2⟩ := dstT_ok l _ T hl
      refine ⟨fun d' x' q => h1 d' x' ?_, fun p hp d' hd' => ?_⟩
      · rw [Tr.get_set]
        by_cases e : d' = d
        · subst e; rw [hn] at q; cases q
        · rw [if_neg e]; exact q
      · rcases List.mem_cons.1 hp with rfl | hp
        · rw [hd] at hd'
          cases hd'
          rw [hx]
          exact h1 d x (by rw [Tr.get_set, if_pos rfl])
        · exact h2 p hp d' hd'
    split at h
    · rename_i hd
      obtain ⟨h1, h2⟩ := dstT_ok l _ T h
      refine ⟨h1, fun p hp d' hd' => ?_⟩
      rcases List.mem_cons.1 hp with rfl | hp
      · rw [hd] at hd'; cases hd'
      · exact h2 p hp d' hd'
    · rename_i d hd
      split at h
      · rename_i he hn
        exact go d none hd hn h (by rw [he]; rfl)
      · rename_i he hn
        obtain ⟨h1, h2⟩ := dstT_ok l _ T h
        refine ⟨h1, fun p hp d' hd' => ?_⟩
        rcases List.mem_cons.1 hp with rfl | hp
        · rw [hd] at hd'
          cases hd'
          rw [he]
          exact h1 d none hn
        · exact h2 p hp d' hd'
      · rename_i he hn
        exact go d (some it.i) hd hn h (by rw [he]; rfl)
      · cases h
theorem ssaF_ok {ops : Array Oper} {its : List It} (h : ssaF ops its = true) : ssaB ops its = true := by
  unfold ssaF at h
  split at h
  · rename_i T hT
    obtain ⟨_, h2⟩ := dstT_ok its _ T hT
    refine List.all_eq_true.2 fun p hp => ?_
    cases hd : p.o.dst with
    | none => rfl
    | some d =>
      cases he : isEff p.o.op && p.o.guard.isNone with
      | true => simp
      | false =>
        have hpT := h2 p hp d hd
        rw [he] at hpT
        simp only [Bool.false_or, Bool.false_eq_true, if_false] at hpT ⊢
        refine List.all_eq_true.2 fun q hq => ?_
        rw [Bool.and_eq_true]
        constructor
        · cases hqd : q.o.dst with
          | none => simp
          | some d' =>
            cases hdd : Nat.beq d' d with
            | false => simp [hdd]
            | true =>
              have := Nat.eq_of_beq_eq_true hdd
              subst this
              have hqT := h2 q hq d' hqd
              rw [hpT] at hqT
              cases he2 : isEff q.o.op && q.o.guard.isNone with
              | true => rw [he2] at hqT; cases hqT
              | false =>
                rw [he2] at hqT
                have : p.i = q.i := by simpa using hqT
                simp [this]
        · cases hc : (q.o.looksAt ops).contains d with
          | false => rfl
          | true =>
            have := List.all_eq_true.1 (List.all_eq_true.1 h q hq) d (by simpa using hc)
            rw [hpT] at this
            simpa using this
  · cases h
def clsSI (it : It) : SI := match cls it.o.op with
  | .alloc => .new it
  | _ => .val it
def consO (x : SI) (o : Option (List SI)) : Option (List SI) := match o with
  | some l => some (x :: l)
  | none => none
def mready (it : It) (done : Nat) : Bool := Nat.beq (it.m &&& done) it.m
def schP (next : List It → Nat → List It → Option (List SI)) : List It → List It → Nat → List It → Option (List SI)
  | [], acc, done, fr => next acc.reverse done fr
  | it :: l, acc, done, fr => match !(isEff it.o.op) && mready it done with
    | true => consO (clsSI it) (schP next l acc (done ||| 2 ^ it.i) (it :: fr))
    | false => schP next l (it :: acc) done fr
/-- What came up ahead, and does not look at what is written now. -/
def cleanB (ops : Array Oper) (it : It) (fr : List It) : Bool := match it.o.dst with
  | none => true
  | some d => fr.all fun p => !((p.o.looksAt ops).contains d)
def behind (it : It) (fr : List It) : List It := fr.filter fun p => !(it.m.testBit p.i)
def schN (ops : Array Oper) : Nat → List It → Nat → List It → Option (List SI)
  | 0, _, _, _ => none
  | f + 1, rest, done, fr => schP (fun rest done fr => match rest with
    | [] => some []
    | it :: l => match mready it done && (l.all (fun q => !(mready q done)) && cleanB ops it (behind it fr)) with
      | true => consO (.eff it) (schN ops f l (done ||| 2 ^ it.i) (behind it fr))
      | false => none) rest [] done fr
/-- What an order is asked. -/
inductive Sched (ops : Array Oper) (its : List It) : Nat → List It → List SI → Prop
  | nil {done fr} : (∀ it ∈ its, done.testBit it.i = true) → Sched ops its done fr []
  | free {done fr it l} : it ∈ its → rdy done it = true → isEff it.o.op = false → Sched ops its (done ||| 2 ^ it.i) (it :: fr) l → Sched ops its done fr (clsSI it :: l)
  | eff {done fr it l} : it ∈ its → rdy done it = true → (∀ q ∈ its, rdy done q = true → q = it) → cleanB ops it (behind it fr) = true → Sched ops its (done ||| 2 ^ it.i) (behind it fr) l → Sched ops its done fr (.eff it :: l)
structure Left (its rest : List It) (done : Nat) : Prop where
  mem : ∀ it ∈ rest, it ∈ its ∧ done.testBit it.i = false
  all : ∀ it ∈ its, done.testBit it.i = false → it ∈ rest
  dis : rest.Pairwise fun a b => a.i ≠ b.i
theorem Left.perm {its l l' : List It} {done : Nat} (h : Left its l done) (p : l.Perm l') : Left its l' done :=
  ⟨fun it hit => h.mem it (p.mem_iff.2 hit), fun it hit hd => p.mem_iff.1 (h.all it hit hd), (p.pairwise_iff (fun q => Ne.symm q)).1 h.dis⟩
theorem Left.tail {its l : List It} {it : It} {done : Nat} (h : Left its (it :: l) done) : Left its l (done ||| 2 ^ it.i) := by
  obtain ⟨d1, d2⟩ := List.pairwise_cons.1 h.dis
  refine ⟨fun q hq => ⟨(h.mem q (List.mem_cons_of_mem _ hq)).1, ?_⟩, fun q hq hd => ?_, d2⟩
  · cases hh : (done ||| 2 ^ it.i).testBit q.i with
    | false => rfl
    | true =>
      rcases or_bit.1 hh with h1 | h1
      · rw [(h.mem q (List.mem_cons_of_mem _ hq)).2] at h1; cases h1
      · exact absurd h1 (d1 q hq)
  · have h1 : done.testBit q.i = false := by
      cases hh : done.testBit q.i with
      | false => rfl
      | true => rw [or_bit.2 (.inl hh)] at hd; cases hd
    rcases List.mem_cons.1 (h.all q hq h1) with rfl | h2
    · rw [or_bit.2 (.inr rfl)] at hd; cases hd
    · exact h2
theorem rdy_of {it : It} {done : Nat} (h1 : done.testBit it.i = false) (h2 : mready it done = true) : rdy done it = true := by
  unfold rdy
  rw [h1]
  exact h2
theorem rdy_m {it : It} {done : Nat} (h : rdy done it = true) : done.testBit it.i = false ∧ mready it done = true := by
  unfold rdy at h
  simp only [Bool.and_eq_true, Bool.not_eq_true'] at h
  exact h
theorem schP_ok {ops : Array Oper} {its : List It} {next : List It → Nat → List It → Option (List SI)} (hn : ∀ rest done fr l, Left its rest done → next rest done fr = some l → Sched ops its done fr l) :
    ∀ (todo acc : List It) (done : Nat) (fr : List It) (l : List SI), Left its (todo ++ acc) done → schP next todo acc done fr = some l → Sched ops its done fr l
  | [], acc, done, fr, l, L, h => hn _ done fr l (L.perm (List.reverse_perm acc).symm) h
  | it :: todo, acc, done, fr, l, L, h => by
    unfold schP at h
    split at h
    · rename_i hc
      simp only [Bool.and_eq_true, Bool.not_eq_true'] at hc
      unfold consO at h
      split at h
      · rename_i l' hl
        cases h
        have hm := L.mem it List.mem_cons_self
        exact .free hm.1 (rdy_of hm.2 hc.2) hc.1 (schP_ok hn todo acc _ _ l' L.tail hl)
      · cases h
    · exact schP_ok hn todo (it :: acc) done fr l (L.perm List.perm_middle.symm) h
theorem schN_ok {ops : Array Oper} {its : List It} : ∀ (f : Nat) (rest : List It) (done : Nat) (fr : List It) (l : List SI), Left its rest done → schN ops f rest done fr = some l → Sched ops its done fr l
  | 0, _, _, _, _, _, h => by cases h
  | f + 1, rest, done, fr, l, L, h => by
    unfold schN at h
    refine schP_ok (fun rest done fr l L h => ?_) rest [] done fr l (by simpa using L) h
    split at h
    · cases h
      refine .nil fun it hit => ?_
      cases hh : done.testBit it.i with
      | true => rfl
      | false => have := L.all it hit hh; cases this
    · rename_i it rest'
      split at h
      · rename_i hc
        simp only [Bool.and_eq_true] at hc
        unfold consO at h
        split at h
        · rename_i l' hl
          cases h
          have hm := L.mem it List.mem_cons_self
          refine .eff hm.1 (rdy_of hm.2 hc.1) (fun q hq hr => ?_) hc.2.2 (schN_ok f rest' _ _ l' L.tail hl)
          obtain ⟨r1, r2⟩ := rdy_m hr
          rcases List.mem_cons.1 (L.all q hq r1) with rfl | h2
          · rfl
          · have := List.all_eq_true.1 hc.2.1 q h2
            rw [r2] at this
            cases this
        · cases h
      · cases h
theorem items_ge : ∀ (l : List Oper) (i : Nat) (ms : List Nat), ∀ it ∈ itemsGo i l ms, i ≤ it.i
  | [], _, _, it, h => by cases h
  | o :: l, i, ms, it, h => by
    rcases List.mem_cons.1 h with rfl | h
    · exact Nat.le_refl _
    · exact Nat.le_of_succ_le (items_ge l (i + 1) _ it h)
theorem items_pw : ∀ (l : List Oper) (i : Nat) (ms : List Nat), (itemsGo i l ms).Pairwise fun a b => a.i ≠ b.i
  | [], _, _ => .nil
  | o :: l, i, ms => .cons (fun b hb => by have := items_ge l (i + 1) _ b hb; exact fun q => by simp only at q; omega) (items_pw l (i + 1) _)
/-- The same rows, by masks that stand with the last one ahead. -/
noncomputable def nthR (k : Nat) : List Nat → Nat :=
  Nat.rec (motive := fun _ => List Nat → Nat) (fun l => List.rec (motive := fun _ => Nat) 0 (fun a _ _ => a) l) (fun _ ih l => List.rec (motive := fun _ => Nat) 0 (fun _ t _ => ih t) l) k
theorem nthR_eq : ∀ (k : Nat) (l : List Nat), nthR k l = l.getD k 0
  | 0, [] => rfl
  | 0, _ :: _ => rfl
  | n + 1, [] => rfl
  | n + 1, _ :: l => by rw [List.getD_cons_succ]; exact nthR_eq n l
noncomputable def edR (i : Nat) (rs : List Nat) (s : Nat) (ed : Edge) : Nat :=
  Bool.rec (motive := fun _ => Nat) s (Nat.lor s (Nat.lor (Nat.pow 2 ed.on) (Bool.rec (motive := fun _ => Nat) 0 (nthR (Nat.sub (Nat.sub i 1) ed.on) rs) (Nat.blt ed.on i)))) (Region.binds .any ed)
noncomputable def maskR (i : Nat) (rs : List Nat) (l : List Edge) : Nat → Nat :=
  List.rec (motive := fun _ => Nat → Nat) (fun s => s) (fun ed _ ih s => ih (edR i rs s ed)) l
noncomputable def itemsR (l : List Oper) : Nat → List Nat → List It :=
  List.rec (motive := fun _ => Nat → List Nat → List It) (fun _ _ => []) (fun o _ ih i rs => It.mk i o (maskR i rs o.after.toList 0) :: ih (Nat.succ i) (maskR i rs o.after.toList 0 :: rs)) l
theorem getD_rev (rs : List Nat) (k : Nat) : rs.reverse.getD k 0 = Bool.rec (motive := fun _ => Nat) 0 (nthR (Nat.sub (Nat.sub rs.length 1) k) rs) (Nat.blt k rs.length) := by
  cases h : Nat.blt k rs.length with
  | true =>
    have hk : k < rs.length := Nat.le_of_ble_eq_true h
    show _ = nthR (rs.length - 1 - k) rs
    rw [nthR_eq, List.getD_eq_getElem?_getD, List.getD_eq_getElem?_getD, List.getElem?_reverse hk]
  | false =>
    have hk : ¬ k < rs.length := fun h' => by
      have q : Nat.blt k rs.length = true := Nat.ble_eq_true_of_le h'
      rw [q] at h; cases h
    rw [List.getD_eq_getElem?_getD, List.getElem?_eq_none (by simp; omega)]
    rfl
theorem maskR_eq (rs : List Nat) : ∀ (l : List Edge) (s : Nat), maskR rs.length rs l s = l.foldl (fun s (ed : Edge) => cond (Region.binds .any ed) (s ||| (2 ^ ed.on ||| rs.reverse.getD ed.on 0)) s) s
  | [], s => rfl
  | ed :: l, s => by
    show maskR rs.length rs l (edR rs.length rs s ed) = _
    rw [maskR_eq rs l, List.foldl_cons]
    congr 1
    unfold edR
    rw [getD_rev]
    cases Region.binds .any ed <;> rfl
theorem itemsR_eq : ∀ (l : List Oper) (rs : List Nat), itemsR l rs.length rs = itemsGo rs.length l rs.reverse
  | [], rs => rfl
  | o :: l, rs => by
    show It.mk rs.length o (maskR rs.length rs o.after.toList 0) :: itemsR l (rs.length + 1) (maskR rs.length rs o.after.toList 0 :: rs) = _
    have h := itemsR_eq l (maskR rs.length rs o.after.toList 0 :: rs)
    rw [List.length_cons] at h
    rw [h, List.reverse_cons, maskR_eq]
    rfl
/-- All of a list, by the recursor. -/
noncomputable def allR {α : Type} (p : α → Bool) (l : List α) : Bool := List.rec (motive := fun _ => Bool) true (fun a _ ih => Bool.rec (motive := fun _ => Bool) false ih (p a)) l
theorem allR_eq {α : Type} (p : α → Bool) : ∀ l : List α, allR p l = l.all p
  | [] => rfl
  | a :: l => by
    show Bool.rec (motive := fun _ => Bool) false (allR p l) (p a) = (p a && l.all p)
    rw [allR_eq p l]
    cases p a <;> rfl
noncomputable def rdBitR (T : Tr (Option Nat)) (m : Nat) (t : Tmp) : Bool := Option.rec (motive := fun _ => Bool) true (fun x => Option.rec (motive := fun _ => Bool) true (fun i => m.testBit i) x) (T.get t)
noncomputable def opLookR (T : Tr (Option Nat)) (m : Nat) (x : Operand) : Bool := Operand.rec (motive := fun _ => Bool) (rdBitR T m) (fun _ => true) (fun _ => true) (fun _ => true) x
noncomputable def ssaLR (ops : Array Oper) (T : Tr (Option Nat)) (q : It) : Bool :=
  Bool.rec (motive := fun _ => Bool) false (Option.rec (motive := fun _ => Bool) true (fun g => allR (rdBitR T q.m) (((ops[g.1]?).bind (·.dst)).toList)) q.o.guard) (allR (opLookR T q.m) q.o.op.operands.toList)
theorem rdBitR_eq (T : Tr (Option Nat)) (m : Nat) (t : Tmp) : rdBitR T m t = match T.get t with
  | some (some i) => m.testBit i
  | _ => true := by
  unfold rdBitR
  cases T.get t with
  | none => rfl
  | some x => cases x <;> rfl
theorem look_ops (T : Tr (Option Nat)) (m : Nat) : ∀ l : List Operand, allR (opLookR T m) l = (l.filterMap fun | .tmp t => some t | _ => none).all (fun t => match T.get t with
  | some (some i) => m.testBit i
  | _ => true)
  | [] => rfl
  | x :: l => by
    show Bool.rec (motive := fun _ => Bool) false (allR (opLookR T m) l) (opLookR T m x) = _
    rw [look_ops T m l]
    cases x with
    | tmp t =>
      show Bool.rec (motive := fun _ => Bool) false _ (rdBitR T m t) = _
      rw [rdBitR_eq]
      simp only [List.filterMap_cons, List.all_cons]
      cases (match T.get t with
        | some (some i) => m.testBit i
        | _ => true) <;> rfl
    | _ => rfl
theorem ssaLR_eq (ops : Array Oper) (T : Tr (Option Nat)) (q : It) : ssaLR ops T q = ssaL ops T q := by
  unfold ssaLR ssaL Oper.looksAt
  rw [List.all_append, look_ops]
  cases (List.filterMap (fun | .tmp t => some t | _ => none) q.o.op.operands.toList).all (fun t => match T.get t with
    | some (some i) => q.m.testBit i
    | _ => true) with
  | false => rfl
  | true =>
    rw [Bool.true_and]
    cases q.o.guard with
    | none => rfl
    | some g =>
      show allR (rdBitR T q.m) (((ops[g.1]?).bind (·.dst)).toList) = _
      rw [allR_eq]
      congr 1
      funext t
      exact rdBitR_eq T q.m t
noncomputable def schedR (ops : Array Oper) : Option (List SI) :=
  (fun its => Bool.rec (motive := fun _ => Option (List SI)) none (schN ops (ops.size + 1) its 0 [])
    (Option.rec (motive := fun _ => Bool) false (fun T => Bool.rec (motive := fun _ => Bool) false (lowB its) (allR (ssaLR ops T) its)) (dstT its .leaf))) (itemsR ops.toList 0 [])
theorem sched_ok {ops : Array Oper} {l : List SI} (h : schedR ops = some l) : ssaB ops (itemsGo 0 ops.toList []) = true ∧ lowB (itemsGo 0 ops.toList []) = true ∧ Sched ops (itemsGo 0 ops.toList []) 0 [] l := by
  unfold schedR at h
  have he : itemsR ops.toList 0 [] = itemsGo 0 ops.toList [] := itemsR_eq ops.toList []
  rw [he] at h
  dsimp only at h
  cases hT : dstT (itemsGo 0 ops.toList []) .leaf with
  | none => rw [hT] at h; cases h
  | some T =>
    rw [hT] at h
    dsimp only at h
    cases ha : allR (ssaLR ops T) (itemsGo 0 ops.toList []) with
    | false => rw [ha] at h; cases h
    | true =>
      rw [ha] at h
      dsimp only at h
      cases hl : lowB (itemsGo 0 ops.toList []) with
      | false => rw [hl] at h; cases h
      | true =>
        rw [hl] at h
        have hs : ssaF ops (itemsGo 0 ops.toList []) = true := by
          unfold ssaF
          rw [hT]
          dsimp only
          rw [allR_eq, show ssaLR ops T = ssaL ops T from funext fun q => ssaLR_eq ops T q] at ha
          exact ha
        exact ⟨ssaF_ok hs, rfl, schN_ok _ _ _ _ _ ⟨fun it hit => ⟨hit, by simp⟩, fun it hit _ => hit, items_pw _ _ _⟩ h⟩
end Go.Proofs.YtjngkcnanhnopaaGreatDoor.Ev

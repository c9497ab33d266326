import Derived.Test.YtjngkcnanhnopaaGreatDoorKu
/-! The evaluator: what an operation that came up ahead of others comes to hangs on what it looks at alone. -/
namespace Go.Proofs.YtjngkcnanhnopaaGreatDoor.Ev
open Go Go.RowKit
set_option linter.unusedVariables false
set_option linter.unusedSimpArgs false
section
variable {P : Program} {h h' : H} {tm tm' : Tr V}
theorem evL_tm : ∀ {l : List Operand}, (∀ x ∈ l, evO tm' x = evO tm x) → evL tm' l = evL tm l
  | [], _ => rfl
  | x :: l, hx => by
    unfold evL
    rw [hx x List.mem_cons_self, evL_tm (fun y hy => hx y (List.mem_cons_of_mem _ hy))]
theorem evP_tm : ∀ {l : List (Nat × Operand)}, (∀ x ∈ l, evO tm' x.2 = evO tm x.2) → evP tm' l = evP tm l
  | [], _ => rfl
  | (i, x) :: l, hx => by
    unfold evP
    rw [hx (i, x) List.mem_cons_self, evP_tm (fun y hy => hx y (List.mem_cons_of_mem _ hy))]
theorem evOO_tm : ∀ {o : Option Operand}, (∀ x ∈ o.toArray, evO tm' x = evO tm x) → evOO tm' o = evOO tm o
  | none, _ => rfl
  | some x, hx => by
    simp only [evOO, hx x (by simp)]
theorem pureOp_tm {op : Op} (hx : ∀ x ∈ op.operands.toList, evO tm' x = evO tm x) : pureOp P h tm' op = pureOp P h tm op := by
  cases op
  case build t ps =>
    simp only [pureOp]
    rw [evP_tm (fun x hxm => hx x.2 (by simp [Op.operands]; exact ⟨x.1, by simpa using hxm⟩))]
  case makeFunc fn f c =>
    simp only [pureOp]
    rw [evL_tm (fun x hxm => hx x (by simp [Op.operands]; exact .inl (by simpa using hxm))), evL_tm (fun x hxm => hx x (by simp [Op.operands]; exact .inr (by simpa using hxm)))]
  case slice t x lo hi mx =>
    simp only [pureOp]
    rw [hx x (by simp [Op.operands]), evOO_tm (fun y hy => hx y (by simp [Op.operands] at hy ⊢; exact .inr (.inl hy))), evOO_tm (fun y hy => hx y (by simp [Op.operands] at hy ⊢; exact .inr (.inr (.inl hy)))), evOO_tm (fun y hy => hx y (by simp [Op.operands] at hy ⊢; exact .inr (.inr (.inr hy))))]
  case call c =>
    simp only [pureOp]
    have ha : evL tm' c.args.toList = evL tm c.args.toList := by
      refine evL_tm fun x hxm => hx x ?_
      have hxm : x ∈ c.args := by simpa using hxm
      simp only [Op.operands, Call.operands]
      split <;> simp <;> first | exact .inr hxm | exact hxm
    rw [ha]
  all_goals first
    | rfl
    | (simp only [Op.operands] at hx
       simp only [pureOp]
       simp at hx
       simp only [hx])
theorem allocOp_tm {op : Op} (hx : ∀ x ∈ op.operands.toList, evO tm' x = evO tm x) : allocOp P h tm' op = allocOp P h tm op := by
  cases op
  case buildSlice t n ps =>
    simp only [allocOp]
    rw [evP_tm (fun x hxm => hx x.2 (by simp [Op.operands]; exact ⟨x.1, by simpa using hxm⟩))]
  case makeMap t r =>
    cases r with
    | none => rfl
    | some x =>
      simp only [allocOp]
      rw [hx x (by simp [Op.operands])]
  all_goals first
    | rfl
    | (simp only [Op.operands] at hx
       simp only [allocOp]
       simp at hx
       simp only [hx])
theorem ptrNe_mem {op : BinOp} {t u : TypeId} {x y : Operand} (hm : memB (.binOp op t x y u) = false) (a b : V) : ptrNe P h' op t a b = ptrNe P h op t a b := by
  unfold ptrNe
  split
  · split
    · split
      · cases op <;> first
          | (cases hm; done)
          | (generalize (!(Nat.beq _ _ && Nat.beq _ _) && cellsB h' _ && cellsB h' _) = c1
             generalize (!(Nat.beq _ _ && Nat.beq _ _) && cellsB h _ && cellsB h _) = c2
             cases c1 <;> cases c2 <;> rfl)
      · rfl
    · rfl
  · rfl
theorem pureOp_mem {op : Op} (hm : memB op = false) : pureOp P h' tm op = pureOp P h tm op := by
  cases op
  case binOp op t x y u =>
    simp only [pureOp]
    split
    · rfl
    · rw [ptrNe_mem (P := P) (h := h) (h' := h') hm]
    · rfl
  all_goals first | rfl | cases hm
theorem allocOp_mem {op : Op} (hm : memB op = false) : allocOp P h' tm op = allocOp P h tm op := by
  cases op <;> first | rfl | cases hm
theorem wantV_tm {ops : Array Oper} {o : Oper} (ht : ∀ t ∈ o.looksAt ops, tm'.get t = tm.get t) : wantV ops tm' o = wantV ops tm o := by
  unfold wantV
  split
  · rfl
  · rename_i j t hg
    split
    · rfl
    · rename_i oj hj
      split
      · rfl
      · rename_i d hd
        rw [ht d (by unfold Oper.looksAt; rw [hg]; simp [hj, hd])]
theorem evO_tm {ops : Array Oper} {o : Oper} (ht : ∀ t ∈ o.looksAt ops, tm'.get t = tm.get t) : ∀ x ∈ o.op.operands.toList, evO tm' x = evO tm x := by
  intro x hx
  cases x with
  | tmp t => exact ht t (by unfold Oper.looksAt; exact List.mem_append.2 (.inl (List.mem_filterMap.2 ⟨_, hx, rfl⟩)))
  | _ => rfl
end
section
variable {P : Program} {ops : Array Oper} {n : Nat} {s s' : St} {p : PI}
def stableK (p : PI) : Bool := match p.k with
  | .val _ => !(memB p.o.op)
  | .new .. => false
  | .skip => true
/-- What is looked at anew is as it was. -/
theorem chk_of (hc : chk P ops n s p = true) (ht : ∀ t ∈ p.o.looksAt ops, s'.tm.get t = s.tm.get t) (hd : ∀ d, p.o.dst = some d → s'.tm.get d = s.tm.get d)
    (hp : ∀ v, p.k = .val v → pureOp P s'.h s.tm p.o.op = pureOp P s.h s.tm p.o.op)
    (hn : ∀ b ob v, p.k = .new b ob v → allocOp P s'.h s.tm p.o.op = allocOp P s.h s.tm p.o.op ∧ s'.h.get b = s.h.get b) : chk P ops n s' p = true := by
  unfold chk at hc ⊢
  rw [wantV_tm ht]
  rw [Bool.and_eq_true] at hc ⊢
  refine ⟨?_, ?_⟩
  · have h1 := hc.1
    cases hdd : p.o.dst with
    | none => rfl
    | some d =>
      rw [hdd] at h1
      simp only at h1 ⊢
      rw [hd d hdd]
      exact h1
  · have h2 := hc.2
    have hops := evO_tm ht
    cases hk : p.k with
    | val v =>
      rw [hk] at h2
      simp only at h2 ⊢
      rw [pureOp_tm hops, hp v hk]
      exact h2
    | new b ob v =>
      rw [hk] at h2
      simp only at h2 ⊢
      obtain ⟨q1, q2⟩ := hn b ob v hk
      rw [allocOp_tm hops, q1, q2]
      exact h2
    | skip =>
      rw [hk] at h2
      exact h2
theorem chk_stable (hc : chk P ops n s p = true) (hst : stableK p = true) (ht : ∀ t ∈ p.o.looksAt ops, s'.tm.get t = s.tm.get t) (hd : ∀ d, p.o.dst = some d → s'.tm.get d = s.tm.get d) : chk P ops n s' p = true := by
  refine chk_of hc ht hd (fun v hk => ?_) (fun b ob v hk => ?_)
  · unfold stableK at hst
    rw [hk] at hst
    exact pureOp_mem (by simpa using hst)
  · unfold stableK at hst
    rw [hk] at hst
    cases hst
theorem sameC_rfl : ∀ a : Cap, sameC a a = true
  | .exact a => Nat.beq_refl a
  | .upto a m => by simp [sameC, Nat.beq_refl]
  | .tail a => Nat.beq_refl a
theorem sameA_rfl : ∀ a : Option (Nat × Nat), sameA a a = true
  | none => rfl
  | some a => by simp [sameA]
theorem sameLs_rfl : ∀ a : Option Nat, sameLs a a = true
  | none => rfl
  | some a => by simp [sameLs]
mutual
theorem sameV_rfl : ∀ a : V, sameV a a = true
  | .bool _ => by simp [sameV]
  | .int _ _ => by simp [sameV]
  | .str _ => by simp [sameV]
  | .ptr a => by simp only [sameV]; exact sameA_rfl a
  | .slice a n c => by simp [sameV, sameA_rfl a, sameC_rfl c]
  | .map a => by simp only [sameV]; exact sameLs_rfl a
  | .func fn f c => by simp [sameV, sameVs_rfl f, sameVs_rfl c]
  | .yield _ => by simp [sameV]
  | .nilFunc => rfl
  | .iface t x => by simp [sameV, sameV_rfl x]
  | .nilIface => rfl
  | .agg a => by simp only [sameV]; exact sameVs_rfl a
  | .tuple a => by simp only [sameV]; exact sameVs_rfl a
  | .stamp _ => by simp [sameV]
  | .junk => rfl
theorem sameVs_rfl : ∀ a : List V, sameVs a a = true
  | [] => rfl
  | a :: l => by simp [sameVs, sameV_rfl a, sameVs_rfl l]
end
end
end Go.Proofs.YtjngkcnanhnopaaGreatDoor.Ev

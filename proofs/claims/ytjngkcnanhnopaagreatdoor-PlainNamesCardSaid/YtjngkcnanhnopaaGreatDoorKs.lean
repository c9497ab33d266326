import Derived.Test.YtjngkcnanhnopaaGreatDoorKr
/-! The evaluator: the region that draws is sound. -/
namespace Go.Proofs.YtjngkcnanhnopaaGreatDoor.Ev
open Go Go.RowKit
set_option linter.unusedVariables false
set_option linter.unusedSimpArgs false
section
variable {P : Program} {ops : Array Oper} {n m : Nat} {w0 w : World} {e0 e : E} {dfs : List Deferred} {listed : Array Bool} {done : Nat} {pend : List PI} {s : St} {a : Act} {F : Fence} {call : CallT} {Q : Exit → Act → World → Prop}
theorem lowB_lt (h : lowB (itemsGo 0 ops.toList []) = true) {i : Nat} {o : Oper} (ho : ops[i]? = some o) : ∀ ed ∈ o.after, Region.binds .any ed = true → ed.on < i := by
  intro ed hed hb
  obtain ⟨it, h1, h2, h3⟩ := items_ex ops.toList 0 [] i o (by simpa using ho)
  have h4 := List.all_eq_true.1 (List.all_eq_true.1 h it h1) ed (by rw [h3]; simpa using hed)
  rw [hb] at h4
  simp only [Bool.not_true, Bool.false_or] at h4
  have := Nat.le_of_ble_eq_true h4
  omega
theorem all_of_low (hlow : lowB (itemsGo 0 ops.toList []) = true) (hr : Region.ready .any ops listed = []) : ∀ i, i < ops.size → listed.getD i true = true := by
  intro i
  induction i using Nat.strongRecOn with
  | _ i ih =>
    intro hi
    cases hq : listed.getD i true with
    | true => rfl
    | false =>
      have hmem : i ∈ Region.ready .any ops listed := by
        rw [mem_ready]
        refine ⟨hq, ops[i], by simp [hi], fun ed hed hb => ?_⟩
        have hlt := lowB_lt hlow (i := i) (o := ops[i]) (by simp [hi]) ed hed hb
        have h1 := ih ed.on hlt (by omega)
        have hs : i < listed.size := by
          rcases Nat.lt_or_ge i listed.size with h' | h'
          · exact h'
          · simp [Array.getElem?_eq_none h'] at hq
        have hs2 : ed.on < listed.size := by omega
        simpa [hs2] using h1
      rw [hr] at hmem
      cases hmem
theorem sweep (hF : Open F) (hssa : ssaB ops (itemsGo 0 ops.toList []) = true) (hlow : lowB (itemsGo 0 ops.toList []) = true)
    (hfin : ∀ listed e a w, Inv P ops n w0 e0 dfs listed done pend s e a w → (∀ i, i < ops.size → listed.getD i true = true) → Q .normal a w)
    (hstep : ∀ fc listed e a w it, Inv P ops n w0 e0 dfs listed done pend s e a w → it ∈ itemsGo 0 ops.toList [] → done.testBit it.i = false → rdy done it = true → listed.getD it.i true = false →
      (∀ ed ∈ it.o.after, Region.binds .any ed = true → listed.getD ed.on false = true) → cnt (List.range ops.size) listed ≤ fc + 1 → wpOpIn F m P ops Q it.i (wpAnyIn F m P .any ops Q fc (listed.setIfInBounds it.i true)) a w) :
    ∀ fc listed e a w, Inv P ops n w0 e0 dfs listed done pend s e a w → cnt (List.range ops.size) listed ≤ fc → wpAnyIn F m P .any ops Q fc listed a w := by
  intro fc
  induction fc with
  | zero =>
    intro listed e a w I hc
    have hall : ∀ i, i < ops.size → listed.getD i true = true := fun i hi => cnt_zero _ (Nat.le_zero.1 hc) i (List.mem_range.2 hi)
    refine ⟨?_, hfin listed e a w I hall⟩
    cases hr : Region.ready .any ops listed with
    | nil => rfl
    | cons i l =>
      have hm : i ∈ Region.ready .any ops listed := by rw [hr]; exact List.mem_cons_self
      rw [mem_ready] at hm
      obtain ⟨h0, o, ho, _⟩ := hm
      rw [hall i (Array.getElem?_eq_some_iff.1 ho).1] at h0
      cases h0
  | succ fc ih =>
    intro listed e a w I hc
    refine ⟨fun hr => hfin listed e a w I (all_of_low hlow hr), fun i hi => ?_⟩
    rw [mem_ready] at hi
    obtain ⟨h0, o, ho, hpre⟩ := hi
    have hlt := (Array.getElem?_eq_some_iff.1 ho).1
    cases hd : done.testBit i with
    | true =>
      obtain ⟨p, hp, rfl⟩ := I.pnd i hlt hd (unl h0)
      have hpo : p.o = o := by have := I.mem p hp; rw [ho] at this; exact (Option.some.inj this).symm
      subst hpo
      refine exec_pend hF hssa I hp h0 hpre (fun e' a' w' I' => ih _ e' a' w' I' ?_)
      have := cnt_lt h0 _ (List.mem_range.2 hlt)
      omega
    | false =>
      obtain ⟨it, h1, h2, h3⟩ := items_ex ops.toList 0 [] i o (by simpa using ho)
      rw [Nat.zero_add] at h2
      subst h2
      subst h3
      refine hstep fc listed e a w it I h1 hd ?_ h0 hpre hc
      unfold rdy
      rw [hd]
      simp only [Bool.not_false, Bool.true_and]
      have : it.m &&& done = it.m := by
        apply Nat.eq_of_testBit_eq
        intro j
        rw [Nat.testBit_and]
        cases hb : it.m.testBit j with
        | false => rfl
        | true => rw [I.sub j (I.mask h1 hpre j hb)]; rfl
      rw [this]
      exact Nat.beq_refl _
theorem drawM (hF : Open F) (hcall : CallOk P call) (hssa : ssaB ops (itemsGo 0 ops.toList []) = true) (hlow : lowB (itemsGo 0 ops.toList []) = true) {s' : St}
    (hQ : ∀ e' a' w', e0.le e' → SRel w0 e' n s' a' w' → a'.defers = dfs → Q .normal a' w') :
    ∀ (f : Nat) (done : Nat) (pend : List PI) (s : St) (fc : Nat) (listed : Array Bool) (e : E) (a : Act) (w : World), stepD P call ops n (itemsGo 0 ops.toList []) f done pend s = some s' → Inv P ops n w0 e0 dfs listed done pend s e a w → cnt (List.range ops.size) listed ≤ fc → wpAnyIn F m P .any ops Q fc listed a w
  | 0, done, pend, s, fc, listed, e, a, w, q, I, hc => by cases q
  | f + 1, done, pend, s, fc, listed, e, a, w, q, I, hc => by
    unfold stepD at q
    split at q
    · rename_i it hf
      have hm := List.mem_of_find?_eq_some hf
      have hb := List.find?_some hf
      simp only [Bool.and_eq_true] at hb
      split at q
      · rename_i s1 k hk
        cases hch : (⟨it.i, it.o, k⟩ :: pend).all (chk P ops n s1) with
        | false => rw [hch] at q; cases q
        | true =>
          rw [hch] at q
          simp only [cond_true] at q
          have hnd : done.testBit it.i = false := by
            have := hb.1
            unfold rdy at this
            simp only [Bool.and_eq_true, Bool.not_eq_true'] at this
            exact this.1
          obtain ⟨e', I'⟩ := I.free hm hnd hk hch
          exact drawM hF hcall hssa hlow hQ f _ _ s1 fc listed e' a w q I' hc
      · cases q
    · split at q
      · rename_i it hfil
        split at q
        · rename_i s1 hs1
          cases hch : (pend.filter fun p => !(it.m.testBit p.i)).all (chk P ops n s1) with
          | false => rw [hch] at q; cases q
          | true =>
            rw [hch] at q
            simp only [cond_true] at q
            have hmem : it ∈ (itemsGo 0 ops.toList []).filter (rdy done) := by rw [hfil]; exact List.mem_cons_self
            obtain ⟨hm, hrd⟩ := List.mem_filter.1 hmem
            have hnd : done.testBit it.i = false := by
              unfold rdy at hrd
              simp only [Bool.and_eq_true, Bool.not_eq_true'] at hrd
              exact hrd.1
            obtain ⟨k0, hk0, hk1⟩ := items_mem ops.toList 0 [] it hm
            have hoi : ops[it.i]? = some it.o := by rw [hk0]; simpa using hk1
            have hlt := (Array.getElem?_eq_some_iff.1 hoi).1
            refine sweep hF hssa hlow (fun listed e a w I hall => ?_) (fun fc listed e a w it' I hm' hnd' hr' h0 hpre hc => ?_) fc listed e a w I hc
            · have h1 := hall it.i hlt
              have h2 : listed.getD it.i false = true := by
                have : it.i < listed.size := by rw [I.size]; exact hlt
                simpa [this] using h1
              rw [I.sub it.i h2] at hnd
              cases hnd
            · have h1 : it' ∈ (itemsGo 0 ops.toList []).filter (rdy done) := List.mem_filter.2 ⟨hm', hr'⟩
              rw [hfil] at h1
              obtain rfl := List.mem_singleton.1 h1
              refine exec_eff hF hcall hssa I hm hnd h0 hpre hs1 hch (fun e' a' w' I' => drawM hF hcall hssa hlow hQ f _ _ s1 fc _ e' a' w' q I' ?_)
              have := cnt_lt h0 _ (List.mem_range.2 hlt)
              omega
        · cases q
      · rename_i hfil
        cases hall : (itemsGo 0 ops.toList []).all (fun it => done.testBit it.i) with
        | false => rw [hall] at q; cases q
        | true =>
          rw [hall] at q
          cases q
          refine sweep hF hssa hlow (fun listed e a w I hall => ?_) (fun fc listed e a w it' I hm' hnd' hr' h0 hpre hc => ?_) fc listed e a w I hc
          · refine hQ e a w I.le ⟨⟨I.tsz, fun t v ht => I.tr t v ht (fun p hp hu => ?_)⟩, I.rel⟩ I.dfs
            have hlt := (Array.getElem?_eq_some_iff.1 (I.mem p hp)).1
            have h1 := hall p.i hlt
            have : p.i < listed.size := by rw [I.size]; exact hlt
            have h2 : listed.getD p.i false = true := by simpa [this] using h1
            rw [hu] at h2
            cases h2
          · rw [List.all_eq_true.1 hall it' hm'] at hnd'
            cases hnd'
      · cases q
theorem cnt_len (listed : Array Bool) : ∀ l : List Nat, cnt l listed ≤ l.length
  | [] => Nat.le_refl _
  | i :: l => by
    have := cnt_len listed l
    unfold cnt
    simp only [List.length_cons]
    split <;> omega
theorem drawV_ok (hm : P.follows .mixedOrders = true) (hcall : CallOk P call) : DrawOk P call (drawV P call) where
  ok := by
    intro F hF w0 e n s s' a w m id ops Q S q hQ
    unfold drawV at q
    cases hb : ssaB ops (itemsGo 0 ops.toList []) && lowB (itemsGo 0 ops.toList []) with
    | false => rw [hb] at q; cases q
    | true =>
      rw [hb] at q
      simp only [cond_true] at q
      simp only [Bool.and_eq_true] at hb
      refine wpIn_region_any hm (drawM hF hcall hb.1 hb.2 (e0 := e) (dfs := a.defers) hQ (ops.size + 1) 0 [] s ops.size _ e a _ q ?_ ?_)
      · refine ⟨by simp, fun i h => ?_, fun i h1 h2 h3 => ?_, fun p hp => (by cases hp), fun p hp => (by cases hp), fun p hp => (by cases hp), fun i o ho h => ?_, S.t.1, fun t v ht _ => S.t.2 t v ht, S.r.drew, fun p hp => (by cases hp), fun p hp => (by cases hp), fun p hp => (by cases hp), E.le.refl e, rfl⟩
        · by_cases hi : i < ops.size <;> simp [hi] at h
        · simp at h2
        · by_cases hi : i < ops.size <;> simp [hi] at h
      · have := cnt_len (Array.replicate ops.size false) (List.range ops.size)
        simpa using this
end
end Go.Proofs.YtjngkcnanhnopaaGreatDoor.Ev

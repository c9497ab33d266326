import Derived.Test.YtjngkcnanhnopaaGreatDoorKlf
/-! The evaluator: a row of operations. -/
namespace Go.Proofs.YtjngkcnanhnopaaGreatDoor.Ev
open Go Go.RowKit
set_option linter.unusedVariables false
set_option linter.unusedSimpArgs false

structure St where
  tm : Tr V
  h : H
def wantV (ops : Array Oper) (tm : Tr V) (o : Oper) : Option Bool :=
  match o.guard with
  | none => some true
  | some (j, t) => match ops[j]? with
    | none => none
    | some oj => match oj.dst with
      | none => none
      | some d => match tm.get d with
        | some (.bool b) => some (b == t)
        | some (.tuple []) => some false
        | _ => none
def putO (n : Nat) (tm : Tr V) (dst : Option Tmp) (v : V) : Option (Tr V) :=
  match dst with
  | none => some tm
  | some d => cond (Nat.blt d n) (some (tm.set d (some v))) none
def step1 (P : Program) (call : CallT) (ops : Array Oper) (n : Nat) (o : Oper) (s : St) : Option St :=
  match wantV ops s.tm o with
  | some true => (match evF o.op P call s.h s.tm with
    | some (v, h') => (match putO n s.tm o.dst v with
      | some tm => some ⟨tm, h'⟩
      | none => none)
    | none => none)
  | some false => (match putO n s.tm o.dst (.tuple []) with
    | some tm => some ⟨tm, s.h⟩
    | none => none)
  | none => none
def evList (P : Program) (call : CallT) (ops : Array Oper) (n : Nat) : List Oper → St → Option St
  | [], s => some s
  | o :: l, s => match step1 P call ops n o s with
    | some s' => evList P call ops n l s'
    | none => none
section
variable {P : Program} {w0 w : World} {e : E} {s s' : St} {a : Act}
structure SRel (w0 : World) (e : E) (n : Nat) (s : St) (a : Act) (w : World) : Prop where
  t : trel e s.tm n a.tmps
  r : Rel w0 e s.h w
theorem wantV_ok {ops : Array Oper} {tm : Tr V} {o : Oper} {b : Bool} {tmps : Array Value} (ht : ∀ t v, tm.get t = some v → (∀ g j c, o.guard = some (g, c) → ops[g]? = some j → j.dst = some t → True) → ∃ x, tmps[t]? = some x ∧ vrel e v x) (q : wantV ops tm o = some b) : Region.wanted o (yielded ops tmps) = b := by
  unfold wantV at q
  unfold Region.wanted
  split at q
  · rename_i hg
    cases q
    rw [hg]
  · rename_i j t hg
    rw [hg]
    split at q
    · cases q
    · rename_i oj hj
      split at q
      · cases q
      · rename_i d hd
        split at q
        · rename_i b' hb
          cases q
          obtain ⟨x, h1, h2⟩ := ht d _ hb (fun _ _ _ _ _ _ => trivial)
          simp only [vrel] at h2
          subst h2
          simp [yielded, hj, hd, h1]
        · rename_i hb
          cases q
          obtain ⟨x, h1, h2⟩ := ht d _ hb (fun _ _ _ _ _ _ => trivial)
          simp only [vrel] at h2
          obtain ⟨vs, rfl, h3⟩ := h2
          simp [yielded, hj, hd, h1]
        · cases q
theorem putO_ok {n : Nat} {tm tm' : Tr V} {dst : Option Tmp} {v : V} {x : Value} {e' : E} (ht : trel e tm n a.tmps) (hle : e.le e') (hv : vrel e' v x) (q : putO n tm dst v = some tm') : trel e' tm' n (a.put dst x).tmps := by
  unfold putO at q
  split at q
  · cases q
    exact ht.mono hle
  · rename_i d
    cases hd : Nat.blt d n with
    | false => rw [hd] at q; cases q
    | true =>
      rw [hd] at q
      cases q
      have hd : d < n := Nat.le_of_ble_eq_true hd
      refine ⟨by simp [Act.put, ht.1], fun t u hu => ?_⟩
      rw [Tr.get_set] at hu
      by_cases e1 : t = d
      · subst e1
        rw [if_pos rfl] at hu
        cases hu
        exact ⟨x, by simp [Act.put, ht.1, hd], hv⟩
      · rw [if_neg e1] at hu
        obtain ⟨y, h1, h2⟩ := ht.2 t u hu
        exact ⟨y, by simp [Act.put, Array.getElem?_setIfInBounds_ne (Ne.symm e1), h1], vrel_mono hle _ _ h2⟩
theorem put_defers (a : Act) (dst : Option Tmp) (x : Value) : (a.put dst x).defers = a.defers := by cases dst <;> rfl
theorem wp_step1 {F : Fence} (hF : Open F) {m n : Nat} {call : CallT} (hc : CallOk P call) {ops : Array Oper} {o : Oper} {K : Act → World → Prop} {Q : Exit → Act → World → Prop} (S : SRel w0 e n s a w) (q : step1 P call ops n o s = some s')
    (hK : ∀ e' a' w', e.le e' → SRel w0 e' n s' a' w' → a'.defers = a.defers → K a' w') :
    if Region.wanted o (yielded ops a.tmps) then o.wpIn F m P a w K Q else (∀ f, o.about P w a.eval = some f → F.fn f) ∧ K (a.put o.dst undef) w := by
  unfold step1 at q
  split at q
  · rename_i hw
    rw [wantV_ok (fun t v hv _ => S.t.2 t v hv) hw]
    rw [if_pos rfl]
    split at q
    · rename_i v h' hv
      split at q
      · rename_i tm hp
        cases q
        refine wp_evOp hF hc S.r (fun x _ v hv => evO_rel S.t hv) ((evF_op _ _ _ _ _).symm.trans hv) (fun e' x w' h1 h2 h3 => ?_)
        exact hK e' _ w' h1 ⟨putO_ok S.t h1 h2 hp, h3⟩ (put_defers _ _ _)
      · cases q
    · cases q
  · rename_i hw
    rw [wantV_ok (fun t v hv _ => S.t.2 t v hv) hw]
    rw [if_neg (by simp)]
    split at q
    · rename_i tm hp
      cases q
      exact ⟨fun f _ => hF.fn f, hK e _ w (E.le.refl e) ⟨putO_ok S.t (E.le.refl e) (by simp only [vrel]; exact ⟨[], rfl, vrels_nil.2 rfl⟩) hp, S.r⟩ (put_defers _ _ _)⟩
    · cases q
  · cases q
theorem wp_evList {F : Fence} (hF : Open F) {m n : Nat} {call : CallT} (hc : CallOk P call) {ops : Array Oper} {Q : Exit → Act → World → Prop} : ∀ (l : List Oper) (k : Nat) (e : E) (s s' : St) (a : Act) (w : World), (∀ j, l[j]? = ops[k + j]?) → SRel w0 e n s a w → evList P call ops n l s = some s' →
    (∀ e' a' w', e.le e' → SRel w0 e' n s' a' w' → a'.defers = a.defers → Q .normal a' w') → wpOpsIn F m P ops Q (List.range' k l.length) a w
  | [], k, e, s, s', a, w, _, S, q, hQ => by
    cases q
    exact hQ e a w (E.le.refl e) S rfl
  | o :: l, k, e, s, s', a, w, hl, S, q, hQ => by
    unfold evList at q
    split at q
    · rename_i s1 h1
      rw [List.length_cons, List.range'_succ, wpOpsIn_cons]
      have ho : ops[k]? = some o := by have := hl 0; simpa using this.symm
      unfold wpOpIn
      simp only [ho]
      refine wp_step1 hF hc S h1 (fun e1 a1 w1 h2 h3 h4 => ?_)
      exact wp_evList hF hc l (k + 1) e1 s1 s' a1 w1 (fun j => by have := hl (j + 1); simpa [Nat.add_assoc, Nat.add_comm 1 j] using this) h3 q (fun e2 a2 w2 h5 h6 h7 => hQ e2 a2 w2 (h2.trans h5) h6 (h7.trans h4))
    · cases q
theorem wp_regionN {F : Fence} (hF : Open F) {m n : Nat} {call : CallT} (hc : CallOk P call) {id : Nat} {ops : Array Oper} {Q : Exit → Act → World → Prop} (S : SRel w0 e n s a w) (q : evList P call ops n ops.toList s = some s')
    (hQ : ∀ e' a' w', e.le e' → SRel w0 e' n s' a' w' → a'.defers = a.defers → Q .normal a' w') : (Code.region id ops false).wpIn F m P Q a w := by
  refine wpIn_region ?_
  have := wp_evList (m := m) hF hc ops.toList 0 e s s' a w (fun j => by simp) S q hQ
  rw [List.range_eq_range']
  simpa using this
end
end Go.Proofs.YtjngkcnanhnopaaGreatDoor.Ev

import Derived.Test.YtjngkcnanhnopaaGreatDoorKnf
/-! The evaluator: calls. -/
namespace Go.Proofs.YtjngkcnanhnopaaGreatDoor.Ev
open Go Go.RowKit
set_option linter.unusedVariables false
set_option linter.unusedSimpArgs false

def resL (P : Program) (s : St) : List ResultVar → Option (List V)
  | [] => some []
  | .tmp t :: l => (match s.tm.get t, resL P s l with
    | some v, some vs => some (v :: vs)
    | _, _ => none)
  | .cell a t :: l => (match s.tm.get a with
    | some (.ptr (some p)) => (match loadV P s.h t p, resL P s l with
      | some v, some vs => some (v :: vs)
      | _, _ => none)
    | _ => none)
def resV : List V → V
  | [v] => v
  | vs => .tuple vs
def closeV : H → List Nat → Option H
  | h, [] => some h
  | h, b :: mk => match h.getW b with
    | some .mark => closeV (h.set b none) mk
    | _ => none
def argTm : Nat → List V → Tr V → Tr V
  | _, [], t => t
  | i, v :: l, t => argTm (i + 1) l (t.set i (some v))
def foldPut (n : Nat) : Tr V → List Tmp → List V → Option (Tr V)
  | t, d :: ds, v :: vs => (match putO n t (some d) v with
    | some t' => foldPut n t' ds vs
    | none => none)
  | t, [], [] => some t
  | _, _, _ => none
def isReady : LoopState → Bool
  | .ready => true
  | _ => false
abbrev SpecT := FuncId → Option (H → List V → Option (V × H))
abbrev ExtT := FuncId → Option (H → List V → Option (V × H))
def evEnd (P : Program) (fn : Func) (s : St) (mk : List Nat) : Option (V × H) :=
  match closeV s.h mk with
  | some h' => (match resL P ⟨s.tm, h'⟩ fn.results.toList with
    | some vs => some (resV vs, h')
    | none => none)
  | none => none
def ofL {α : Type} : Nat → List α → Tr α → Tr α
  | _, [], t => t
  | i, v :: l, t => ofL (i + 1) l (t.set i (some v))
theorem ofL_get {α : Type} : ∀ (l : List α) (i : Nat) (t : Tr α) (j : Nat), (ofL i l t).get j = if i ≤ j ∧ j < i + l.length then l[j - i]? else t.get j
  | [], i, t, j => by simp [ofL]; intro h1 h2; omega
  | v :: l, i, t, j => by
    unfold ofL
    rw [ofL_get l (i + 1) _ j, Tr.get_set]
    by_cases h1 : j = i
    · subst h1
      rw [if_neg (by omega), if_pos rfl, if_pos (by simp only [List.length_cons]; omega)]
      simp
    · by_cases h2 : i + 1 ≤ j ∧ j < i + 1 + l.length
      · rw [if_pos h2, if_pos (by simp only [List.length_cons]; omega)]
        rw [show j - i = (j - (i + 1)) + 1 by omega]
        simp
      · rw [if_neg h2, if_neg h1, if_neg (by simp only [List.length_cons]; omega)]
/-- The functions, as a tree. -/
def funcT (P : Program) : Tr Func := ofL 0 P.funcs.toList .leaf
theorem funcT_get (P : Program) (g : FuncId) : (funcT P).get g = P.funcs[g]? := by
  unfold funcT
  rw [ofL_get]
  by_cases h : g < P.funcs.size
  · rw [if_pos (by simpa using h)]; simp
  · rw [if_neg (by simpa using h), Array.getElem?_eq_none (Nat.le_of_not_lt h)]; exact Tr.get_leaf g
/-- A function is entered. -/
def evFn (P : Program) (spec : SpecT) (call : CallT) (draw : DrawT) (g : FuncId) (args : List V) (h : H) : Option (V × H) :=
  match spec g with
  | some f => f h args
  | none => match (funcT P).get g with
    | some fn => (match fn.body with
      | some c => cond (Nat.ble args.length fn.ntmps) (match evR c P call draw fn.ntmps none ⟨argTm 0 args .leaf, h⟩ [] with
        | some (.normal, s, mk) => evEnd P fn s mk
        | some (.ret, s, mk) => evEnd P fn s mk
        | _ => none) none
      | none => none)
    | none => none
/-- A round of a loop over a function. -/
def evRound (P : Program) (call : CallT) (draw : DrawT) (l : Nat) (args : List V) (h : H) : Option (V × H) :=
  match h.get l with
  | some (.loop r) => (match foldPut r.ntm r.tmps r.params args with
    | some tm => (match evR r.assign P call draw r.ntm (some l) ⟨tm, h⟩ [] with
      | some (.normal, s1, mk1) => (match s1.h.getW l with
        | some (.loop r1) => cond (isReady r1.state) (match evR r.body P call draw r.ntm (some l) ⟨s1.tm, s1.h.set l (some (.loop { r1 with state := .busy }))⟩ mk1 with
          | some (ex, s2, _) => (match s2.h.getW l with
            | some (.loop r2) => some (.bool ex.jump.isNone, s2.h.set l (some (.loop { r2 with state := if ex.jump.isNone then .ready else .done, pending := ex.jump })))
            | _ => none)
          | none => none) none
        | _ => none)
      | _ => none)
    | none => none)
  | _ => none
def evCall (P : Program) (ext : ExtT) (spec : SpecT) (draw : CallT → DrawT) : Nat → CallT
  | 0 => fun _ _ => none
  | d + 1 => fun task h => match task with
    | .fn g args => evFn P spec (evCall P ext spec draw d) (draw (evCall P ext spec draw d)) g args h
    | .call g args => (match ext g with
      | some f => f h args
      | none => evFn P spec (evCall P ext spec draw d) (draw (evCall P ext spec draw d)) g args h)
    | .round l args => evRound P (evCall P ext spec draw d) (draw (evCall P ext spec draw d)) l args h
section
variable {P : Program} {w0 w w' : World} {e : E} {h : H}
theorem Rel.kill (R : Rel w0 e h w) {b k : Nat} {o : O} (hk : e.ρ b = some k) (hfz : True) (hb : h.get b = some o) (hg : w.grownBy w' (some k)) : Rel w0 e (h.set b none) w' where
  heap := fun b1 o1 k1 hb1 hk1 => by
    rw [H.get_set] at hb1
    by_cases q : b1 = b
    · rw [if_pos q] at hb1; cases hb1
    · rw [if_neg q] at hb1
      have hne : k1 ≠ k := fun e1 => by subst e1; exact q (R.inj b1 b k1 o1 o hk1 hk hb1 hb)
      rw [hg.block k1 (R.new _ _ hk1).2 (fun e1 => hne (by cases e1; rfl))]
      exact R.heap b1 o1 k1 hb1 hk1
  lt := R.lt
  klt := R.klt
  inj := (R.del b).inj
  new := fun b1 k1 q => ⟨((R.del b).new b1 k1 q).1, Nat.lt_of_lt_of_le (R.new b1 k1 q).2 hg.size⟩
  bel := grown_below R none hk hg
  fresh := (R.del b).fresh
  lim := R.lim
theorem close_ok {F : Fence} {m : Nat} {fn : Func} {tmps : Array Value} {Rr : Ending → World → Prop} {h' : H} : ∀ (mk : List Nat) (ds : List Deferred) (h : H) (w : World), drel e mk ds → Rel w0 e h w → closeV h mk = some h' →
    (∀ w', Rel w0 e h' w' → ∃ v, (results fn tmps).run P w' = .ok v w' ∧ Rr (.returned v) w') → LeavesInM F m P fn tmps Rr ds .returning w
  | [], ds, h, w, D, R, q, hf => by
    cases q
    have D : ds = [] := D
    subst D
    exact hf w R
  | b :: mk, _, h, w, ⟨k, r, h1, h2, h3⟩, R, q, hf => by
    subst h1
    unfold closeV at q
    split at q
    · rename_i hg
      obtain ⟨hfz, hg⟩ := H.getW_some hg
      refine ⟨fun hh => (by cases hh), .inl ⟨k, w.putObj k (.deferred none), rfl, run_takeDeferred (R.heap b _ k hg h2), close_ok mk r _ _ h3 (R.kill h2 hfz hg (grownBy_putObj' _ _ _)) q hf⟩⟩
    · cases q
def resM (tmps : Array Value) : ResultVar → Sem Value
  | .tmp t => pure (tmps.getD t undef)
  | .cell a t => do loadVar t (← asAddr (tmps.getD a undef))
theorem results_eq (fn : Func) (tmps : Array Value) : results fn tmps = (do
    let vs ← fn.results.mapM (resM tmps)
    pure (if h : vs.size = 1 then vs[0] else .tuple vs)) := by
  unfold results
  congr 1
theorem run_resL {s : St} {n : Nat} {tmps : Array Value} (R : Rel w0 e s.h w) (T : trel e s.tm n tmps) : ∀ (l : List ResultVar) (vs : List V), resL P s l = some vs →
    ∃ xs, (l.mapM (m := Sem) (resM tmps)).run P w = .ok xs w ∧ vrels e vs xs
  | [], vs, q => by cases q; exact ⟨[], rfl, vrels_nil.2 rfl⟩
  | .tmp t :: l, vs, q => by
    unfold resL at q
    split at q
    · rename_i v vs' h1 h2
      cases q
      obtain ⟨x, h3, h4⟩ := T.2 t v h1
      obtain ⟨xs, h5, h6⟩ := run_resL R T l vs' h2
      refine ⟨x :: xs, ?_, vrels_cons.2 ⟨x, xs, rfl, h4, h6⟩⟩
      simp only [List.mapM_cons, Sem.run_bind, Sem.run_pure, Result.andThen_ok, h5, resM]
      simp [h3]
    · cases q
  | .cell a t :: l, vs, q => by
    unfold resL at q
    split at q
    · rename_i p hp
      split at q
      · rename_i v vs' h1 h2
        cases q
        obtain ⟨b, o⟩ := p
        obtain ⟨x, h3, h4⟩ := T.2 a _ hp
        simp only [vrel] at h4
        obtain ⟨k, hk, rfl⟩ := h4
        obtain ⟨y, h7, h8⟩ := run_loadV (P := P) (a := (b, o)) R hk h1
        obtain ⟨xs, h5, h6⟩ := run_resL R T l vs' h2
        refine ⟨y :: xs, ?_, vrels_cons.2 ⟨y, xs, rfl, h8, h6⟩⟩
        have hd : tmps.getD a undef = .pointer (some ⟨k, o, none⟩) := by simp [h3]
        simp only [List.mapM_cons, Sem.run_bind, Sem.run_pure, Result.andThen_ok, resM, hd, asAddr, h7, h5]
      · cases q
    · cases q
theorem run_results {fn : Func} {s : St} {n : Nat} {tmps : Array Value} {vs : List V} (R : Rel w0 e s.h w) (T : trel e s.tm n tmps) (q : resL P s fn.results.toList = some vs) : ∃ x, (results fn tmps).run P w = .ok x w ∧ vrel e (resV vs) x := by
  obtain ⟨xs, h1, h2⟩ := run_resL (P := P) R T fn.results.toList vs q
  have hm : (fn.results.mapM (m := Sem) (resM tmps)).run P w = .ok ⟨xs⟩ w := by
    rw [Array.mapM_eq_mapM_toList]
    rw [Sem.run_map, h1]
    rfl
  rw [results_eq, Sem.run_bind, hm]
  simp only [Result.andThen_ok, Sem.run_pure]
  match vs, xs, h2 with
  | [v], xs, h2 =>
    obtain ⟨x, r, rfl, h3, h4⟩ := vrels_cons.1 h2
    obtain rfl := vrels_nil.1 h4
    exact ⟨x, by simp, h3⟩
  | [], xs, h2 =>
    obtain rfl := vrels_nil.1 h2
    exact ⟨.tuple #[], by simp, by simp only [resV, vrel]; exact ⟨[], rfl, vrels_nil.2 rfl⟩⟩
  | a :: b :: l, xs, h2 =>
    have hl := vrels_len h2
    refine ⟨.tuple ⟨xs⟩, ?_, by simp only [resV, vrel]; exact ⟨xs, rfl, h2⟩⟩
    rw [dif_neg (by simp at hl ⊢; omega)]
theorem argTm_get : ∀ (l : List V) (i : Nat) (t : Tr V) (j : Nat), (argTm i l t).get j = if i ≤ j ∧ j < i + l.length then l[j - i]? else t.get j
  | [], i, t, j => by simp [argTm]; intro h1 h2; omega
  | v :: l, i, t, j => by
    unfold argTm
    rw [argTm_get l (i + 1) _ j, Tr.get_set]
    by_cases h1 : j = i
    · subst h1
      rw [if_neg (by omega), if_pos rfl, if_pos (by simp only [List.length_cons]; omega)]
      simp
    · by_cases h2 : i + 1 ≤ j ∧ j < i + 1 + l.length
      · rw [if_pos h2, if_pos (by simp only [List.length_cons]; omega)]
        rw [show j - i = (j - (i + 1)) + 1 by omega]
        simp
      · rw [if_neg h2, if_neg h1, if_neg (by simp only [List.length_cons]; omega)]
theorem args_trel {args : List V} {xs : List Value} {n : Nat} (hv : vrels e args xs) (hn : args.length ≤ n) : trel e (argTm 0 args .leaf) n ((⟨xs⟩ : Array Value) ++ Array.replicate (n - (⟨xs⟩ : Array Value).size) undef) := by
  have hl := vrels_len hv
  refine ⟨by simp; omega, fun t v hg => ?_⟩
  rw [argTm_get] at hg
  split at hg
  · rename_i ht
    simp only [Nat.sub_zero] at hg
    obtain ⟨x, h1, h2⟩ := vrels_get t hv hg
    refine ⟨x, ?_, h2⟩
    rw [Array.getElem?_append_left (by simp; omega)]
    simpa using h1
  · rw [Tr.get_leaf] at hg; cases hg
theorem foldPut_ok {n : Nat} : ∀ (ds : List Tmp) (vs : List V) (xs : List Value) (t t' : Tr V) (tmps : Array Value), trel e t n tmps → vrels e vs xs → foldPut n t ds vs = some t' →
    vs.length = ds.length ∧ trel e t' n ((ds.zip xs).foldl (fun tmps (p : Tmp × Value) => tmps.setIfInBounds p.1 p.2) tmps)
  | [], [], xs, t, t', tmps, T, hv, q => by cases q; exact ⟨rfl, T⟩
  | [], v :: vs, xs, t, t', tmps, T, hv, q => by simp [foldPut] at q
  | d :: ds, [], xs, t, t', tmps, T, hv, q => by simp [foldPut] at q
  | d :: ds, v :: vs, xs, t, t', tmps, T, hv, q => by
    obtain ⟨x, r, rfl, h1, h2⟩ := vrels_cons.1 hv
    unfold foldPut at q
    split at q
    · rename_i t1 ht
      have T1 := putO_ok (a := { tmps := tmps, defers := [] }) (x := x) T (E.le.refl e) h1 ht
      obtain ⟨h3, h4⟩ := foldPut_ok ds vs r t1 t' _ T1 h2 q
      exact ⟨by simp [h3], by simpa [List.zip_cons_cons, Act.put] using h4⟩
    · cases q
/-- What the specially told functions are asked. -/
def SpecOk (P : Program) (spec : SpecT) : Prop := ∀ g f, spec g = some f → (∃ fn, P.funcs[g]? = some fn ∧ fn.body.isNone = false) ∧ ∀ w0 e h w args v h', f h args = some (v, h') → Rel w0 e h w → ∀ xs, vrels e args xs → ∀ n, CallsIn Fence.wide n P g ⟨xs⟩ w (CallPost w0 e v h')
def ExtOk (P : Program) (ext : ExtT) : Prop := ∀ g f, ext g = some f → ∀ w0 e h w args v h', f h args = some (v, h') → Rel w0 e h w → ∀ xs, vrels e args xs → ∃ e' x w', (callFunc g ⟨xs⟩).run P w = .ok (.value x) w' ∧ e.le e' ∧ vrel e' v x ∧ Rel w0 e' h' w'
theorem evFn_ok {spec : SpecT} {call : CallT} {draw : DrawT} (hnm : ∀ (g : FuncId) (fn : Func), P.funcs[g]? = some fn → (fn.name == "runtime.NumGoroutine") = false) (hsp : SpecOk P spec) (hc : CallOk P call) (hd : DrawOk P call draw) {g : FuncId} {args : List V} {v : V} {h' : H}
    (q : evFn P spec call draw g args h = some (v, h')) (R : Rel w0 e h w) (xs : List Value) (hv : vrels e args xs) :
    (∃ fn, P.funcs[g]? = some fn ∧ fn.body.isNone = false ∧ (fn.name == "runtime.NumGoroutine") = false) ∧ ∀ n, CallsIn Fence.wide n P g ⟨xs⟩ w (CallPost w0 e v h') := by
  unfold evFn at q
  split at q
  · rename_i f hf
    obtain ⟨⟨fn, g1, g2⟩, g3⟩ := hsp g f hf
    exact ⟨⟨fn, g1, g2, hnm g fn g1⟩, g3 w0 e h w args v h' q R xs hv⟩
  · split at q
    · rename_i fn hfn
      have hfn := (funcT_get P g).symm.trans hfn
      split at q
      · rename_i c hb
        cases hle : Nat.ble args.length fn.ntmps with
        | false => rw [hle] at q; cases q
        | true =>
          rw [hle] at q
          simp only [cond_true] at q
          have hle := Nat.le_of_ble_eq_true hle
          refine ⟨⟨fn, hfn, by rw [hb]; rfl, hnm g fn hfn⟩, fun m => ?_⟩
          have T := args_trel hv hle
          have fin : ∀ (ex : Ex) (s : St) (mk : List Nat), evC P call draw fn.ntmps none c ⟨argTm 0 args .leaf, h⟩ [] = some (ex, s, mk) → (ex = .normal ∨ ex = .ret) →
              evEnd P fn s mk = some (v, h') → CallsIn Fence.wide m P g ⟨xs⟩ w (CallPost w0 e v h') := by
            intro ex s mk hev hex hq
            refine callsIn_of_wp_marks hfn hb trivial ?_
            refine evC_ok hc hd c _ _ _ _ _ _ _ _ _ _ _ _ _ _ (show FRel e none Fence.wide from rfl) (⟨T, R⟩ : SRel w0 e fn.ntmps ⟨argTm 0 args .leaf, h⟩ _ w) (show drel e [] [] from rfl) hev (fun e' a' w' h1 h2 h3 => ?_)
            have leave : LeavesInM Fence.wide m P fn a'.tmps (CallPost w0 e v h') a'.defers .returning w' := by
              unfold evEnd at hq
              split at hq
              · rename_i h2' hcl
                split at hq
                · rename_i vs hrs
                  cases hq
                  refine close_ok mk _ _ _ h3 h2.r hcl (fun w2 R2 => ?_)
                  obtain ⟨x, r1, r2⟩ := run_results (P := P) (s := ⟨s.tm, h'⟩) R2 h2.t hrs
                  exact ⟨x, r1, e', x, rfl, h1, r2, R2⟩
                · cases hq
              · cases hq
            rcases hex with rfl | rfl
            · exact leave
            · exact leave
          split at q
          · rename_i s mk hev; exact fin _ s mk ((evR_op _ _ _ _ _ _ _ _).symm.trans hev) (.inl rfl) q
          · rename_i s mk hev; exact fin _ s mk ((evR_op _ _ _ _ _ _ _ _).symm.trans hev) (.inr rfl) q
          · cases q
      · cases q
    · cases q
theorem evRound_ok {call : CallT} {draw : DrawT} (hc : CallOk P call) (hd : DrawOk P call draw) {l k : Nat} {args : List V} {v : V} {h' : H} (q : evRound P call draw l args h = some (v, h')) (R : Rel w0 e h w) (hk : e.ρ l = some k) (xs : List Value) (hv : vrels e args xs) :
    ∃ fn tmps assign body, (Instr.yield k ⟨xs⟩).run P w = .ok (.round k fn tmps assign body) w ∧ ∀ n, RoundIn Fence.wide n P k fn tmps assign body w (CallPost w0 e v h') := by
  unfold evRound at q
  split at q
  · rename_i r hg
    obtain ⟨fn, tmps, dk, g1, g2, g3⟩ := R.heap l _ k hg hk
    split at q
    · rename_i tm hfp
      obtain ⟨hlen, T⟩ := foldPut_ok r.params args xs r.tmps tm tmps g2 hv hfp
      have hy := run_yield (P := P) (args := ⟨xs⟩) g1 (by have := vrels_len hv; simp; omega)
      refine ⟨fn, _, _, _, hy, fun m => ?_⟩
      have T' : trel e tm r.ntm (((⟨r.params⟩ : Array Tmp).zip ⟨xs⟩).foldl (fun tmps (t, a) => tmps.setIfInBounds t a) tmps) := by
        rw [← Array.foldl_toList]
        simpa using T
      refine roundIn_of_wpIn trivial ?_
      split at q
      · rename_i s1 mk1 hev1
        refine evC_ok hc hd r.assign _ _ _ _ _ _ _ _ _ _ _ _ _ _ (show FRel e (some l) (Fence.wide.inRound k) from ⟨k, hk, rfl⟩) (⟨T', R⟩ : SRel w0 e r.ntm ⟨tm, h⟩ _ w) (show drel e [] [] from rfl) ((evR_op _ _ _ _ _ _ _ _).symm.trans hev1) (fun e1 a1 w1 h1 h2 h3 => ?_)
        split at q
        · rename_i r1 hg1
          obtain ⟨hf1, hg1⟩ := H.getW_some hg1
          cases hrd : isReady r1.state with
          | false => rw [hrd] at q; cases q
          | true =>
            rw [hrd] at q
            simp only [cond_true] at q
            have hk1 := h1.ρ _ _ hk
            obtain ⟨fn1, tmps1, dk1, p1, p2, p3⟩ := h2.r.heap l _ k hg1 hk1
            have hst : r1.state = .ready := by cases hh : r1.state <;> rw [hh] at hrd <;> first | rfl | cases hrd
            refine ⟨_, run_beginRound (P := P) p1 hst, ?_⟩
            have R2 : Rel w0 e1 (s1.h.set l (some (.loop { r1 with state := .busy }))) (w1.putObj k _) := h2.r.upd hk1 hf1 hg1 (grownBy_putObj' _ _ _) (by rw [World.putObj_heap_same (h2.r.new _ _ hk1).2]; exact ⟨fn1, tmps1, dk1, rfl, p2, p3⟩)
            split at q
            · rename_i ex s2 mk2 hev2
              split at q
              · rename_i r2 hg2
                obtain ⟨hf2, hg2⟩ := H.getW_some hg2
                cases q
                refine evC_ok hc hd r.body _ _ _ _ _ _ _ _ _ _ _ _ _ _ (show FRel e1 (some l) (Fence.wide.inRound k) from ⟨k, hk1, rfl⟩) (⟨h2.t, R2⟩ : SRel w0 e1 r.ntm ⟨s1.tm, s1.h.set l (some (.loop { r1 with state := .busy }))⟩ a1 _) h3 ((evR_op _ _ _ _ _ _ _ _).symm.trans hev2) (fun e2 a2 w2 h4 h5 h6 => ?_)
                · have hk2 := h4.ρ _ _ hk1
                  obtain ⟨fn2, tmps2, dk2, t1, t2, t3⟩ := h5.r.heap l _ k hg2 hk2
                  have hend := run_endRound (P := P) ex.jump t1
                  have R3 : Rel w0 e2 (s2.h.set l (some (.loop { r2 with state := if ex.jump.isNone then .ready else .done, pending := ex.jump }))) (w2.putObj k _) := h5.r.upd hk2 hf2 hg2 (grownBy_putObj' _ _ _) (by rw [World.putObj_heap_same (h5.r.new _ _ hk2).2]; exact ⟨fn2, tmps2, dk2, rfl, t2, t3⟩)
                  have fin : CallPost w0 e (.bool ex.jump.isNone) _ (.returned (.bool ex.jump.isNone)) (w2.putObj k _) := ⟨e2, _, rfl, h1.trans h4, by simp only [vrel], R3⟩
                  cases ex with
                  | normal => exact ⟨_, _, hend, fin⟩
                  | exit id => exact ⟨_, _, hend, fin⟩
                  | goto l => exact ⟨_, _, hend, fin⟩
                  | ret => exact ⟨_, _, hend, fin⟩
              · cases q
            · cases q
        · cases q
      · cases q
    · cases q
  · cases q
theorem evCall_ok {ext : ExtT} {spec : SpecT} {draw : CallT → DrawT} (hnm : ∀ (g : FuncId) (fn : Func), P.funcs[g]? = some fn → (fn.name == "runtime.NumGoroutine") = false) (hex : ExtOk P ext) (hsp : SpecOk P spec) (hdr : ∀ call, CallOk P call → DrawOk P call (draw call)) : ∀ d, CallOk P (evCall P ext spec draw d)
  | 0 => ⟨fun q => by simp [evCall] at q, fun q => by simp [evCall] at q, fun q => by simp [evCall] at q⟩
  | d + 1 => by
    have hc := evCall_ok hnm hex hsp hdr d
    have hd := hdr _ hc
    constructor
    · intro w0 e h w g args v h' q R xs hv
      exact evFn_ok hnm hsp hc hd q R xs hv
    · intro w0 e h w g args v h' q R xs hv
      simp only [evCall] at q
      split at q
      · rename_i f hf
        exact .inr (hex g f hf w0 e h w args v h' q R xs hv)
      · exact .inl (evFn_ok hnm hsp hc hd q R xs hv)
    · intro w0 e h w l args v h' k q R hk xs hv
      exact evRound_ok hc hd q R hk xs hv
end
end Go.Proofs.YtjngkcnanhnopaaGreatDoor.Ev

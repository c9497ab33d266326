import Derived.Test.YtjngkcnanhnopaaGreatDoorJa
/-! The evaluator that goes all ways: one operation; a region that draws, by its laid order. -/
namespace Go.Proofs.YtjngkcnanhnopaaGreatDoor.Ev
open Go Go.RowKit
set_option linter.unusedVariables false
set_option linter.unusedSimpArgs false

theorem goL_inv {α β : Type} {f : α → OutL β} : ∀ {l : List α} {rs : List β}, goL f l = some rs → ∀ r ∈ rs, ∃ a ∈ l, ∃ x, f a = some x ∧ r ∈ x
  | [], rs, h, r, hr => by cases h; cases hr
  | b :: l, rs, h, r, hr => by
    unfold goL at h
    split at h
    · rename_i x y hx hy
      cases h
      rcases List.mem_append.1 hr with hr | hr
      · exact ⟨b, List.mem_cons_self, x, hx, hr⟩
      · obtain ⟨a, ha, z, hz, hz2⟩ := goL_inv hy r hr
        exact ⟨a, List.mem_cons_of_mem _ ha, z, hz, hz2⟩
    · cases h
theorem bindL_inv {α β : Type} {o : OutL α} {f : α → OutL β} {rs : List β} (h : bindL o f = some rs) : ∀ r ∈ rs, ∃ x, r ∈ x ∧ (∃ a : α, True) ∧ ∃ a, f a = some x := by
  unfold bindL at h
  split at h
  · rename_i l
    intro r hr
    obtain ⟨a, ha, x, hx, hr2⟩ := goL_inv h r hr
    exact ⟨x, hr2, ⟨a, trivial⟩, a, hx⟩
  · cases h
abbrev CallN := Task → H → OutL (V × H)
def oneOf (call : CallN) : CallT := fun t h => match call t h with
  | some [r] => some r
  | _ => none
structure CallNOk (P : Program) (call : CallN) : Prop where
  fn : ∀ {w0 e h w g args rs}, call (.fn g args) h = some rs → Rel w0 e h w → ∀ xs, vrels e args xs → (∃ fn, P.funcs[g]? = some fn ∧ fn.body.isNone = false ∧ (fn.name == "runtime.NumGoroutine") = false) ∧ ∀ n, CallsIn Fence.wide n P g ⟨xs⟩ w (fun en w' => ∃ r ∈ rs, CallPost w0 e r.1 r.2 en w')
  run : ∀ {w0 e h w g args rs}, call (.call g args) h = some rs → Rel w0 e h w → ∀ xs, vrels e args xs → ((∃ fn, P.funcs[g]? = some fn ∧ fn.body.isNone = false ∧ (fn.name == "runtime.NumGoroutine") = false) ∧ ∀ n, CallsIn Fence.wide n P g ⟨xs⟩ w (fun en w' => ∃ r ∈ rs, CallPost w0 e r.1 r.2 en w')) ∨
    ∃ r ∈ rs, ∃ e' x w', (callFunc g ⟨xs⟩).run P w = .ok (.value x) w' ∧ e.le e' ∧ vrel e' r.1 x ∧ Rel w0 e' r.2 w'
  round : ∀ {w0 e h w l args rs k}, call (.round l args) h = some rs → Rel w0 e h w → e.ρ l = some k → ∀ xs, vrels e args xs →
    ∃ fn tmps assign body, (Instr.yield k ⟨xs⟩).run P w = .ok (.round k fn tmps assign body) w ∧ ∀ n, RoundIn Fence.wide n P k fn tmps assign body w (fun en w' => ∃ r ∈ rs, CallPost w0 e r.1 r.2 en w')
theorem oneOf_some {call : CallN} {t : Task} {h : H} {r : V × H} (q : oneOf call t h = some r) : call t h = some [r] := by
  unfold oneOf at q
  split at q
  · rename_i r' hr; cases q; exact hr
  · cases q
theorem oneOf_ok {P : Program} {call : CallN} (hc : CallNOk P call) : CallOk P (oneOf call) where
  fn := by
    intro w0 e h w g args v h' q R xs hv
    obtain ⟨h1, h2⟩ := hc.fn (oneOf_some q) R xs hv
    refine ⟨h1, fun n => (h2 n).mono ?_⟩
    rintro en w' ⟨r, hr, hp⟩
    obtain rfl := List.mem_singleton.1 hr
    exact hp
  run := by
    intro w0 e h w g args v h' q R xs hv
    rcases hc.run (oneOf_some q) R xs hv with ⟨h1, h2⟩ | ⟨r, hr, e', x, w', h1, h0, h2, h3⟩
    · refine .inl ⟨h1, fun n => (h2 n).mono ?_⟩
      rintro en w' ⟨r, hr, hp⟩
      obtain rfl := List.mem_singleton.1 hr
      exact hp
    · obtain rfl := List.mem_singleton.1 hr
      exact .inr ⟨e', x, w', h1, h0, h2, h3⟩
  round := by
    intro w0 e h w l args v h' k q R hk xs hv
    obtain ⟨fn, tmps, as, body, h1, h2⟩ := hc.round (oneOf_some q) R hk xs hv
    refine ⟨fn, tmps, as, body, h1, fun n => (h2 n).mono ?_⟩
    rintro en w' ⟨r, hr, hp⟩
    obtain rfl := List.mem_singleton.1 hr
    exact hp
def callVN (call : CallN) (h : H) (f : V) (args : List V) : OutL (V × H) :=
  match f with
  | .func (.func g) first cap => call (.call g (first ++ args ++ cap)) h
  | .yield l => call (.round l args) h
  | _ => none
/-- Does an operation go several ways? -/
def manyB : Op → Bool
  | .next _ _ => true
  | .call c => (match c.callee with
    | .value _ => true
    | _ => false)
  | _ => false
def evOpN (P : Program) (call : CallN) (h : H) (tm : Tr V) (op : Op) : OutL (V × H) :=
  match op with
  | .next it false => (match evO tm it with
    | some v => nextN h v
    | none => none)
  | .call c => (match c.callee with
    | .value f => (match evL tm c.args.toList, evO tm f with
      | some args, some fv => callVN call h fv args
      | _, _ => none)
    | .builtin .append => (match evOp P (oneOf call) h tm (.call c) with
      | some r => some [r]
      | none => (match evL tm c.args.toList with
        | some [s, x] => appForkN P h c.argTypes s x
        | _ => none))
    | _ => oneL (evOp P (oneOf call) h tm (.call c)))
  | op => oneL (evOp P (oneOf call) h tm op)
def step1N (P : Program) (call : CallN) (ops : Array Oper) (n : Nat) (o : Oper) (s : St) : OutL St :=
  match wantV ops s.tm o with
  | some true => bindL (evOpN P call s.h s.tm o.op) (fun r => oneL (match putO n s.tm o.dst r.1 with
    | some tm => some ⟨tm, r.2⟩
    | none => none))
  | some false => (match putO n s.tm o.dst (.tuple []) with
    | some tm => some [⟨tm, s.h⟩]
    | none => none)
  | none => none
def evListN (P : Program) (call : CallN) (ops : Array Oper) (n : Nat) : List Oper → St → OutL St
  | [], s => some [s]
  | o :: l, s => bindL (step1N P call ops n o s) (evListN P call ops n l)
section
variable {P : Program} {w0 w : World} {e : E} {h : H} {tm : Tr V} {a : Act} {s : St}
theorem wp_evOpN {F : Fence} (hF : Open F) {n : Nat} {call : CallN} (hc : CallNOk P call) (R : Rel w0 e h w) {o : Oper} {rs : List (V × H)} {K : Act → World → Prop} {Q : Exit → Act → World → Prop} (hop : ∀ x ∈ o.op.operands.toList, ∀ v, evO tm x = some v → vrel e v (a.eval x))
    (q : evOpN P call h tm o.op = some rs) (hK : ∀ r ∈ rs, ∀ e' x w', e.le e' → vrel e' r.1 x → Rel w0 e' r.2 w' → K (a.put o.dst x) w') : o.wpIn F n P a w K Q := by
  have plainOne : oneL (evOp P (oneOf call) h tm o.op) = some rs → o.wpIn F n P a w K Q := by
    intro q
    obtain ⟨r, h1, rfl⟩ := oneL_some q
    exact wp_evOp hF (oneOf_ok hc) R hop h1 (hK r List.mem_cons_self)
  obtain ⟨dst, op, ty, pos, aft, gd⟩ := o
  cases op
  case next it isS =>
    cases isS with
    | true => exact plainOne q
    | false =>
      unfold evOpN at q
      dsimp only at q
      split at q
      · rename_i v hv
        obtain ⟨r, hr, w', z, h1, h2, h3⟩ := run_nextN (P := P) R ty (hop it (by simp [Op.operands]) _ hv) q
        refine ⟨fun f _ => hF.fn f, ?_⟩
        rw [Oper.semAt_eq _ _ _ (by intro c hd; cases hd)]
        have : (execOp a.eval ({ dst := dst, op := .next it false, type := ty, pos := pos, after := aft, guard := gd } : Oper)).run P w = .ok (.value z) w' := by simp [execOp, h1]
        rw [this]
        exact hK r hr e z w' (E.le.refl e) h2 h3
      · cases q
  case call c =>
    unfold evOpN at q
    dsimp only at q
    split at q
    · rename_i f hcl
      split at q
      · rename_i args fv hl hf
        have hopf := hop f (by simp [Op.operands, Call.operands, hcl])
        have r1 := evL_rel (e := e) (a := a) (l := c.args.toList) (fun y hy => hop y (by simp [Op.operands, Call.operands, hcl]; exact .inr (by simpa using hy))) hl
        have hfv := hopf _ hf
        have hdef : ∀ d, (Op.call c) ≠ .defer d := by intro d hd; cases hd
        refine ⟨fun f _ => hF.fn f, ?_⟩
        unfold callVN at q
        split at q
        · rename_i g first cap
          simp only [vrel] at hfv
          obtain ⟨fs, cs, hfe, hfs, hcs⟩ := hfv
          have hex : (execOp a.eval ({ dst := dst, op := .call c, type := ty, pos := pos, after := aft, guard := gd } : Oper)).run P w = (callFunc g ⟨fs ++ c.args.toList.map a.eval ++ cs⟩).run P w := by
            simp [execOp, resolve, hcl, hfe, Deferred.ofValue, invoke]
            congr 2
            apply Array.ext'
            simp
          rcases hc.run q R (fs ++ c.args.toList.map a.eval ++ cs) (vrels_append (vrels_append hfs r1) hcs) with ⟨⟨fn, g1, g2, g3⟩, g4⟩ | ⟨r, hr, e', x, w', g1, g0, g2, g3⟩
          · have hrun : (execOp a.eval ({ dst := dst, op := .call c, type := ty, pos := pos, after := aft, guard := gd } : Oper)).run P w = .ok (.enter g ⟨fs ++ c.args.toList.map a.eval ++ cs⟩) w := by
              have g3' : ¬ fn.name = "runtime.NumGoroutine" := by simpa using g3
              have g2' : ¬ fn.body = none := fun hh => by rw [hh] at g2; cases g2
              rw [hex]
              simp [callFunc, g1, g2', g3']
            rw [Oper.semAt_eq _ _ _ hdef, hrun, Oper.uponIn_enter]
            refine ⟨fun hd => ?_, hF.calls ((g4 (n - 1)).mono ?_)⟩
            · rw [hF.depth] at hd; cases hd
            · rintro en w' ⟨r, hr, e', x, rfl, p2, p3, p4⟩
              exact hK r hr e' x w' p2 p3 p4
          · rw [Oper.semAt_eq _ _ _ hdef, hex, g1]
            exact hK r hr e' x w' g0 g2 g3
        · rename_i l
          simp only [vrel] at hfv
          obtain ⟨k, hk, hfe⟩ := hfv
          obtain ⟨fn, tmps, as, body, g1, g2⟩ := hc.round q R hk _ r1
          have hrun : (execOp a.eval ({ dst := dst, op := .call c, type := ty, pos := pos, after := aft, guard := gd } : Oper)).run P w = .ok (.round k fn tmps as body) w := by
            have hargs : c.args.map a.eval = ⟨c.args.toList.map a.eval⟩ := by
              apply Array.ext'
              simp
            rw [← hargs] at g1
            simp [execOp, resolve, hcl, hfe, Deferred.ofValue, invoke, g1]
          rw [Oper.semAt_eq _ _ _ hdef, hrun, Oper.uponIn_round]
          refine ⟨fun hd => ?_, hF.rounds ((g2 (n - 1)).mono ?_)⟩
          · rw [hF.depth] at hd; cases hd
          · rintro en w' ⟨r, hr, e', x, rfl, p2, p3, p4⟩
            exact hK r hr e' x w' p2 p3 p4
        · cases q
      · cases q
    · rename_i hcl
      split at q
      · rename_i r hr
        cases q
        exact plainOne (by rw [hr]; rfl)
      · split at q
        · rename_i s x hl
          have r1 := evL_rel (e := e) (a := a) (l := c.args.toList) (fun y hy => hop y (by simp [Op.operands, Call.operands, hcl]; simpa using hy)) hl
          obtain ⟨s', r, h1, h2, h3⟩ := vrels_cons.1 r1
          obtain ⟨x', r', rfl, h4, h5⟩ := vrels_cons.1 h3
          obtain rfl := vrels_nil.1 h5
          have hargs : c.args.map a.eval = #[s', x'] := by
            apply Array.ext'
            simpa using h1
          obtain ⟨r, hr, e', w', z, p1, p2, p3, p4⟩ := run_appForkN (P := P) (ty := ty) R h2 h4 q
          refine ⟨fun f _ => hF.fn f, ?_⟩
          rw [Oper.semAt_eq _ _ _ (by intro d hd; cases hd)]
          have : (execOp a.eval ({ dst := dst, op := .call c, type := ty, pos := pos, after := aft, guard := gd } : Oper)).run P w = .ok (.value z) w' := by simp [execOp, resolve, hcl, invoke, builtin, hargs, p1]
          rw [this]
          exact hK r hr e' z w' p2 p3 p4
        · cases q
    · exact plainOne q
  all_goals exact plainOne q
theorem wp_step1N {F : Fence} (hF : Open F) {m n : Nat} {call : CallN} (hc : CallNOk P call) {ops : Array Oper} {o : Oper} {rs : List St} {K : Act → World → Prop} {Q : Exit → Act → World → Prop} (S : SRel w0 e n s a w) (q : step1N P call ops n o s = some rs)
    (hK : ∀ s' ∈ rs, ∀ e' a' w', e.le e' → SRel w0 e' n s' a' w' → a'.defers = a.defers → K a' w') :
    if Region.wanted o (yielded ops a.tmps) then o.wpIn F m P a w K Q else (∀ f, o.about P w a.eval = some f → F.fn f) ∧ K (a.put o.dst undef) w := by
  unfold step1N at q
  split at q
  · rename_i hw
    rw [wantV_ok (fun t v hv _ => S.t.2 t v hv) hw]
    rw [if_pos rfl]
    obtain ⟨l, hl, hall⟩ := bindL_some q
    refine wp_evOpN hF hc S.r (fun x _ v hv => evO_rel S.t hv) hl (fun r hr e' x w' h1 h2 h3 => ?_)
    obtain ⟨y, hy, hsub⟩ := hall r hr
    obtain ⟨s', hs', rfl⟩ := oneL_some hy
    split at hs'
    · rename_i tm hp
      cases hs'
      exact hK _ (hsub _ List.mem_cons_self) e' _ w' h1 ⟨putO_ok S.t h1 h2 hp, h3⟩ (put_defers _ _ _)
    · cases hs'
  · rename_i hw
    rw [wantV_ok (fun t v hv _ => S.t.2 t v hv) hw]
    rw [if_neg (by simp)]
    split at q
    · rename_i tm hp
      cases q
      exact ⟨fun f _ => hF.fn f, hK _ List.mem_cons_self e _ w (E.le.refl e) ⟨putO_ok S.t (E.le.refl e) (by simp only [vrel]; exact ⟨[], rfl, vrels_nil.2 rfl⟩) hp, S.r⟩ (put_defers _ _ _)⟩
    · cases q
  · cases q
theorem wp_evListN {F : Fence} (hF : Open F) {m n : Nat} {call : CallN} (hc : CallNOk P call) {ops : Array Oper} {Q : Exit → Act → World → Prop} : ∀ (l : List Oper) (k : Nat) (e : E) (s : St) (rs : List St) (a : Act) (w : World), (∀ j, l[j]? = ops[k + j]?) → SRel w0 e n s a w → evListN P call ops n l s = some rs →
    (∀ s' ∈ rs, ∀ e' a' w', e.le e' → SRel w0 e' n s' a' w' → a'.defers = a.defers → Q .normal a' w') → wpOpsIn F m P ops Q (List.range' k l.length) a w
  | [], k, e, s, rs, a, w, _, S, q, hQ => by
    cases q
    exact hQ _ List.mem_cons_self e a w (E.le.refl e) S rfl
  | o :: l, k, e, s, rs, a, w, hl, S, q, hQ => by
    unfold evListN at q
    obtain ⟨l1, h1, hall⟩ := bindL_some q
    rw [List.length_cons, List.range'_succ, wpOpsIn_cons]
    have ho : ops[k]? = some o := by have := hl 0; simpa using this.symm
    unfold wpOpIn
    simp only [ho]
    refine wp_step1N hF hc S h1 (fun s1 hs1 e1 a1 w1 h2 h3 h4 => ?_)
    obtain ⟨y, hy, hsub⟩ := hall s1 hs1
    exact wp_evListN hF hc l (k + 1) e1 s1 y a1 w1 (fun j => by have := hl (j + 1); simpa [Nat.add_assoc, Nat.add_comm 1 j] using this) h3 hy (fun s2 hs2 e2 a2 w2 h5 h6 h7 => hQ s2 (hsub s2 hs2) e2 a2 w2 (h2.trans h5) h6 (h7.trans h4))
theorem wp_regionNN {F : Fence} (hF : Open F) {m n : Nat} {call : CallN} (hc : CallNOk P call) {id : Nat} {ops : Array Oper} {rs : List St} {Q : Exit → Act → World → Prop} (S : SRel w0 e n s a w) (q : evListN P call ops n ops.toList s = some rs)
    (hQ : ∀ s' ∈ rs, ∀ e' a' w', e.le e' → SRel w0 e' n s' a' w' → a'.defers = a.defers → Q .normal a' w') : (Code.region id ops false).wpIn F m P Q a w := by
  refine wpIn_region ?_
  have := wp_evListN (m := m) hF hc ops.toList 0 e s rs a w (fun j => by simp) S q hQ
  rw [List.range_eq_range']
  simpa using this
end
def stepFN (P : Program) (call : CallN) (ops : Array Oper) (n : Nat) : List SI → List PI → St → OutL St
  | [], _, s => some [s]
  | .val it :: l, pend, s => (match freeS P ops n s it with
    | some (s', .val v) => stepFN P call ops n l (cond (memB it.o.op) (⟨it.i, it.o, .val v⟩ :: pend) pend) s'
    | some (s', .skip) => stepFN P call ops n l pend s'
    | _ => none)
  | .new it :: l, pend, s => (match freeS P ops n s it with
    | some (s', .new b ob v) => cond ((⟨it.i, it.o, .new b ob v⟩ :: pend).all fun p => !(memB p.o.op) || chk P ops n s' p) (stepFN P call ops n l (⟨it.i, it.o, .new b ob v⟩ :: pend) s') none
    | some (s', .skip) => stepFN P call ops n l pend s'
    | _ => none)
  | .eff it :: l, pend, s => bindL (step1N P call ops n it.o s) (fun s' => cond ((pend.filter fun p => !(it.m.testBit p.i)).all (chk P ops n s')) (stepFN P call ops n l (pend.filter fun p => !(it.m.testBit p.i)) s') none)
theorem step1N_tm {P : Program} {call : CallN} {ops : Array Oper} {n : Nat} {o : Oper} {s : St} {rs : List St} (q : step1N P call ops n o s = some rs) : ∀ s' ∈ rs, ∀ t, o.dst ≠ some t → s'.tm.get t = s.tm.get t := by
  intro s' hs' t ht
  unfold step1N at q
  split at q
  · obtain ⟨l, hl, _, r, hall⟩ := bindL_inv q s' hs'
    obtain ⟨st, h1, h2⟩ := oneL_some hall
    rw [h2] at hl
    obtain rfl := List.mem_singleton.1 hl
    split at h1
    · rename_i tm hp
      cases h1
      show tm.get t = s.tm.get t
      rw [putO_get hp t, if_neg ht]
    · cases h1
  · split at q
    · rename_i tm hp
      cases q
      obtain rfl := List.mem_singleton.1 hs'
      show tm.get t = s.tm.get t
      rw [putO_get hp t, if_neg ht]
    · cases q
  · cases q
section
variable {P : Program} {ops : Array Oper} {n m : Nat} {w0 w : World} {e0 e : E} {dfs : List Deferred} {listed : Array Bool} {done : Nat} {pend : List PI} {s : St} {a : Act} {F : Fence} {call : CallN} {Q : Exit → Act → World → Prop}
/-- One that waits for its turn comes up, and goes several ways. -/
theorem exec_effN (hF : Open F) (hcall : CallNOk P call) (hssa : ssaB ops (itemsGo 0 ops.toList []) = true) (I : Inv P ops n w0 e0 dfs listed done pend s e a w) {it : It} (hit : it ∈ itemsGo 0 ops.toList []) (hnd : done.testBit it.i = false) (hi : listed.getD it.i true = false)
    (hpre : ∀ ed ∈ it.o.after, Region.binds .any ed = true → listed.getD ed.on false = true) {rs : List St} (q : step1N P call ops n it.o s = some rs) (hchk : ∀ s1 ∈ rs, ((pend.filter fun p => !(it.m.testBit p.i)).all (Ev.chk P ops n s1)) = true) {K : Act → World → Prop}
    (hK : ∀ s1 ∈ rs, ∀ e' a' w', Inv P ops n w0 e0 dfs (listed.setIfInBounds it.i true) (done ||| 2 ^ it.i) (pend.filter fun p => !(it.m.testBit p.i)) s1 e' a' w' → K a' w') : wpOpIn F m P ops Q it.i K a w := by
  obtain ⟨k0, hk0, hk1⟩ := items_mem ops.toList 0 [] it hit
  have hoi : ops[it.i]? = some it.o := by rw [hk0]; simpa using hk1
  have T := I.temps hssa hit hpre
  unfold wpOpIn
  simp only [hoi]
  unfold step1N at q
  split at q
  · rename_i hw
    rw [wantV_look T.1 hw, if_pos rfl]
    obtain ⟨l, hl, hall⟩ := bindL_some q
    refine wp_evOpN hF hcall I.rel T.2 hl (fun r hr e' x w' h1 h2 h3 => ?_)
    obtain ⟨y, hy, hsub⟩ := hall r hr
    obtain ⟨s', hs', rfl⟩ := oneL_some hy
    split at hs'
    · rename_i tm hp
      cases hs'
      exact hK _ (hsub _ List.mem_cons_self) e' _ w' (I.came hssa hit hnd hi hpre (hchk _ (hsub _ List.mem_cons_self)) rfl hp h1 h2 h3)
    · cases hs'
  · rename_i hw
    rw [wantV_look T.1 hw, if_neg (by simp)]
    split at q
    · rename_i tm hp
      cases q
      exact ⟨fun f _ => hF.fn f, hK _ List.mem_cons_self e _ w (I.came hssa hit hnd hi hpre (hchk _ List.mem_cons_self) rfl hp (E.le.refl e) (by simp only [vrel]; exact ⟨[], rfl, vrels_nil.2 rfl⟩) I.rel)⟩
    · cases q
  · cases q
theorem drawFMN (hF : Open F) (hcall : CallNOk P call) (hssa : ssaB ops (itemsGo 0 ops.toList []) = true) (hlow : lowB (itemsGo 0 ops.toList []) = true) :
    ∀ (l : List SI) (done : Nat) (fr : List It) (pg pd : List PI) (s : St) (fc : Nat) (listed : Array Bool) (e : E) (a : Act) (w : World), Sched ops (itemsGo 0 ops.toList []) done fr l → Lk ops (itemsGo 0 ops.toList []) done fr pg pd →
      ∀ (rs : List St), stepFN P call ops n l pd s = some rs → (∀ s' ∈ rs, ∀ e' a' w', e0.le e' → SRel w0 e' n s' a' w' → a'.defers = dfs → Q .normal a' w') → Inv P ops n w0 e0 dfs listed done pg s e a w → cnt (List.range ops.size) listed ≤ fc → wpAnyIn F m P .any ops Q fc listed a w := by
  intro l done fr pg pd s fc listed e a w hs
  induction hs generalizing pg pd s fc listed e a w with
  | nil hall =>
    intro L rs q hQ I hc
    cases q
    refine sweep hF hssa hlow (fun listed e a w I hall => ?_) (fun fc listed e a w it' I hm' hnd' hr' h0 hpre hc => ?_) fc listed e a w I hc
    · refine hQ s List.mem_cons_self e a w I.le ⟨⟨I.tsz, fun t v ht => I.tr t v ht (fun p hp hu => ?_)⟩, I.rel⟩ I.dfs
      have hlt := (Array.getElem?_eq_some_iff.1 (I.mem p hp)).1
      have h1 := hall p.i hlt
      have : p.i < listed.size := by rw [I.size]; exact hlt
      have h2 : listed.getD p.i false = true := by simpa [this] using h1
      rw [hu] at h2
      cases h2
    · rw [hall it' hm'] at hnd'
      cases hnd'
  | @free done fr it l hm hr hne hsch ih =>
    intro L rs q hQ I hc
    obtain ⟨hnd, hmr⟩ := rdy_m hr
    have hmb := mready_bit hmr
    -- what is written now, no one looks at that came up ahead
    have hself : ∀ d, it.o.dst = some d → d ∉ it.o.looksAt ops := fun d hd hl => by
      have := hmb _ (ssa_look hssa hm hm (by rw [hne]; rfl) hd hl)
      rw [hnd] at this
      cases this
    have hpl : ∀ p ∈ pg, ∀ d, it.o.dst = some d → d ∉ p.o.looksAt ops ∧ p.o.dst ≠ some d := fun p hp d hd => by
      obtain ⟨itp, h1, h2, h3⟩ := L.a p hp
      have hneq : itp.i ≠ it.i := fun hh => by have := I.pdn p hp; rw [← h2, hh, hnd] at this; cases this
      refine ⟨fun hl => ?_, fun hpd => ?_⟩
      · have := (L.c itp h1).2 _ (ssa_look hssa hm (L.c itp h1).1 (by rw [hne]; rfl) hd (by rw [h3]; exact hl))
        rw [hnd] at this
        cases this
      · exact ssa_dst hssa hm (L.c itp h1).1 (Ne.symm hneq) (by rw [hne]; rfl) d (by rw [h3]; exact hpd) hd
    -- who came up ahead comes to the same
    have old : ∀ (tm : Tr V) (v : V) (h' : H) (p : PI), putO n s.tm it.o.dst v = some tm → p ∈ pg → (∀ v, p.k = .val v → pureOp P h' s.tm p.o.op = pureOp P s.h s.tm p.o.op) →
        (∀ b ob v, p.k = .new b ob v → allocOp P h' s.tm p.o.op = allocOp P s.h s.tm p.o.op ∧ h'.get b = s.h.get b) → chk P ops n ⟨tm, h'⟩ p = true := by
      intro tm v h' p hput hp h1 h2
      refine chk_of (s' := ⟨tm, h'⟩) (I.chk p hp) (fun t ht => ?_) (fun d hd => ?_) h1 h2
      · show tm.get t = s.tm.get t
        rw [putO_get hput t, if_neg (fun hd => (hpl p hp t hd).1 ht)]
      · show tm.get d = s.tm.get d
        rw [putO_get hput d, if_neg (fun hd' => (hpl p hp d hd').2 hd)]
    have tmg : ∀ (tm : Tr V) (v : V), putO n s.tm it.o.dst v = some tm → ∀ t ∈ it.o.looksAt ops, tm.get t = s.tm.get t := fun tm v hput t ht => by
      rw [putO_get hput t, if_neg (fun hd => hself t hd ht)]
    have fin : ∀ (s1 : St) (k : PK) (pd' : List PI), freeS P ops n s it = some (s1, k) → (∀ p ∈ (⟨it.i, it.o, k⟩ : PI) :: pg, chk P ops n s1 p = true) → (∀ p ∈ pd, p ∈ pd') → (stableK ⟨it.i, it.o, k⟩ = true ∨ (⟨it.i, it.o, k⟩ : PI) ∈ pd') →
        stepFN P call ops n l pd' s1 = some rs → wpAnyIn F m P .any ops Q fc listed a w := by
      intro s1 k pd' hfr hall hsub hnew hst
      obtain ⟨e', I'⟩ := I.free hm hnd hfr (List.all_eq_true.2 hall)
      refine ih _ pd' s1 fc listed e' a w ⟨fun p hp => ?_, fun p hp => ?_, fun q hq => ?_⟩ rs hst hQ I' hc
      · rcases List.mem_cons.1 hp with rfl | hp
        · exact ⟨it, List.mem_cons_self, rfl, rfl⟩
        · obtain ⟨itp, h1, h2⟩ := L.a p hp
          exact ⟨itp, List.mem_cons_of_mem _ h1, h2⟩
      · rcases List.mem_cons.1 hp with rfl | hp
        · exact hnew
        · rcases L.b p hp with h | h
          · exact .inl h
          · exact .inr (hsub p h)
      · rcases List.mem_cons.1 hq with rfl | hq
        · exact ⟨hm, fun j hj => or_bit.2 (.inl (hmb j hj))⟩
        · exact ⟨(L.c q hq).1, fun j hj => or_bit.2 (.inl ((L.c q hq).2 j hj))⟩
    -- what it comes to itself
    have selfv : ∀ (v : V) (tm : Tr V), cls it.o.op = .pure → wantV ops s.tm it.o = some true → pureOp P s.h s.tm it.o.op = some v → putO n s.tm it.o.dst v = some tm → chk P ops n ⟨tm, s.h⟩ ⟨it.i, it.o, .val v⟩ = true := by
      intro v tm hcl hw hv hput
      unfold chk
      rw [Bool.and_eq_true]
      refine ⟨putO_chk hput, ?_⟩
      simp only [hne, hcl]
      rw [wantV_tm (tmg tm v hput), hw, pureOp_tm (evO_tm (tmg tm v hput)), hv]
      simp [isTrue, sameV_rfl]
    have selfs : ∀ (tm : Tr V), wantV ops s.tm it.o = some false → putO n s.tm it.o.dst (.tuple []) = some tm → chk P ops n ⟨tm, s.h⟩ ⟨it.i, it.o, .skip⟩ = true := by
      intro tm hw hput
      unfold chk
      rw [Bool.and_eq_true]
      refine ⟨putO_chk hput, ?_⟩
      show isFalse (wantV ops tm it.o) = true
      rw [wantV_tm (tmg tm _ hput), hw]
      rfl
    have selfn : ∀ (ob : O) (mk : Nat → V) (tm : Tr V), cls it.o.op = .alloc → wantV ops s.tm it.o = some true → allocOp P s.h s.tm it.o.op = some (ob, mk) → memB it.o.op = false → putO n s.tm it.o.dst (mk s.h.nxt) = some tm → sameO ob ob = true → chk P ops n ⟨tm, s.h.new ob⟩ ⟨it.i, it.o, .new s.h.nxt ob (mk s.h.nxt)⟩ = true := by
      intro ob mk tm hcl hw hv hmm hput hso
      unfold chk
      rw [Bool.and_eq_true]
      refine ⟨putO_chk hput, ?_⟩
      simp only [hne, hcl]
      rw [wantV_tm (tmg tm _ hput), hw, allocOp_tm (evO_tm (tmg tm _ hput)), allocOp_mem (h := s.h) hmm, hv, H.get_new, if_pos rfl]
      simp [isTrue, sameV_rfl, hso]
    have skip : ∀ (tm : Tr V), wantV ops s.tm it.o = some false → putO n s.tm it.o.dst (.tuple []) = some tm → freeS P ops n s it = some (⟨tm, s.h⟩, .skip) → stepFN P call ops n l pd ⟨tm, s.h⟩ = some rs → wpAnyIn F m P .any ops Q fc listed a w := by
      intro tm hw hput hfr hst
      refine fin _ _ pd hfr (fun p hp => ?_) (fun p hp => hp) (.inl rfl) hst
      rcases List.mem_cons.1 hp with rfl | hp
      · exact selfs tm hw hput
      · exact old tm _ s.h p hput hp (fun _ _ => rfl) (fun _ _ _ _ => ⟨rfl, rfl⟩)
    unfold clsSI at q
    split at q
    · rename_i hcl
      unfold stepFN at q
      cases hfr : freeS P ops n s it with
      | none => rw [hfr] at q; cases q
      | some r =>
        obtain ⟨s1, k⟩ := r
        rw [hfr] at q
        rcases freeS_inv hfr with ⟨hw, rfl, tm, hput, rfl⟩ | ⟨_, hc2, _⟩ | ⟨hw, hc2, ob, mk, tm, hal, rfl, hput, rfl⟩
        · exact skip tm hw hput hfr q
        · rw [hcl] at hc2; cases hc2
        · simp only at q
          cases hch : ((⟨it.i, it.o, .new s.h.nxt ob (mk s.h.nxt)⟩ : PI) :: pd).all fun p => !(memB p.o.op) || chk P ops n ⟨tm, s.h.new ob⟩ p with
          | false => rw [hch] at q; cases q
          | true =>
            rw [hch] at q
            simp only [cond_true] at q
            have hch := List.all_eq_true.1 hch
            have dyn : ∀ p ∈ (⟨it.i, it.o, .new s.h.nxt ob (mk s.h.nxt)⟩ : PI) :: pd, memB p.o.op = true → chk P ops n ⟨tm, s.h.new ob⟩ p = true := fun p hp hmm => by
              have := hch p hp
              rw [hmm] at this
              simpa using this
            refine fin _ _ (⟨it.i, it.o, .new s.h.nxt ob (mk s.h.nxt)⟩ :: pd) hfr (fun p hp => ?_) (fun p hp => List.mem_cons_of_mem _ hp) (.inr List.mem_cons_self) q
            rcases List.mem_cons.1 hp with rfl | hp
            · cases hmm : memB it.o.op with
              | true => exact dyn _ List.mem_cons_self hmm
              | false => exact selfn ob mk tm hcl hw hal hmm hput (allocOp_same hal hmm)
            · cases hmm : memB p.o.op with
              | true =>
                rcases L.b p hp with hst | hin
                · cases hk : p.k with
                  | val v => unfold stableK at hst; rw [hk, hmm] at hst; cases hst
                  | new b ob v => unfold stableK at hst; rw [hk] at hst; cases hst
                  | skip => exact old tm _ _ p hput hp (fun v hk' => by rw [hk] at hk'; cases hk') (fun b ob v hk' => by rw [hk] at hk'; cases hk')
                · exact dyn p (List.mem_cons_of_mem _ hin) hmm
              | false =>
                refine old tm _ _ p hput hp (fun v hk => pureOp_mem hmm) (fun b ob' v hk => ⟨allocOp_mem hmm, ?_⟩)
                rw [H.get_new, if_neg]
                have := I.nlt p hp b ob' v hk
                omega
    · rename_i hcl
      unfold stepFN at q
      cases hfr : freeS P ops n s it with
      | none => rw [hfr] at q; cases q
      | some r =>
        obtain ⟨s1, k⟩ := r
        rw [hfr] at q
        rcases freeS_inv hfr with ⟨hw, rfl, tm, hput, rfl⟩ | ⟨hw, hc2, v, tm, hv, rfl, hput, rfl⟩ | ⟨_, hc2, _⟩
        · exact skip tm hw hput hfr q
        · refine fin _ _ _ hfr (fun p hp => ?_) (fun p hp => ?_) ?_ q
          · rcases List.mem_cons.1 hp with rfl | hp
            · exact selfv v tm hc2 hw hv hput
            · exact old tm _ s.h p hput hp (fun _ _ => rfl) (fun _ _ _ _ => ⟨rfl, rfl⟩)
          · cases memB it.o.op with
            | true => exact List.mem_cons_of_mem _ hp
            | false => exact hp
          · cases hmm : memB it.o.op with
            | true => exact .inr List.mem_cons_self
            | false => exact .inl (by unfold stableK; simp only [hmm]; rfl)
        · rw [hc2] at hcl; exact absurd rfl hcl
  | @eff done fr it l hm hr huniq hclean hsch ih =>
    intro L rs q hQ I hc
    obtain ⟨hnd, hmr⟩ := rdy_m hr
    have hmb := mready_bit hmr
    unfold stepFN at q
    obtain ⟨ls, hls, hall0⟩ := bindL_some q
    have hchkOf : ∀ s1 ∈ ls, ((pd.filter fun p => !(it.m.testBit p.i)).all (chk P ops n s1)) = true ∧ ∃ rs1, stepFN P call ops n l (pd.filter fun p => !(it.m.testBit p.i)) s1 = some rs1 ∧ ∀ r ∈ rs1, r ∈ rs := fun s1 hs1 => by
      obtain ⟨x, hx, hsub⟩ := hall0 s1 hs1
      cases hch : (pd.filter fun p => !(it.m.testBit p.i)).all (chk P ops n s1) with
      | false => rw [hch] at hx; cases hx
      | true => rw [hch] at hx; exact ⟨rfl, x, hx, hsub⟩
    obtain ⟨k0, hk0, hk1⟩ := items_mem ops.toList 0 [] it hm
    have hoi : ops[it.i]? = some it.o := by rw [hk0]; simpa using hk1
    have hlt := (Array.getElem?_eq_some_iff.1 hoi).1
    refine sweep hF hssa hlow (fun listed e a w I hall => ?_) (fun fc listed e a w it' I hm' hnd' hr' h0 hpre hc => ?_) fc listed e a w I hc
    · have h1 := hall it.i hlt
      have h2 : listed.getD it.i false = true := by
        have : it.i < listed.size := by rw [I.size]; exact hlt
        simpa [this] using h1
      rw [I.sub it.i h2] at hnd
      cases hnd
    · obtain rfl := huniq it' hm' hr'
      refine exec_effN hF hcall hssa I hm hnd h0 hpre hls (fun s1 hs1 => ?_) (fun s1 hs1 e' a' w' I' => ?_)
      · have hch := List.all_eq_true.1 (hchkOf s1 hs1).1
        have htm := step1N_tm hls s1 hs1
        refine List.all_eq_true.2 fun p hp => ?_
        obtain ⟨hpg, hpb⟩ := List.mem_filter.1 hp
        rcases L.b p hpg with hst | hin
        · obtain ⟨itp, h1, h2, h3⟩ := L.a p hpg
          have hneq : itp.i ≠ it'.i := fun hh => by have := I.pdn p hpg; rw [← h2, hh, hnd] at this; cases this
          refine chk_stable (I.chk p hpg) hst (fun t ht => htm t (fun hd => ?_)) (fun d hd => htm d (fun hd' => ?_))
          · unfold cleanB at hclean
            rw [hd] at hclean
            have := List.all_eq_true.1 hclean itp (List.mem_filter.2 ⟨h1, by rw [h2]; exact hpb⟩)
            rw [h3] at this
            have hcc : (p.o.looksAt ops).contains t = true := by simpa using ht
            rw [hcc] at this
            cases this
          · exact ssa_dst hssa (L.c itp h1).1 hm hneq (by rw [h3]; exact not_eff I hpg) d hd' (by rw [h3]; exact hd)
        · exact hch p (List.mem_filter.2 ⟨hin, hpb⟩)
      · obtain ⟨_, rs1, hst1, hsub1⟩ := hchkOf s1 hs1
        refine ih (pg.filter fun p => !(it'.m.testBit p.i)) (pd.filter fun p => !(it'.m.testBit p.i)) s1 fc _ e' a' w' ⟨fun p hp => ?_, fun p hp => ?_, fun q hq => ?_⟩ rs1 hst1 (fun s' hs' => hQ s' (hsub1 s' hs')) I' ?_
        · obtain ⟨hpg, hpb⟩ := List.mem_filter.1 hp
          obtain ⟨itp, h1, h2, h3⟩ := L.a p hpg
          exact ⟨itp, List.mem_filter.2 ⟨h1, by rw [h2]; exact hpb⟩, h2, h3⟩
        · obtain ⟨hpg, hpb⟩ := List.mem_filter.1 hp
          rcases L.b p hpg with h | h
          · exact .inl h
          · exact .inr (List.mem_filter.2 ⟨h, hpb⟩)
        · obtain ⟨hq1, _⟩ := List.mem_filter.1 hq
          exact ⟨(L.c q hq1).1, fun j hj => or_bit.2 (.inl ((L.c q hq1).2 j hj))⟩
        · have := cnt_lt h0 _ (List.mem_range.2 hlt)
          omega
end
/-- A region that draws, all ways. -/
noncomputable def drawFN (P : Program) (call : CallN) (ops : Array Oper) (n : Nat) (s : St) : OutL St :=
  cond (P.follows .mixedOrders) (match schedR ops with
  | some l => stepFN P call ops n l [] s
  | none => none) none
/-- The same, as the compiler runs it. -/
def drawFNC (P : Program) (call : CallN) (ops : Array Oper) (n : Nat) (s : St) : OutL St :=
  let its := itemsGo 0 ops.toList []
  cond (P.follows .mixedOrders) (match dstT its .leaf with
  | some T => cond (lowB its && its.all (ssaL ops T)) (match schN ops (ops.size + 1) its 0 [] with
    | some l => stepFN P call ops n l [] s
    | none => none) none
  | none => none) none
@[csimp] theorem drawFN_c : @drawFN = @drawFNC := by
  funext P call ops n s
  unfold drawFN drawFNC schedR
  have he : itemsR ops.toList 0 [] = itemsGo 0 ops.toList [] := itemsR_eq ops.toList []
  rw [he]
  dsimp only
  congr 1
  cases hT : dstT (itemsGo 0 ops.toList []) .leaf with
  | none => rfl
  | some T =>
    dsimp only
    rw [allR_eq, show ssaLR ops T = ssaL ops T from funext fun q => ssaLR_eq ops T q]
    cases lowB (itemsGo 0 ops.toList []) <;> cases (itemsGo 0 ops.toList []).all (ssaL ops T) <;> rfl
theorem drawFN_ok {P : Program} {call : CallN} (hcall : CallNOk P call) {F : Fence} (hF : Open F) {w0 : World} {e : E} {n : Nat} {s : St} {rs : List St} {a : Act} {w : World} {m id : Nat} {ops : Array Oper} {Q : Exit → Act → World → Prop} (S : SRel w0 e n s a w)
    (q : drawFN P call ops n s = some rs) (hQ : ∀ s' ∈ rs, ∀ e' a' w', e.le e' → SRel w0 e' n s' a' w' → a'.defers = a.defers → Q .normal a' w') : (Code.region id ops true).wpIn F m P Q a w := by
  unfold drawFN at q
  cases hm : P.follows .mixedOrders with
  | false => rw [hm] at q; cases q
  | true =>
  rw [hm] at q
  dsimp only [cond_true] at q
  split at q
  · rename_i l hl
    obtain ⟨hssa, hlow, hsch⟩ := sched_ok hl
    refine wpIn_region_any hm (drawFMN hF hcall hssa hlow (e0 := e) (dfs := a.defers) l 0 [] [] [] s ops.size _ e a _ hsch ⟨fun p hp => (by cases hp), fun p hp => (by cases hp), fun p hp => (by cases hp)⟩ rs q hQ ?_ ?_)
    · refine ⟨by simp, fun i h => ?_, fun i h1 h2 h3 => ?_, fun p hp => (by cases hp), fun p hp => (by cases hp), fun p hp => (by cases hp), fun i o ho h => ?_, S.t.1, fun t v ht _ => S.t.2 t v ht, S.r.drew, fun p hp => (by cases hp), fun p hp => (by cases hp), fun p hp => (by cases hp), E.le.refl e, rfl⟩
      · by_cases hi : i < ops.size <;> simp [hi] at h
      · simp at h2
      · by_cases hi : i < ops.size <;> simp [hi] at h
    · have := cnt_len (Array.replicate ops.size false) (List.range ops.size)
      simpa using this
  · cases q
end Go.Proofs.YtjngkcnanhnopaaGreatDoor.Ev

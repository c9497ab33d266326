import Derived.Test.YtlikabehjiocjaaGreatDoorJa
/-! The evaluator that goes all ways: operations, rows, code, calls. -/
namespace Go.Proofs.YtlikabehjiocjaaGreatDoor.Ev
open Go Go.RowKit
set_option linter.unusedVariables false
set_option linter.unusedSimpArgs false

abbrev CallN := Task → H → OutL (V × H)
def oneOf (call : CallN) : CallT := fun t h => match call t h with
  | some [r] => some r
  | _ => none
structure CallNOk (P : Program) (call : CallN) : Prop where
  fn : ∀ {w0 e h w g args rs}, call (.fn g args) h = some rs → Rel w0 e h w → ∀ xs, vrels e args xs → (∃ fn, P.funcs[g]? = some fn ∧ fn.body.isNone = false ∧ (fn.name == "runtime.NumGoroutine") = false) ∧ ∀ n, CallsIn Fence.wide n P g ⟨xs⟩ w (fun en w' => ∃ r ∈ rs, CallPost w0 e r.1 r.2 en w')
  run : ∀ {w0 e h w g args rs}, call (.call g args) h = some rs → Rel w0 e h w → ∀ xs, vrels e args xs → ((∃ fn, P.funcs[g]? = some fn ∧ fn.body.isNone = false ∧ (fn.name == "runtime.NumGoroutine") = false) ∧ ∀ n, CallsIn Fence.wide n P g ⟨xs⟩ w (fun en w' => ∃ r ∈ rs, CallPost w0 e r.1 r.2 en w')) ∨
    ∃ r ∈ rs, ∃ e' x w', (callFunc g ⟨xs⟩).run P w = .ok (.value x) w' ∧ e.le e' ∧ vrel e' r.1 x ∧ Rel w0 e' r.2 w'
  round : ∀ {w0 e h w l args rs k}, call (.round l args) h = some rs → Rel w0 e h w → e.ρ l = some k → ∀ xs, vrels e args xs →
    ∃ fn tmps assign body, (Instr.yield k ⟨xs⟩).run P w = .ok (.round k fn tmps assign body) w ∧ ∀ n, RoundIn Fence.wide n P k fn tmps assign body w (fun en w' => ∃ r ∈ rs, CallPost w0 e r.1 r.2 en w')
theorem oneOf_some {call : CallN} {t : Task} {h : H} {r : V × H} (q : oneOf call t h = some r) : call t h = some [r] := by
  unfold oneOf at q
  split at q
  · rename_i r' hr; cases q; exact hr
  · cases q
theorem oneOf_ok {P : Program} {call : CallN} (hc : CallNOk P call) : CallOk P (oneOf call) where
  fn := by
    intro w0 e h w g args v h' q R xs hv
    obtain ⟨h1, h2⟩ := hc.fn (oneOf_some q) R xs hv
    refine ⟨h1, fun n => (h2 n).mono ?_⟩
    rintro en w' ⟨r, hr, hp⟩
    obtain rfl := List.mem_singleton.1 hr
    exact hp
  run := by
    intro w0 e h w g args v h' q R xs hv
    rcases hc.run (oneOf_some q) R xs hv with ⟨h1, h2⟩ | ⟨r, hr, e', x, w', h1, h0, h2, h3⟩
    · refine .inl ⟨h1, fun n => (h2 n).mono ?_⟩
      rintro en w' ⟨r, hr, hp⟩
      obtain rfl := List.mem_singleton.1 hr
      exact hp
    · obtain rfl := List.mem_singleton.1 hr
      exact .inr ⟨e', x, w', h1, h0, h2, h3⟩
  round := by
    intro w0 e h w l args v h' k q R hk xs hv
    obtain ⟨fn, tmps, as, body, h1, h2⟩ := hc.round (oneOf_some q) R hk xs hv
    refine ⟨fn, tmps, as, body, h1, fun n => (h2 n).mono ?_⟩
    rintro en w' ⟨r, hr, hp⟩
    obtain rfl := List.mem_singleton.1 hr
    exact hp
def callVN (call : CallN) (h : H) (f : V) (args : List V) : OutL (V × H) :=
  match f with
  | .func (.func g) first cap => call (.call g (first ++ args ++ cap)) h
  | .yield l => call (.round l args) h
  | _ => none
/-- Does an operation go several ways? -/
def manyB : Op → Bool
  | .next _ _ => true
  | .call c => (match c.callee with
    | .value _ => true
    | _ => false)
  | _ => false
def evOpN (P : Program) (call : CallN) (h : H) (tm : Tr V) (op : Op) : OutL (V × H) :=
  match op with
  | .next it false => (match evO tm it with
    | some v => nextN h v
    | none => none)
  | .call c => (match c.callee with
    | .value f => (match evL tm c.args.toList, evO tm f with
      | some args, some fv => callVN call h fv args
      | _, _ => none)
    | _ => oneL (evOp P (oneOf call) h tm (.call c)))
  | op => oneL (evOp P (oneOf call) h tm op)
def step1N (P : Program) (call : CallN) (ops : Array Oper) (n : Nat) (o : Oper) (s : St) : OutL St :=
  match wantV ops s.tm o with
  | some true => bindL (evOpN P call s.h s.tm o.op) (fun r => oneL (match putO n s.tm o.dst r.1 with
    | some tm => some ⟨tm, r.2⟩
    | none => none))
  | some false => (match putO n s.tm o.dst (.tuple []) with
    | some tm => some [⟨tm, s.h⟩]
    | none => none)
  | none => none
def evListN (P : Program) (call : CallN) (ops : Array Oper) (n : Nat) : List Oper → St → OutL St
  | [], s => some [s]
  | o :: l, s => bindL (step1N P call ops n o s) (evListN P call ops n l)
section
variable {P : Program} {w0 w : World} {e : E} {h : H} {tm : Tr V} {a : Act} {s : St}
theorem wp_evOpN {F : Fence} (hF : Open F) {n : Nat} {call : CallN} (hc : CallNOk P call) (R : Rel w0 e h w) {o : Oper} {rs : List (V × H)} {K : Act → World → Prop} {Q : Exit → Act → World → Prop} (hop : ∀ x ∈ o.op.operands.toList, ∀ v, evO tm x = some v → vrel e v (a.eval x))
    (q : evOpN P call h tm o.op = some rs) (hK : ∀ r ∈ rs, ∀ e' x w', e.le e' → vrel e' r.1 x → Rel w0 e' r.2 w' → K (a.put o.dst x) w') : o.wpIn F n P a w K Q := by
  have plainOne : oneL (evOp P (oneOf call) h tm o.op) = some rs → o.wpIn F n P a w K Q := by
    intro q
    obtain ⟨r, h1, rfl⟩ := oneL_some q
    exact wp_evOp hF (oneOf_ok hc) R hop h1 (hK r List.mem_cons_self)
  obtain ⟨dst, op, ty, pos, aft, gd⟩ := o
  cases op
  case next it isS =>
    cases isS with
    | true => exact plainOne q
    | false =>
      unfold evOpN at q
      dsimp only at q
      split at q
      · rename_i v hv
        obtain ⟨r, hr, w', z, h1, h2, h3⟩ := run_nextN (P := P) R ty (hop it (by simp [Op.operands]) _ hv) q
        refine ⟨fun f _ => hF.fn f, ?_⟩
        rw [Oper.semAt_eq _ _ _ (by intro c hd; cases hd)]
        have : (execOp a.eval ({ dst := dst, op := .next it false, type := ty, pos := pos, after := aft, guard := gd } : Oper)).run P w = .ok (.value z) w' := by simp [execOp, h1]
        rw [this]
        exact hK r hr e z w' (E.le.refl e) h2 h3
      · cases q
  case call c =>
    unfold evOpN at q
    dsimp only at q
    split at q
    · rename_i f hcl
      split at q
      · rename_i args fv hl hf
        have hopf := hop f (by simp [Op.operands, Call.operands, hcl])
        have r1 := evL_rel (e := e) (a := a) (l := c.args.toList) (fun y hy => hop y (by simp [Op.operands, Call.operands, hcl]; exact .inr (by simpa using hy))) hl
        have hfv := hopf _ hf
        have hdef : ∀ d, (Op.call c) ≠ .defer d := by intro d hd; cases hd
        refine ⟨fun f _ => hF.fn f, ?_⟩
        unfold callVN at q
        split at q
        · rename_i g first cap
          simp only [vrel] at hfv
          obtain ⟨fs, cs, hfe, hfs, hcs⟩ := hfv
          have hex : (execOp a.eval ({ dst := dst, op := .call c, type := ty, pos := pos, after := aft, guard := gd } : Oper)).run P w = (callFunc g ⟨fs ++ c.args.toList.map a.eval ++ cs⟩).run P w := by
            simp [execOp, resolve, hcl, hfe, Deferred.ofValue, invoke]
            congr 2
            apply Array.ext'
            simp
          rcases hc.run q R (fs ++ c.args.toList.map a.eval ++ cs) (vrels_append (vrels_append hfs r1) hcs) with ⟨⟨fn, g1, g2, g3⟩, g4⟩ | ⟨r, hr, e', x, w', g1, g0, g2, g3⟩
          · have hrun : (execOp a.eval ({ dst := dst, op := .call c, type := ty, pos := pos, after := aft, guard := gd } : Oper)).run P w = .ok (.enter g ⟨fs ++ c.args.toList.map a.eval ++ cs⟩) w := by
              have g3' : ¬ fn.name = "runtime.NumGoroutine" := by simpa using g3
              have g2' : ¬ fn.body = none := fun hh => by rw [hh] at g2; cases g2
              rw [hex]
              simp [callFunc, g1, g2', g3']
            rw [Oper.semAt_eq _ _ _ hdef, hrun, Oper.uponIn_enter]
            refine ⟨fun hd => ?_, hF.calls ((g4 (n - 1)).mono ?_)⟩
            · rw [hF.depth] at hd; cases hd
            · rintro en w' ⟨r, hr, e', x, rfl, p2, p3, p4⟩
              exact hK r hr e' x w' p2 p3 p4
          · rw [Oper.semAt_eq _ _ _ hdef, hex, g1]
            exact hK r hr e' x w' g0 g2 g3
        · rename_i l
          simp only [vrel] at hfv
          obtain ⟨k, hk, hfe⟩ := hfv
          obtain ⟨fn, tmps, as, body, g1, g2⟩ := hc.round q R hk _ r1
          have hrun : (execOp a.eval ({ dst := dst, op := .call c, type := ty, pos := pos, after := aft, guard := gd } : Oper)).run P w = .ok (.round k fn tmps as body) w := by
            have hargs : c.args.map a.eval = ⟨c.args.toList.map a.eval⟩ := by
              apply Array.ext'
              simp
            rw [← hargs] at g1
            simp [execOp, resolve, hcl, hfe, Deferred.ofValue, invoke, g1]
          rw [Oper.semAt_eq _ _ _ hdef, hrun, Oper.uponIn_round]
          refine ⟨fun hd => ?_, hF.rounds ((g2 (n - 1)).mono ?_)⟩
          · rw [hF.depth] at hd; cases hd
          · rintro en w' ⟨r, hr, e', x, rfl, p2, p3, p4⟩
            exact hK r hr e' x w' p2 p3 p4
        · cases q
      · cases q
    · exact plainOne q
  all_goals exact plainOne q
theorem wp_step1N {F : Fence} (hF : Open F) {m n : Nat} {call : CallN} (hc : CallNOk P call) {ops : Array Oper} {o : Oper} {rs : List St} {K : Act → World → Prop} {Q : Exit → Act → World → Prop} (S : SRel w0 e n s a w) (q : step1N P call ops n o s = some rs)
    (hK : ∀ s' ∈ rs, ∀ e' a' w', e.le e' → SRel w0 e' n s' a' w' → a'.defers = a.defers → K a' w') :
    if Region.wanted o (yielded ops a.tmps) then o.wpIn F m P a w K Q else (∀ f, o.about P w a.eval = some f → F.fn f) ∧ K (a.put o.dst undef) w := by
  unfold step1N at q
  split at q
  · rename_i hw
    rw [wantV_ok (fun t v hv _ => S.t.2 t v hv) hw]
    rw [if_pos rfl]
    obtain ⟨l, hl, hall⟩ := bindL_some q
    refine wp_evOpN hF hc S.r (fun x _ v hv => evO_rel S.t hv) hl (fun r hr e' x w' h1 h2 h3 => ?_)
    obtain ⟨y, hy, hsub⟩ := hall r hr
    obtain ⟨s', hs', rfl⟩ := oneL_some hy
    split at hs'
    · rename_i tm hp
      cases hs'
      exact hK _ (hsub _ List.mem_cons_self) e' _ w' h1 ⟨putO_ok S.t h1 h2 hp, h3⟩ (put_defers _ _ _)
    · cases hs'
  · rename_i hw
    rw [wantV_ok (fun t v hv _ => S.t.2 t v hv) hw]
    rw [if_neg (by simp)]
    split at q
    · rename_i tm hp
      cases q
      exact ⟨fun f _ => hF.fn f, hK _ List.mem_cons_self e _ w (E.le.refl e) ⟨putO_ok S.t (E.le.refl e) (by simp only [vrel]; exact ⟨[], rfl, vrels_nil.2 rfl⟩) hp, S.r⟩ (put_defers _ _ _)⟩
    · cases q
  · cases q
theorem wp_evListN {F : Fence} (hF : Open F) {m n : Nat} {call : CallN} (hc : CallNOk P call) {ops : Array Oper} {Q : Exit → Act → World → Prop} : ∀ (l : List Oper) (k : Nat) (e : E) (s : St) (rs : List St) (a : Act) (w : World), (∀ j, l[j]? = ops[k + j]?) → SRel w0 e n s a w → evListN P call ops n l s = some rs →
    (∀ s' ∈ rs, ∀ e' a' w', e.le e' → SRel w0 e' n s' a' w' → a'.defers = a.defers → Q .normal a' w') → wpOpsIn F m P ops Q (List.range' k l.length) a w
  | [], k, e, s, rs, a, w, _, S, q, hQ => by
    cases q
    exact hQ _ List.mem_cons_self e a w (E.le.refl e) S rfl
  | o :: l, k, e, s, rs, a, w, hl, S, q, hQ => by
    unfold evListN at q
    obtain ⟨l1, h1, hall⟩ := bindL_some q
    rw [List.length_cons, List.range'_succ, wpOpsIn_cons]
    have ho : ops[k]? = some o := by have := hl 0; simpa using this.symm
    unfold wpOpIn
    simp only [ho]
    refine wp_step1N hF hc S h1 (fun s1 hs1 e1 a1 w1 h2 h3 h4 => ?_)
    obtain ⟨y, hy, hsub⟩ := hall s1 hs1
    exact wp_evListN hF hc l (k + 1) e1 s1 y a1 w1 (fun j => by have := hl (j + 1); simpa [Nat.add_assoc, Nat.add_comm 1 j] using this) h3 hy (fun s2 hs2 e2 a2 w2 h5 h6 h7 => hQ s2 (hsub s2 hs2) e2 a2 w2 (h2.trans h5) h6 (h7.trans h4))
theorem wp_regionNN {F : Fence} (hF : Open F) {m n : Nat} {call : CallN} (hc : CallNOk P call) {id : Nat} {ops : Array Oper} {rs : List St} {Q : Exit → Act → World → Prop} (S : SRel w0 e n s a w) (q : evListN P call ops n ops.toList s = some rs)
    (hQ : ∀ s' ∈ rs, ∀ e' a' w', e.le e' → SRel w0 e' n s' a' w' → a'.defers = a.defers → Q .normal a' w') : (Code.region id ops false).wpIn F m P Q a w := by
  refine wpIn_region ?_
  have := wp_evListN (m := m) hF hc ops.toList 0 e s rs a w (fun j => by simp) S q hQ
  rw [List.range_eq_range']
  simpa using this
end
abbrev ResN := OutL (Ex × St × List Nat)
def loopNN (step : St → List Nat → ResN) : Nat → St → List Nat → ResN
  | 0, _, _ => none
  | k + 1, s, mk => bindL (step s mk) (fun r => match r with
    | (.normal, s', mk') => loopNN step k s' mk'
    | (.exit id, s', mk') => some [(.exit id, s', mk')]
    | (.goto l, s', mk') => some [(.goto l, s', mk')]
    | (.ret, s', mk') => some [(.ret, s', mk')])
def evCN (P : Program) (call : CallN) (draw : DrawT) (n : Nat) (ro : Option Nat) : Code → St → List Nat → ResN
  | .skip, s, mk => some [(.normal, s, mk)]
  | .label _, s, mk => some [(.normal, s, mk)]
  | .region _ ops false, s, mk => bindL (evListN P call ops n ops.toList s) (fun s' => some [(.normal, s', mk)])
  | .region _ ops true, s, mk => bindL (oneL (draw ops n s)) (fun s' => some [(.normal, s', mk)])
  | .seq x y, s, mk => bindL (evCN P call draw n ro x s mk) (fun r => match r with
    | (.normal, s', mk') => evCN P call draw n ro y s' mk'
    | (.exit id, s', mk') => some [(.exit id, s', mk')]
    | (.goto l, s', mk') => some [(.goto l, s', mk')]
    | (.ret, s', mk') => some [(.ret, s', mk')])
  | .cond c x y, s, mk => (match evO s.tm c with
    | some (.bool true) => evCN P call draw n ro x s mk
    | some (.bool false) => evCN P call draw n ro y s mk
    | _ => none)
  | .block id b, s, mk => bindL (evCN P call draw n ro b s mk) (fun r => match r with
    | (.exit id', s', mk') => cond (Nat.beq id' id) (some [(.normal, s', mk')]) (some [(.exit id', s', mk')])
    | (.normal, s', mk') => some [(.normal, s', mk')]
    | (.goto l, s', mk') => some [(.goto l, s', mk')]
    | (.ret, s', mk') => some [(.ret, s', mk')])
  | .loop b, s, mk => loopNN (evCN P call draw n ro b) 100000 s mk
  | .exit id, s, mk => some [(.exit id, s, mk)]
  | .goto l, s, mk => some [(.goto l, s, mk)]
  | .ret, s, mk => some [(.ret, s, mk)]
  | .rangeFunc g ps assign body, s, mk => (match evO s.tm g, enterV n ro ps assign body s mk with
    | some (.func (.func f) first cap), some (l, h1, mk') => bindL (call (.fn f (first ++ [.yield l] ++ cap)) h1) (fun r => oneL (match leaveV r.2 l with
        | some (ex, h3) => some (ex, ⟨s.tm, h3⟩, mk')
        | none => none))
    | _, _ => none)
  | .scope b, s, mk => bindL (evCN P call draw n ro b s mk) (fun r => match r with
    | (.normal, s', mk') => some [(.normal, s', mk')]
    | (.exit id, s', mk') => some [(.exit id, s', mk')]
    | (.ret, s', mk') => some [(.ret, s', mk')]
    | (.goto _, _, _) => none)
  | .refuse _, _, _ => none
def CNOk (P : Program) (call : CallN) (draw : DrawT) (c : Code) : Prop := ∀ w0 e n ro F m s mk a w rs Q, FRel e ro F → SRel w0 e n s a w → drel e mk a.defers → evCN P call draw n ro c s mk = some rs →
  (∀ r ∈ rs, ∀ e' a' w', e.le e' → SRel w0 e' n r.2.1 a' w' → drel e' r.2.2 a'.defers → Q r.1.to a' w') → c.wpIn F m P Q a w
section
variable {P : Program} {F : Fence} {m : Nat}
theorem loopNN_ok {call : CallN} {draw : DrawT} {c : Code} (hC : CNOk P call draw c) {n : Nat} {ro : Option Nat} {w0 : World} {Q : Exit → Act → World → Prop} : ∀ (j : Nat) (e : E) (s : St) (mk : List Nat) (a : Act) (w : World) (rs : List (Ex × St × List Nat)), FRel e ro F → SRel w0 e n s a w → drel e mk a.defers →
    loopNN (evCN P call draw n ro c) j s mk = some rs → (∀ r ∈ rs, ∀ e' a' w', e.le e' → SRel w0 e' n r.2.1 a' w' → drel e' r.2.2 a'.defers → Q r.1.to a' w') → LoopAt F m P c Q a w
  | 0, _, _, _, _, _, _, _, _, _, q, _ => by cases q
  | j + 1, e, s, mk, a, w, rs, hF, S, D, q, hQ => by
    refine loop_step ?_
    unfold loopNN at q
    obtain ⟨l, hl, hall⟩ := bindL_some q
    refine hC _ _ _ _ _ _ _ _ _ _ _ _ hF S D hl (fun r hr e1 a1 w1 h1 h2 h3 => ?_)
    obtain ⟨x, hx, hsub⟩ := hall r hr
    obtain ⟨ex1, s1, mk1⟩ := r
    cases ex1 with
    | normal => exact loopNN_ok hC j e1 s1 mk1 a1 w1 x (hF.mono h1) h2 h3 hx (fun r2 hr2 e2 a2 w2 h4 h5 h6 => hQ r2 (hsub r2 hr2) e2 a2 w2 (h1.trans h4) h5 h6)
    | exit id => cases hx; exact hQ _ (hsub _ List.mem_cons_self) e1 a1 w1 h1 h2 h3
    | goto l => cases hx; exact hQ _ (hsub _ List.mem_cons_self) e1 a1 w1 h1 h2 h3
    | ret => cases hx; exact hQ _ (hsub _ List.mem_cons_self) e1 a1 w1 h1 h2 h3
theorem evCN_ok {call : CallN} {draw : DrawT} (hc : CallNOk P call) (hd : DrawOk P (oneOf call) draw) : ∀ (c : Code), CNOk P call draw c
  | .skip => fun w0 e n ro F m s mk a w rs Q hF S D q hQ => by cases q; exact wpIn_skip (hQ _ List.mem_cons_self _ _ _ (E.le.refl _) S D)
  | .label _ => fun w0 e n ro F m s mk a w rs Q hF S D q hQ => by cases q; exact wpIn_label (hQ _ List.mem_cons_self _ _ _ (E.le.refl _) S D)
  | .exit _ => fun w0 e n ro F m s mk a w rs Q hF S D q hQ => by cases q; exact wpIn_exit (hQ _ List.mem_cons_self _ _ _ (E.le.refl _) S D)
  | .goto _ => fun w0 e n ro F m s mk a w rs Q hF S D q hQ => by cases q; exact wpIn_goto (hQ _ List.mem_cons_self _ _ _ (E.le.refl _) S D)
  | .ret => fun w0 e n ro F m s mk a w rs Q hF S D q hQ => by cases q; exact wpIn_ret (hQ _ List.mem_cons_self _ _ _ (E.le.refl _) S D)
  | .scope b => fun w0 e n ro F m s mk a w rs Q hF S D q hQ => by
    simp only [evCN] at q
    refine scope_of ?_
    obtain ⟨l, hl, hall⟩ := bindL_some q
    refine evCN_ok hc hd b _ _ _ _ _ _ _ _ _ _ _ _ hF S D hl (fun r hr e1 a1 w1 h2 h3 h4 => ?_)
    obtain ⟨x, hx, hsub⟩ := hall r hr
    obtain ⟨ex1, s1, mk1⟩ := r
    cases ex1 with
    | normal => cases hx; exact hQ _ (hsub _ List.mem_cons_self) e1 a1 w1 h2 h3 h4
    | exit id => cases hx; exact hQ _ (hsub _ List.mem_cons_self) e1 a1 w1 h2 h3 h4
    | goto l => cases hx
    | ret => cases hx; exact hQ _ (hsub _ List.mem_cons_self) e1 a1 w1 h2 h3 h4
  | .refuse _ => fun w0 e n ro F m s mk a w rs Q hF S D q hQ => by cases q
  | .region id ops false => fun w0 e n ro F m s mk a w rs Q hF S D q hQ => by
    simp only [evCN] at q
    obtain ⟨l, hl, hall⟩ := bindL_some q
    refine wp_regionNN hF.open hc S hl (fun s' hs' e' a' w' h1 h2 h3 => ?_)
    obtain ⟨x, hx, hsub⟩ := hall s' hs'
    cases hx
    exact hQ _ (hsub _ List.mem_cons_self) e' a' w' h1 h2 (by rw [h3]; exact drel_mono h1 D)
  | .region id ops true => fun w0 e n ro F m s mk a w rs Q hF S D q hQ => by
    simp only [evCN] at q
    obtain ⟨l, hl, hall⟩ := bindL_some q
    obtain ⟨s', hs', rfl⟩ := oneL_some hl
    obtain ⟨x, hx, hsub⟩ := hall s' List.mem_cons_self
    cases hx
    exact hd.ok hF.open S hs' (fun e' a' w' h1 h2 h3 => hQ _ (hsub _ List.mem_cons_self) e' a' w' h1 h2 (by rw [h3]; exact drel_mono h1 D))
  | .seq x y => fun w0 e n ro F m s mk a w rs Q hF S D q hQ => by
    simp only [evCN] at q
    refine wpIn_seq ?_
    obtain ⟨l, hl, hall⟩ := bindL_some q
    refine evCN_ok hc hd x _ _ _ _ _ _ _ _ _ _ _ _ hF S D hl (fun r hr e1 a1 w1 h2 h3 h4 => ?_)
    obtain ⟨z, hz, hsub⟩ := hall r hr
    obtain ⟨ex1, s1, mk1⟩ := r
    cases ex1 with
    | normal => exact evCN_ok hc hd y _ _ _ _ _ _ _ _ _ _ _ _ (hF.mono h2) h3 h4 hz (fun r2 hr2 e2 a2 w2 h5 h6 h7 => hQ r2 (hsub r2 hr2) e2 a2 w2 (h2.trans h5) h6 h7)
    | exit id => cases hz; exact hQ _ (hsub _ List.mem_cons_self) e1 a1 w1 h2 h3 h4
    | goto l => cases hz; exact hQ _ (hsub _ List.mem_cons_self) e1 a1 w1 h2 h3 h4
    | ret => cases hz; exact hQ _ (hsub _ List.mem_cons_self) e1 a1 w1 h2 h3 h4
  | .cond c x y => fun w0 e n ro F m s mk a w rs Q hF S D q hQ => by
    simp only [evCN] at q
    split at q
    · rename_i h1
      have := evO_rel S.t h1
      simp only [vrel] at this
      exact wpIn_cond_true this (evCN_ok hc hd x _ _ _ _ _ _ _ _ _ _ _ _ hF S D q hQ)
    · rename_i h1
      have := evO_rel S.t h1
      simp only [vrel] at this
      exact wpIn_cond_false this (evCN_ok hc hd y _ _ _ _ _ _ _ _ _ _ _ _ hF S D q hQ)
    · cases q
  | .block id b => fun w0 e n ro F m s mk a w rs Q hF S D q hQ => by
    simp only [evCN] at q
    refine wpIn_block ?_
    obtain ⟨l, hl, hall⟩ := bindL_some q
    refine evCN_ok hc hd b _ _ _ _ _ _ _ _ _ _ _ _ hF S D hl (fun r hr e1 a1 w1 h2 h3 h4 => ?_)
    obtain ⟨z, hz, hsub⟩ := hall r hr
    obtain ⟨ex1, s1, mk1⟩ := r
    cases ex1 with
    | normal => cases hz; exact hQ _ (hsub _ List.mem_cons_self) e1 a1 w1 h2 h3 h4
    | exit id' =>
      cases hb : Nat.beq id' id with
      | true =>
        simp only [hb, cond_true] at hz
        cases hz
        have := Nat.eq_of_beq_eq_true hb
        subst this
        show Exit.inBlock id' Q (.exit id') a1 w1
        simp only [Exit.inBlock, if_true]
        exact hQ _ (hsub _ List.mem_cons_self) e1 a1 w1 h2 h3 h4
      | false =>
        simp only [hb, cond_false] at hz
        cases hz
        have hne : ¬ id' = id := fun e2 => by subst e2; simp at hb
        show Exit.inBlock id Q (.exit id') a1 w1
        simp only [Exit.inBlock, hne, if_false]
        exact hQ _ (hsub _ List.mem_cons_self) e1 a1 w1 h2 h3 h4
    | goto l => cases hz; exact hQ _ (hsub _ List.mem_cons_self) e1 a1 w1 h2 h3 h4
    | ret => cases hz; exact hQ _ (hsub _ List.mem_cons_self) e1 a1 w1 h2 h3 h4
  | .loop b => fun w0 e n ro F m s mk a w rs Q hF S D q hQ => by
    simp only [evCN] at q
    exact loop_of (loopNN_ok (evCN_ok hc hd b) _ e s mk a w rs hF S D q hQ)
  | .rangeFunc g ps assign body => fun w0 e n ro F m s mk a w rs Q hF S D q hQ => by
    simp only [evCN] at q
    split at q
    · rename_i f first cap l h1 mk1 hg hent
      obtain ⟨ll, hl, hall⟩ := bindL_some q
      refine wpIn_rangeFunc (fun fn _ => ?_)
      obtain ⟨e1, k, mark, w1, r1, r2, r3, r4, r5⟩ := enter_ok (P := P) fn hF S D hent
      have hgv := evO_rel S.t hg
      simp only [vrel] at hgv
      obtain ⟨fs, cs, hge, hfs, hcs⟩ := hgv
      have hargs : vrels e1 (first ++ [.yield l] ++ cap) (fs ++ [.func (.yield k) #[] #[]] ++ cs) :=
        vrels_append (vrels_append (vrels_mono r2 _ _ hfs) (vrels_one (by simp only [vrel]; exact ⟨k, r3, rfl⟩))) (vrels_mono r2 _ _ hcs)
      obtain ⟨⟨fnc, g1, g2, g3⟩, g4⟩ := hc.fn hl r4 _ hargs
      have g3' : ¬ fnc.name = "runtime.NumGoroutine" := by simpa using g3
      have g2' : ¬ fnc.body = none := fun hh => by rw [hh] at g2; cases g2
      refine ⟨k, mark, w1, { target := .fn (.func f) ⟨cs⟩, args := ⟨fs⟩ ++ #[.func (.yield k) #[] #[]] }, w1, f, ⟨fs ++ [.func (.yield k) #[] #[]] ++ cs⟩, w1, r1, ?_, fun f' _ => hF.open.fn f', ?_, ?_, ?_⟩
      · have hev : ∀ v, a.eval (.const v) = v := fun _ => rfl
        simp [resolve, hge, Deferred.ofValue, hev]
      · have : (⟨fs⟩ : Array Value) ++ #[.func (.yield k) #[] #[]] ++ ⟨cs⟩ = ⟨fs ++ [.func (.yield k) #[] #[]] ++ cs⟩ := by
          apply Array.ext'
          simp
        simp only [invoke, this]
        simp [callFunc, g1, g2', g3']
      · intro hdp
        rw [hF.open.depth] at hdp
        cases hdp
      · refine hF.open.calls ((g4 (m - 1)).mono ?_)
        rintro en w2 ⟨r, hr, e2, x, rfl, p2, p3, p4⟩
        obtain ⟨z, hz, hsub⟩ := hall r hr
        obtain ⟨res, hres, rfl⟩ := oneL_some hz
        split at hres
        · rename_i ex3 h3 hlv
          cases hres
          obtain ⟨w3, t1, t2⟩ := leave_ok (P := P) p4 (p2.ρ _ _ r3) hlv
          refine ⟨ex3.jump, w3, t1, ?_⟩
          have fin := hQ _ (hsub _ List.mem_cons_self) e2 { a with defers := mark ++ a.defers } w3 (r2.trans p2) ⟨S.t.mono (r2.trans p2), t2⟩ (drel_mono p2 r5)
          cases ex3 with
          | normal => exact fin
          | exit id => exact wpIn_exit fin
          | goto l => exact wpIn_goto fin
          | ret => exact wpIn_ret fin
        · cases hres
    · cases q
end
end Go.Proofs.YtlikabehjiocjaaGreatDoor.Ev

import Derived.Test.YtjngkcnanhnopaaGreatDoorJbd
/-! The evaluator that goes all ways: rows, code, calls. -/
namespace Go.Proofs.YtjngkcnanhnopaaGreatDoor.Ev
open Go Go.RowKit
set_option linter.unusedVariables false
set_option linter.unusedSimpArgs false

abbrev ResN := OutL (Ex × St × List Nat)
def loopNN (step : St → List Nat → ResN) : Nat → St → List Nat → ResN
  | 0, _, _ => none
  | k + 1, s, mk => bindL (step s mk) (fun r => match r with
    | (.normal, s', mk') => loopNN step k s' mk'
    | (.exit id, s', mk') => some [(.exit id, s', mk')]
    | (.goto l, s', mk') => some [(.goto l, s', mk')]
    | (.ret, s', mk') => some [(.ret, s', mk')])
def jumpNN (f : Nat → St → List Nat → ResN) : Nat → Ex × St × List Nat → ResN
  | 0, _ => none
  | k + 1, (.goto l, s, mk) => bindL (f l s mk) (jumpNN f k)
  | _ + 1, (.normal, s, mk) => some [(.normal, s, mk)]
  | _ + 1, (.exit id, s, mk) => some [(.exit id, s, mk)]
  | _ + 1, (.ret, s, mk) => some [(.ret, s, mk)]
/-- A region that draws: one way, or all ways. -/
def draw2 (P : Program) (call : CallN) (draw : DrawT) (ops : Array Oper) (n : Nat) (s : St) : OutL St := match draw ops n s with
  | some s' => some [s']
  | none => drawFN P call ops n s
mutual
def evCN (P : Program) (call : CallN) (draw : DrawT) (n : Nat) (ro : Option Nat) : Code → St → List Nat → ResN
  | .skip, s, mk => some [(.normal, s, mk)]
  | .label _, s, mk => some [(.normal, s, mk)]
  | .region _ ops false, s, mk => bindL (evListN P call ops n ops.toList s) (fun s' => some [(.normal, s', mk)])
  | .region _ ops true, s, mk => bindL (draw2 P call draw ops n s) (fun s' => some [(.normal, s', mk)])
  | .seq x y, s, mk => bindL (evCN P call draw n ro x s mk) (fun r => match r with
    | (.normal, s', mk') => evCN P call draw n ro y s' mk'
    | (.exit id, s', mk') => some [(.exit id, s', mk')]
    | (.goto l, s', mk') => some [(.goto l, s', mk')]
    | (.ret, s', mk') => some [(.ret, s', mk')])
  | .cond c x y, s, mk => (match evO s.tm c with
    | some (.bool true) => evCN P call draw n ro x s mk
    | some (.bool false) => evCN P call draw n ro y s mk
    | _ => none)
  | .block id b, s, mk => bindL (evCN P call draw n ro b s mk) (fun r => match r with
    | (.exit id', s', mk') => cond (Nat.beq id' id) (some [(.normal, s', mk')]) (some [(.exit id', s', mk')])
    | (.normal, s', mk') => some [(.normal, s', mk')]
    | (.goto l, s', mk') => some [(.goto l, s', mk')]
    | (.ret, s', mk') => some [(.ret, s', mk')])
  | .loop b, s, mk => loopNN (evCN P call draw n ro b) 100000 s mk
  | .exit id, s, mk => some [(.exit id, s, mk)]
  | .goto l, s, mk => some [(.goto l, s, mk)]
  | .ret, s, mk => some [(.ret, s, mk)]
  | .rangeFunc g ps assign body, s, mk => (match evO s.tm g, enterV n ro ps assign body s mk with
    | some (.func (.func f) first cap), some (l, h1, mk') => bindL (call (.fn f (first ++ [.yield l] ++ cap)) h1) (fun r => oneL (match leaveV r.2 l with
        | some (ex, h3) => some (ex, ⟨s.tm, h3⟩, mk')
        | none => none))
    | _, _ => none)
  | .scope b, s, mk => bindL (evCN P call draw n ro b s mk) (jumpNN (evLabN P call draw n ro b) 10000)
  | .refuse _, _, _ => none
def evLabN (P : Program) (call : CallN) (draw : DrawT) (n : Nat) (ro : Option Nat) : Code → Nat → St → List Nat → ResN
  | .seq x y, l, s, mk => (match findLabel x l with
    | some _ => bindL (evLabN P call draw n ro x l s mk) (fun r => match r with
      | (.normal, s', mk') => evCN P call draw n ro y s' mk'
      | (.exit id, s', mk') => some [(.exit id, s', mk')]
      | (.goto l, s', mk') => some [(.goto l, s', mk')]
      | (.ret, s', mk') => some [(.ret, s', mk')])
    | none => evLabN P call draw n ro y l s mk)
  | .label l', l, s, mk => cond (l' == l) (some [(.normal, s, mk)]) none
  | _, _, _, _ => none
end
def CNOk (P : Program) (call : CallN) (draw : DrawT) (c : Code) : Prop := ∀ w0 e n ro F m s mk a w rs Q, FRel e ro F → SRel w0 e n s a w → drel e mk a.defers → evCN P call draw n ro c s mk = some rs →
  (∀ r ∈ rs, ∀ e' a' w', e.le e' → SRel w0 e' n r.2.1 a' w' → drel e' r.2.2 a'.defers → Q r.1.to a' w') → c.wpIn F m P Q a w
section
variable {P : Program} {F : Fence} {m : Nat}
theorem loopNN_ok {call : CallN} {draw : DrawT} {c : Code} (hC : CNOk P call draw c) {n : Nat} {ro : Option Nat} {w0 : World} {Q : Exit → Act → World → Prop} : ∀ (j : Nat) (e : E) (s : St) (mk : List Nat) (a : Act) (w : World) (rs : List (Ex × St × List Nat)), FRel e ro F → SRel w0 e n s a w → drel e mk a.defers →
    loopNN (evCN P call draw n ro c) j s mk = some rs → (∀ r ∈ rs, ∀ e' a' w', e.le e' → SRel w0 e' n r.2.1 a' w' → drel e' r.2.2 a'.defers → Q r.1.to a' w') → LoopAt F m P c Q a w
  | 0, _, _, _, _, _, _, _, _, _, q, _ => by cases q
  | j + 1, e, s, mk, a, w, rs, hF, S, D, q, hQ => by
    refine loop_step ?_
    unfold loopNN at q
    obtain ⟨l, hl, hall⟩ := bindL_some q
    refine hC _ _ _ _ _ _ _ _ _ _ _ _ hF S D hl (fun r hr e1 a1 w1 h1 h2 h3 => ?_)
    obtain ⟨x, hx, hsub⟩ := hall r hr
    obtain ⟨ex1, s1, mk1⟩ := r
    cases ex1 with
    | normal => exact loopNN_ok hC j e1 s1 mk1 a1 w1 x (hF.mono h1) h2 h3 hx (fun r2 hr2 e2 a2 w2 h4 h5 h6 => hQ r2 (hsub r2 hr2) e2 a2 w2 (h1.trans h4) h5 h6)
    | exit id => cases hx; exact hQ _ (hsub _ List.mem_cons_self) e1 a1 w1 h1 h2 h3
    | goto l => cases hx; exact hQ _ (hsub _ List.mem_cons_self) e1 a1 w1 h1 h2 h3
    | ret => cases hx; exact hQ _ (hsub _ List.mem_cons_self) e1 a1 w1 h1 h2 h3
def RunNOk (P : Program) (rest : Code) (run : Nat → Option Nat → St → List Nat → ResN) : Prop := ∀ w0 e n ro F m s mk a w rs Q, FRel e ro F → SRel w0 e n s a w → drel e mk a.defers → run n ro s mk = some rs →
  (∀ r ∈ rs, ∀ e' a' w', e.le e' → SRel w0 e' n r.2.1 a' w' → drel e' r.2.2 a'.defers → Q r.1.to a' w') → rest.wpIn F m P Q a w
theorem evLabN_label {call : CallN} {draw : DrawT} {n : Nat} {ro : Option Nat} : ∀ {c : Code} {l : Nat} {s : St} {mk : List Nat} {r : List (Ex × St × List Nat)}, evLabN P call draw n ro c l s mk = some r → ∃ rest, findLabel c l = some rest
  | .seq x y, l, s, mk, r, q => by
    simp only [evLabN] at q
    split at q
    · rename_i rx hx
      exact ⟨.seq rx y, by simp only [findLabel, hx]⟩
    · rename_i hx
      obtain ⟨rest, hr⟩ := evLabN_label q
      exact ⟨rest, by simp only [findLabel, hx, hr]⟩
  | .label l', l, s, mk, r, q => by
    simp only [evLabN] at q
    cases h : l' == l with
    | false => rw [h] at q; cases q
    | true => exact ⟨.skip, by simp only [findLabel, h, if_true]⟩
  | .skip, _, _, _, _, q | .exit _, _, _, _, _, q | .goto _, _, _, _, _, q | .ret, _, _, _, _, q | .scope _, _, _, _, _, q | .refuse _, _, _, _, _, q | .region _ _ _, _, _, _, _, q | .cond _ _ _, _, _, _, _, q | .block _ _, _, _, _, _, q | .loop _, _, _, _, _, q | .rangeFunc _ _ _ _, _, _, _, _, q => by simp only [evLabN] at q; cases q
theorem jumpNN_ok {call : CallN} {draw : DrawT} {c : Code} (hL : ∀ l rest, findLabel c l = some rest → RunNOk P rest (fun n ro => evLabN P call draw n ro c l)) {n : Nat} {ro : Option Nat} {w0 : World} {Q : Exit → Act → World → Prop} : ∀ (j : Nat) (e : E) (s : St) (mk : List Nat) (a : Act) (w : World) (rest : Code) (run : Nat → Option Nat → St → List Nat → ResN) (rs : List (Ex × St × List Nat)), RunNOk P rest run → FRel e ro F → SRel w0 e n s a w → drel e mk a.defers →
    bindL (run n ro s mk) (jumpNN (evLabN P call draw n ro c) j) = some rs → (∀ r ∈ rs, ∀ e' a' w', e.le e' → SRel w0 e' n r.2.1 a' w' → drel e' r.2.2 a'.defers → Q r.1.to a' w') → ScopeAt F m P c rest Q a w
  | j, e, s, mk, a, w, rest, run, rs, hrun, hF, S, D, q, hQ => by
    refine scope_step ?_
    obtain ⟨l, hl, hall⟩ := bindL_some q
    refine hrun _ _ _ _ _ _ _ _ _ _ _ _ hF S D hl (fun r hr e1 a1 w1 h1 h2 h3 => ?_)
    obtain ⟨x, hx, hsub⟩ := hall r hr
    obtain ⟨ex1, s1, mk1⟩ := r
    cases j with
    | zero => cases hx
    | succ j =>
      cases ex1 with
      | normal => cases hx; exact hQ _ (hsub _ List.mem_cons_self) e1 a1 w1 h1 h2 h3
      | exit id => cases hx; exact hQ _ (hsub _ List.mem_cons_self) e1 a1 w1 h1 h2 h3
      | ret => cases hx; exact hQ _ (hsub _ List.mem_cons_self) e1 a1 w1 h1 h2 h3
      | goto lb =>
        unfold jumpNN at hx
        obtain ⟨l2, hl2, _⟩ := bindL_some hx
        obtain ⟨rest', hf⟩ := evLabN_label hl2
        exact ⟨rest', hf, jumpNN_ok hL j e1 s1 mk1 a1 w1 rest' (fun n ro => evLabN P call draw n ro c lb) x (hL lb rest' hf) (hF.mono h1) h2 h3 hx (fun r2 hr2 e2 a2 w2 h4 h5 h6 => hQ r2 (hsub r2 hr2) e2 a2 w2 (h1.trans h4) h5 h6)⟩
mutual
theorem evCN_ok {call : CallN} {draw : DrawT} (hc : CallNOk P call) (hd : DrawOk P (oneOf call) draw) : ∀ (c : Code), CNOk P call draw c
  | .skip => fun w0 e n ro F m s mk a w rs Q hF S D q hQ => by cases q; exact wpIn_skip (hQ _ List.mem_cons_self _ _ _ (E.le.refl _) S D)
  | .label _ => fun w0 e n ro F m s mk a w rs Q hF S D q hQ => by cases q; exact wpIn_label (hQ _ List.mem_cons_self _ _ _ (E.le.refl _) S D)
  | .exit _ => fun w0 e n ro F m s mk a w rs Q hF S D q hQ => by cases q; exact wpIn_exit (hQ _ List.mem_cons_self _ _ _ (E.le.refl _) S D)
  | .goto _ => fun w0 e n ro F m s mk a w rs Q hF S D q hQ => by cases q; exact wpIn_goto (hQ _ List.mem_cons_self _ _ _ (E.le.refl _) S D)
  | .ret => fun w0 e n ro F m s mk a w rs Q hF S D q hQ => by cases q; exact wpIn_ret (hQ _ List.mem_cons_self _ _ _ (E.le.refl _) S D)
  | .scope b => fun w0 e n ro F m s mk a w rs Q hF S D q hQ => by
    simp only [evCN] at q
    exact scope_of (jumpNN_ok (fun l rest hf => evLabN_ok hc hd b l rest hf) _ e s mk a w b (fun n ro => evCN P call draw n ro b) rs (evCN_ok hc hd b) hF S D q hQ)
  | .refuse _ => fun w0 e n ro F m s mk a w rs Q hF S D q hQ => by cases q
  | .region id ops false => fun w0 e n ro F m s mk a w rs Q hF S D q hQ => by
    simp only [evCN] at q
    obtain ⟨l, hl, hall⟩ := bindL_some q
    refine wp_regionNN hF.open hc S hl (fun s' hs' e' a' w' h1 h2 h3 => ?_)
    obtain ⟨x, hx, hsub⟩ := hall s' hs'
    cases hx
    exact hQ _ (hsub _ List.mem_cons_self) e' a' w' h1 h2 (by rw [h3]; exact drel_mono h1 D)
  | .region id ops true => fun w0 e n ro F m s mk a w rs Q hF S D q hQ => by
    simp only [evCN] at q
    obtain ⟨l, hl, hall⟩ := bindL_some q
    unfold draw2 at hl
    split at hl
    · rename_i s' hs'
      cases hl
      obtain ⟨x, hx, hsub⟩ := hall s' List.mem_cons_self
      cases hx
      exact hd.ok hF.open S hs' (fun e' a' w' h1 h2 h3 => hQ _ (hsub _ List.mem_cons_self) e' a' w' h1 h2 (by rw [h3]; exact drel_mono h1 D))
    · refine drawFN_ok hc hF.open S hl (fun s' hs' e' a' w' h1 h2 h3 => ?_)
      obtain ⟨x, hx, hsub⟩ := hall s' hs'
      cases hx
      exact hQ _ (hsub _ List.mem_cons_self) e' a' w' h1 h2 (by rw [h3]; exact drel_mono h1 D)
  | .seq x y => fun w0 e n ro F m s mk a w rs Q hF S D q hQ => by
    simp only [evCN] at q
    refine wpIn_seq ?_
    obtain ⟨l, hl, hall⟩ := bindL_some q
    refine evCN_ok hc hd x _ _ _ _ _ _ _ _ _ _ _ _ hF S D hl (fun r hr e1 a1 w1 h2 h3 h4 => ?_)
    obtain ⟨z, hz, hsub⟩ := hall r hr
    obtain ⟨ex1, s1, mk1⟩ := r
    cases ex1 with
    | normal => exact evCN_ok hc hd y _ _ _ _ _ _ _ _ _ _ _ _ (hF.mono h2) h3 h4 hz (fun r2 hr2 e2 a2 w2 h5 h6 h7 => hQ r2 (hsub r2 hr2) e2 a2 w2 (h2.trans h5) h6 h7)
    | exit id => cases hz; exact hQ _ (hsub _ List.mem_cons_self) e1 a1 w1 h2 h3 h4
    | goto l => cases hz; exact hQ _ (hsub _ List.mem_cons_self) e1 a1 w1 h2 h3 h4
    | ret => cases hz; exact hQ _ (hsub _ List.mem_cons_self) e1 a1 w1 h2 h3 h4
  | .cond c x y => fun w0 e n ro F m s mk a w rs Q hF S D q hQ => by
    simp only [evCN] at q
    split at q
    · rename_i h1
      have := evO_rel S.t h1
      simp only [vrel] at this
      exact wpIn_cond_true this (evCN_ok hc hd x _ _ _ _ _ _ _ _ _ _ _ _ hF S D q hQ)
    · rename_i h1
      have := evO_rel S.t h1
      simp only [vrel] at this
      exact wpIn_cond_false this (evCN_ok hc hd y _ _ _ _ _ _ _ _ _ _ _ _ hF S D q hQ)
    · cases q
  | .block id b => fun w0 e n ro F m s mk a w rs Q hF S D q hQ => by
    simp only [evCN] at q
    refine wpIn_block ?_
    obtain ⟨l, hl, hall⟩ := bindL_some q
    refine evCN_ok hc hd b _ _ _ _ _ _ _ _ _ _ _ _ hF S D hl (fun r hr e1 a1 w1 h2 h3 h4 => ?_)
    obtain ⟨z, hz, hsub⟩ := hall r hr
    obtain ⟨ex1, s1, mk1⟩ := r
    cases ex1 with
    | normal => cases hz; exact hQ _ (hsub _ List.mem_cons_self) e1 a1 w1 h2 h3 h4
    | exit id' =>
      cases hb : Nat.beq id' id with
      | true =>
        simp only [hb, cond_true] at hz
        cases hz
        have := Nat.eq_of_beq_eq_true hb
        subst this
        show Exit.inBlock id' Q (.exit id') a1 w1
        simp only [Exit.inBlock, if_true]
        exact hQ _ (hsub _ List.mem_cons_self) e1 a1 w1 h2 h3 h4
      | false =>
        simp only [hb, cond_false] at hz
        cases hz
        have hne : ¬ id' = id := fun e2 => by subst e2; simp at hb
        show Exit.inBlock id Q (.exit id') a1 w1
        simp only [Exit.inBlock, hne, if_false]
        exact hQ _ (hsub _ List.mem_cons_self) e1 a1 w1 h2 h3 h4
    | goto l => cases hz; exact hQ _ (hsub _ List.mem_cons_self) e1 a1 w1 h2 h3 h4
    | ret => cases hz; exact hQ _ (hsub _ List.mem_cons_self) e1 a1 w1 h2 h3 h4
  | .loop b => fun w0 e n ro F m s mk a w rs Q hF S D q hQ => by
    simp only [evCN] at q
    exact loop_of (loopNN_ok (evCN_ok hc hd b) _ e s mk a w rs hF S D q hQ)
  | .rangeFunc g ps assign body => fun w0 e n ro F m s mk a w rs Q hF S D q hQ => by
    simp only [evCN] at q
    split at q
    · rename_i f first cap l h1 mk1 hg hent
      obtain ⟨ll, hl, hall⟩ := bindL_some q
      refine wpIn_rangeFunc (fun fn _ => ?_)
      obtain ⟨e1, k, mark, w1, r1, r2, r3, r4, r5⟩ := enter_ok (P := P) fn hF S D hent
      have hgv := evO_rel S.t hg
      simp only [vrel] at hgv
      obtain ⟨fs, cs, hge, hfs, hcs⟩ := hgv
      have hargs : vrels e1 (first ++ [.yield l] ++ cap) (fs ++ [.func (.yield k) #[] #[]] ++ cs) :=
        vrels_append (vrels_append (vrels_mono r2 _ _ hfs) (vrels_one (by simp only [vrel]; exact ⟨k, r3, rfl⟩))) (vrels_mono r2 _ _ hcs)
      obtain ⟨⟨fnc, g1, g2, g3⟩, g4⟩ := hc.fn hl r4 _ hargs
      have g3' : ¬ fnc.name = "runtime.NumGoroutine" := by simpa using g3
      have g2' : ¬ fnc.body = none := fun hh => by rw [hh] at g2; cases g2
      refine ⟨k, mark, w1, { target := .fn (.func f) ⟨cs⟩, args := ⟨fs⟩ ++ #[.func (.yield k) #[] #[]] }, w1, f, ⟨fs ++ [.func (.yield k) #[] #[]] ++ cs⟩, w1, r1, ?_, fun f' _ => hF.open.fn f', ?_, ?_, ?_⟩
      · have hev : ∀ v, a.eval (.const v) = v := fun _ => rfl
        simp [resolve, hge, Deferred.ofValue, hev]
      · have : (⟨fs⟩ : Array Value) ++ #[.func (.yield k) #[] #[]] ++ ⟨cs⟩ = ⟨fs ++ [.func (.yield k) #[] #[]] ++ cs⟩ := by
          apply Array.ext'
          simp
        simp only [invoke, this]
        simp [callFunc, g1, g2', g3']
      · intro hdp
        rw [hF.open.depth] at hdp
        cases hdp
      · refine hF.open.calls ((g4 (m - 1)).mono ?_)
        rintro en w2 ⟨r, hr, e2, x, rfl, p2, p3, p4⟩
        obtain ⟨z, hz, hsub⟩ := hall r hr
        obtain ⟨res, hres, rfl⟩ := oneL_some hz
        split at hres
        · rename_i ex3 h3 hlv
          cases hres
          obtain ⟨w3, t1, t2⟩ := leave_ok (P := P) p4 (p2.ρ _ _ r3) hlv
          refine ⟨ex3.jump, w3, t1, ?_⟩
          have fin := hQ _ (hsub _ List.mem_cons_self) e2 { a with defers := mark ++ a.defers } w3 (r2.trans p2) ⟨S.t.mono (r2.trans p2), t2⟩ (drel_mono p2 r5)
          cases ex3 with
          | normal => exact fin
          | exit id => exact wpIn_exit fin
          | goto l => exact wpIn_goto fin
          | ret => exact wpIn_ret fin
        · cases hres
    · cases q
theorem evLabN_ok {call : CallN} {draw : DrawT} (hc : CallNOk P call) (hd : DrawOk P (oneOf call) draw) : ∀ (c : Code) (l : Nat) (rest : Code), findLabel c l = some rest → RunNOk P rest (fun n ro => evLabN P call draw n ro c l)
  | .seq x y, l, rest, hf => fun w0 e n ro F m s mk a w rs Q hF S D q hQ => by
    simp only [evLabN] at q
    simp only [findLabel] at hf
    cases hx : findLabel x l with
    | none =>
      rw [hx] at q hf
      exact evLabN_ok hc hd y l rest hf _ _ _ _ _ _ _ _ _ _ _ _ hF S D q hQ
    | some rx =>
      rw [hx] at q hf
      cases hf
      dsimp only at q
      refine wpIn_seq ?_
      obtain ⟨l1, hl1, hall⟩ := bindL_some q
      refine evLabN_ok hc hd x l rx hx _ _ _ _ _ _ _ _ _ _ _ _ hF S D hl1 (fun r hr e1 a1 w1 h2 h3 h4 => ?_)
      obtain ⟨z, hz, hsub⟩ := hall r hr
      obtain ⟨ex1, s1, mk1⟩ := r
      cases ex1 with
      | normal => exact evCN_ok hc hd y _ _ _ _ _ _ _ _ _ _ _ _ (hF.mono h2) h3 h4 hz (fun r2 hr2 e2 a2 w2 h5 h6 h7 => hQ r2 (hsub r2 hr2) e2 a2 w2 (h2.trans h5) h6 h7)
      | exit id => cases hz; exact hQ _ (hsub _ List.mem_cons_self) e1 a1 w1 h2 h3 h4
      | goto l => cases hz; exact hQ _ (hsub _ List.mem_cons_self) e1 a1 w1 h2 h3 h4
      | ret => cases hz; exact hQ _ (hsub _ List.mem_cons_self) e1 a1 w1 h2 h3 h4
  | .label l', l, rest, hf => fun w0 e n ro F m s mk a w rs Q hF S D q hQ => by
    simp only [evLabN] at q
    simp only [findLabel] at hf
    cases h : l' == l with
    | false => rw [h] at q; cases q
    | true =>
      rw [h] at q hf
      cases q
      cases hf
      exact wpIn_skip (hQ _ List.mem_cons_self _ _ _ (E.le.refl _) S D)
  | .skip, _, _, hf | .exit _, _, _, hf | .goto _, _, _, hf | .ret, _, _, hf | .scope _, _, _, hf | .refuse _, _, _, hf | .region _ _ _, _, _, hf | .cond _ _ _, _, _, hf | .block _ _, _, _, hf | .loop _, _, _, hf | .rangeFunc _ _ _ _, _, _, hf => by cases hf
end
end
end Go.Proofs.YtjngkcnanhnopaaGreatDoor.Ev

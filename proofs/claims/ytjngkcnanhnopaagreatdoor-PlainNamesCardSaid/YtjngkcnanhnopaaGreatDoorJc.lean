import Derived.Test.YtjngkcnanhnopaaGreatDoorJb
/-! The evaluator that goes all ways: calls; and the join: a function that comes to the same whichever way it goes. -/
namespace Go.Proofs.YtjngkcnanhnopaaGreatDoor.Ev
open Go Go.RowKit
set_option linter.unusedVariables false
set_option linter.unusedSimpArgs false

def evFnN (P : Program) (spec : SpecT) (call : CallN) (draw : DrawT) (g : FuncId) (args : List V) (h : H) : OutL (V × H) :=
  match spec g with
  | some f => oneL (f h args)
  | none => match (funcT P).get g with
    | some fn => (match fn.body with
      | some c => cond (Nat.ble args.length fn.ntmps) (bindL (evCN P call draw fn.ntmps none c ⟨argTm 0 args .leaf, h⟩ []) (fun r => match r with
        | (.normal, s, mk) => oneL (evEnd P fn s mk)
        | (.ret, s, mk) => oneL (evEnd P fn s mk)
        | _ => none)) none
      | none => none)
    | none => none
def roundEndN (l : Nat) (r : Ex × St × List Nat) : OutL (V × H) := match r.2.1.h.getW l with
  | some (.loop r2) => some [(.bool r.1.jump.isNone, r.2.1.h.set l (some (.loop { r2 with state := if r.1.jump.isNone then .ready else .done, pending := r.1.jump })))]
  | _ => none
def evRoundN (P : Program) (call : CallN) (draw : DrawT) (l : Nat) (args : List V) (h : H) : OutL (V × H) :=
  match h.get l with
  | some (.loop r) => (match foldPut r.ntm r.tmps r.params args with
    | some tm => bindL (evCN P call draw r.ntm (some l) r.assign ⟨tm, h⟩ []) (fun q => match q with
      | (.normal, s1, mk1) => (match s1.h.getW l with
        | some (.loop r1) => cond (isReady r1.state) (bindL (evCN P call draw r.ntm (some l) r.body ⟨s1.tm, s1.h.set l (some (.loop { r1 with state := .busy }))⟩ mk1) (roundEndN l)) none
        | _ => none)
      | _ => none)
    | none => none)
  | _ => none
def evCallN (P : Program) (ext : ExtT) (spec : SpecT) (draw : CallT → DrawT) : Nat → CallN
  | 0 => fun _ _ => none
  | d + 1 => fun task h => match task with
    | .fn g args => evFnN P spec (evCallN P ext spec draw d) (draw (oneOf (evCallN P ext spec draw d))) g args h
    | .call g args => (match ext g with
      | some f => oneL (f h args)
      | none => evFnN P spec (evCallN P ext spec draw d) (draw (oneOf (evCallN P ext spec draw d))) g args h)
    | .round l args => evRoundN P (evCallN P ext spec draw d) (draw (oneOf (evCallN P ext spec draw d))) l args h
section
variable {P : Program} {w0 w w' : World} {e : E} {h : H}
theorem evFnN_ok {spec : SpecT} {call : CallN} {draw : DrawT} (hnm : ∀ (g : FuncId) (fn : Func), P.funcs[g]? = some fn → (fn.name == "runtime.NumGoroutine") = false) (hsp : SpecOk P spec) (hc : CallNOk P call) (hd : DrawOk P (oneOf call) draw) {g : FuncId} {args : List V} {rs : List (V × H)} (q : evFnN P spec call draw g args h = some rs) (R : Rel w0 e h w) (xs : List Value) (hv : vrels e args xs) :
    (∃ fn, P.funcs[g]? = some fn ∧ fn.body.isNone = false ∧ (fn.name == "runtime.NumGoroutine") = false) ∧ ∀ n, CallsIn Fence.wide n P g ⟨xs⟩ w (fun en w' => ∃ r ∈ rs, CallPost w0 e r.1 r.2 en w') := by
  unfold evFnN at q
  split at q
  · rename_i f hf
    obtain ⟨r, hr, rfl⟩ := oneL_some q
    obtain ⟨⟨fn, g1, g2⟩, g3⟩ := hsp g f hf
    exact ⟨⟨fn, g1, g2, hnm g fn g1⟩, fun n => (g3 w0 e h w args r.1 r.2 hr R xs hv n).mono fun en w' hp => ⟨r, List.mem_cons_self, hp⟩⟩
  · split at q
    · rename_i fn hfn
      have hfn := (funcT_get P g).symm.trans hfn
      split at q
      · rename_i c hb
        cases hle : Nat.ble args.length fn.ntmps with
        | false => rw [hle] at q; cases q
        | true =>
          rw [hle] at q
          simp only [cond_true] at q
          have hle := Nat.le_of_ble_eq_true hle
          refine ⟨⟨fn, hfn, by rw [hb]; rfl, hnm g fn hfn⟩, fun m => ?_⟩
          have T := args_trel hv hle
          obtain ⟨l, hl, hall⟩ := bindL_some q
          refine callsIn_of_wp_marks hfn hb trivial ?_
          refine evCN_ok hc hd c _ _ _ _ _ _ _ _ _ _ _ _ (show FRel e none Fence.wide from rfl) (⟨T, R⟩ : SRel w0 e fn.ntmps ⟨argTm 0 args .leaf, h⟩ _ w) (show drel e [] [] from rfl) hl (fun r hr e' a' w' h1 h2 h3 => ?_)
          obtain ⟨x, hx, hsub⟩ := hall r hr
          obtain ⟨ex, s, mk⟩ := r
          have leave : ∀ v h', evEnd P fn s mk = some (v, h') → (v, h') ∈ rs → LeavesInM Fence.wide m P fn a'.tmps (fun en w' => ∃ r ∈ rs, CallPost w0 e r.1 r.2 en w') a'.defers .returning w' := by
            intro v h' hq hmem
            unfold evEnd at hq
            split at hq
            · rename_i h2' hcl
              split at hq
              · rename_i vs hrs
                cases hq
                refine close_ok mk _ _ _ h3 h2.r hcl (fun w2 R2 => ?_)
                obtain ⟨x, r1, r2⟩ := run_results (P := P) (s := ⟨s.tm, h'⟩) R2 h2.t hrs
                exact ⟨x, r1, _, hmem, e', x, rfl, h1, r2, R2⟩
              · cases hq
            · cases hq
          cases ex with
          | normal =>
            obtain ⟨r, hr, rfl⟩ := oneL_some hx
            exact leave r.1 r.2 hr (hsub _ List.mem_cons_self)
          | ret =>
            obtain ⟨r, hr, rfl⟩ := oneL_some hx
            exact leave r.1 r.2 hr (hsub _ List.mem_cons_self)
          | exit id => cases hx
          | goto l => cases hx
      · cases q
    · cases q
theorem evRoundN_ok {call : CallN} {draw : DrawT} (hc : CallNOk P call) (hd : DrawOk P (oneOf call) draw) {l k : Nat} {args : List V} {rs : List (V × H)} (q : evRoundN P call draw l args h = some rs) (R : Rel w0 e h w) (hk : e.ρ l = some k) (xs : List Value) (hv : vrels e args xs) :
    ∃ fn tmps assign body, (Instr.yield k ⟨xs⟩).run P w = .ok (.round k fn tmps assign body) w ∧ ∀ n, RoundIn Fence.wide n P k fn tmps assign body w (fun en w' => ∃ r ∈ rs, CallPost w0 e r.1 r.2 en w') := by
  unfold evRoundN at q
  split at q
  · rename_i r hg
    obtain ⟨fn, tmps, dk, g1, g2, g3⟩ := R.heap l _ k hg hk
    split at q
    · rename_i tm hfp
      obtain ⟨hlen, T⟩ := foldPut_ok r.params args xs r.tmps tm tmps g2 hv hfp
      have hy := run_yield (P := P) (args := ⟨xs⟩) g1 (by have := vrels_len hv; simp; omega)
      refine ⟨fn, _, _, _, hy, fun m => ?_⟩
      have T' : trel e tm r.ntm (((⟨r.params⟩ : Array Tmp).zip ⟨xs⟩).foldl (fun tmps (t, a) => tmps.setIfInBounds t a) tmps) := by
        rw [← Array.foldl_toList]
        simpa using T
      refine roundIn_of_wpIn trivial ?_
      obtain ⟨l1, hl1, hall1⟩ := bindL_some q
      refine evCN_ok hc hd r.assign _ _ _ _ _ _ _ _ _ _ _ _ (show FRel e (some l) (Fence.wide.inRound k) from ⟨k, hk, rfl⟩) (⟨T', R⟩ : SRel w0 e r.ntm ⟨tm, h⟩ _ w) (show drel e [] [] from rfl) hl1 (fun q1 hq1 e1 a1 w1 h1 h2 h3 => ?_)
      obtain ⟨x1, hx1, hsub1⟩ := hall1 q1 hq1
      obtain ⟨ex1, s1, mk1⟩ := q1
      cases ex1 with
      | exit id => cases hx1
      | goto l => cases hx1
      | ret => cases hx1
      | normal =>
        dsimp only at hx1
        split at hx1
        · rename_i r1 hg1
          obtain ⟨hf1, hg1⟩ := H.getW_some hg1
          cases hrd : isReady r1.state with
          | false => rw [hrd] at hx1; cases hx1
          | true =>
            rw [hrd] at hx1
            simp only [cond_true] at hx1
            have hk1 := h1.ρ _ _ hk
            obtain ⟨fn1, tmps1, dk1, p1, p2, p3⟩ := h2.r.heap l _ k hg1 hk1
            have hst : r1.state = .ready := by cases hh : r1.state <;> rw [hh] at hrd <;> first | rfl | cases hrd
            refine ⟨_, run_beginRound (P := P) p1 hst, ?_⟩
            have R2 : Rel w0 e1 (s1.h.set l (some (.loop { r1 with state := .busy }))) (w1.putObj k _) := h2.r.upd hk1 hf1 hg1 (grownBy_putObj' _ _ _) (by rw [World.putObj_heap_same (h2.r.new _ _ hk1).2]; exact ⟨fn1, tmps1, dk1, rfl, p2, p3⟩)
            obtain ⟨l2, hl2, hall2⟩ := bindL_some hx1
            refine evCN_ok hc hd r.body _ _ _ _ _ _ _ _ _ _ _ _ (show FRel e1 (some l) (Fence.wide.inRound k) from ⟨k, hk1, rfl⟩) (⟨h2.t, R2⟩ : SRel w0 e1 r.ntm ⟨s1.tm, s1.h.set l (some (.loop { r1 with state := .busy }))⟩ a1 _) h3 hl2 (fun q2 hq2 e2 a2 w2 h4 h5 h6 => ?_)
            obtain ⟨x2, hx2, hsub2⟩ := hall2 q2 hq2
            obtain ⟨ex, s2, mk2⟩ := q2
            unfold roundEndN at hx2
            dsimp only at hx2
            split at hx2
            · rename_i r2 hg2
              obtain ⟨hf2, hg2⟩ := H.getW_some hg2
              cases hx2
              have hk2 := h4.ρ _ _ hk1
              obtain ⟨fn2, tmps2, dk2, t1, t2, t3⟩ := h5.r.heap l _ k hg2 hk2
              have hend := run_endRound (P := P) ex.jump t1
              have R3 : Rel w0 e2 (s2.h.set l (some (.loop { r2 with state := if ex.jump.isNone then .ready else .done, pending := ex.jump }))) (w2.putObj k _) := h5.r.upd hk2 hf2 hg2 (grownBy_putObj' _ _ _) (by rw [World.putObj_heap_same (h5.r.new _ _ hk2).2]; exact ⟨fn2, tmps2, dk2, rfl, t2, t3⟩)
              have fin : ∃ r ∈ rs, CallPost w0 e r.1 r.2 (.returned (.bool ex.jump.isNone)) (w2.putObj k _) := ⟨_, hsub1 _ (hsub2 _ List.mem_cons_self), e2, _, rfl, h1.trans h4, by simp only [vrel], R3⟩
              cases ex with
              | normal => exact ⟨_, _, hend, fin⟩
              | exit id => exact ⟨_, _, hend, fin⟩
              | goto l => exact ⟨_, _, hend, fin⟩
              | ret => exact ⟨_, _, hend, fin⟩
            · cases hx2
        · cases hx1
    · cases q
  · cases q
theorem evCallN_ok {ext : ExtT} {spec : SpecT} {draw : CallT → DrawT} (hnm : ∀ (g : FuncId) (fn : Func), P.funcs[g]? = some fn → (fn.name == "runtime.NumGoroutine") = false) (hex : ExtOk P ext) (hsp : SpecOk P spec) (hdr : ∀ call, CallOk P call → DrawOk P call (draw call)) : ∀ d, CallNOk P (evCallN P ext spec draw d)
  | 0 => ⟨fun q => by simp [evCallN] at q, fun q => by simp [evCallN] at q, fun q => by simp [evCallN] at q⟩
  | d + 1 => by
    have hc := evCallN_ok hnm hex hsp hdr d
    have hd := hdr _ (oneOf_ok hc)
    constructor
    · intro w0 e h w g args rs q R xs hv
      exact evFnN_ok hnm hsp hc hd q R xs hv
    · intro w0 e h w g args rs q R xs hv
      simp only [evCallN] at q
      split at q
      · rename_i f hf
        obtain ⟨r, hr, rfl⟩ := oneL_some q
        obtain ⟨e', x, w', h1, h2, h3, h4⟩ := hex g f hf w0 e h w args r.1 r.2 hr R xs hv
        exact .inr ⟨_, List.mem_cons_self, e', x, w', h1, h2, h3, h4⟩
      · exact .inl (evFnN_ok hnm hsp hc hd q R xs hv)
    · intro w0 e h w l args rs k q R hk xs hv
      exact evRoundN_ok hc hd q R hk xs hv
end
/-! The join. -/
mutual
/-- A value that names no block. -/
def flatV : V → Bool
  | .bool _ => true
  | .int _ _ => true
  | .str _ => true
  | .ptr none => true
  | .slice none _ (.exact _) => true
  | .map none => true
  | .nilFunc => true
  | .nilIface => true
  | .iface _ v => flatV v
  | .agg l => flatVs l
  | .tuple l => flatVs l
  | _ => false
def flatVs : List V → Bool
  | [] => true
  | v :: l => flatV v && flatVs l
end
mutual
theorem flatV_rel {e e' : E} : ∀ (v : V) (x : Value), flatV v = true → vrel e v x → vrel e' v x
  | .bool _, _, _, q | .int _ _, _, _, q | .str _, _, _, q | .ptr none, _, _, q | .map none, _, _, q | .nilFunc, _, _, q | .nilIface, _, _, q => by simp only [vrel] at q ⊢ <;> exact q
  | .slice none _ (.exact _), _, _, q => by simp only [vrel] at q ⊢ <;> exact q
  | .iface t v, _, hf, q => by
    simp only [flatV] at hf
    simp only [vrel] at q ⊢
    obtain ⟨y, h1, h2⟩ := q
    exact ⟨y, h1, flatV_rel v y hf h2⟩
  | .agg l, _, hf, q => by
    simp only [flatV] at hf
    simp only [vrel] at q ⊢
    obtain ⟨y, h1, h2⟩ := q
    exact ⟨y, h1, flatVs_rel l y hf h2⟩
  | .tuple l, _, hf, q => by
    simp only [flatV] at hf
    simp only [vrel] at q ⊢
    obtain ⟨y, h1, h2⟩ := q
    exact ⟨y, h1, flatVs_rel l y hf h2⟩
theorem flatVs_rel {e e' : E} : ∀ (l : List V) (xs : List Value), flatVs l = true → vrels e l xs → vrels e' l xs
  | [], _, _, q => by simpa only [vrels] using q
  | v :: l, _, hf, q => by
    simp only [flatVs, Bool.and_eq_true] at hf
    simp only [vrels] at q ⊢
    obtain ⟨x, r, h1, h2, h3⟩ := q
    exact ⟨x, r, h1, flatV_rel v x hf.1 h2, flatVs_rel l r hf.2 h3⟩
end
section
variable {P : Program} {w0 w w' : World} {e : E} {h : H}
/-- What was, in a later world. -/
theorem Rel.later (R : Rel w0 e h w) (hb : Below w.heap.size w w') : Rel w0 e h w' :=
  ⟨fun b o k h1 h2 => by rw [hb.block k (R.new _ _ h2).2]; exact R.heap b o k h1 h2, R.lt, R.klt, R.inj, fun b k q => ⟨(R.new b k q).1, Nat.lt_of_lt_of_le (R.new b k q).2 hb.size⟩,
    ⟨hb.os.trans R.bel.os, hb.tape.trans R.bel.tape, hb.output.trans R.bel.output, Nat.le_trans R.bel.size hb.size, fun k hk hn => (hb.block k (Nat.lt_of_lt_of_le hk R.bel.size)).trans (R.bel.block k hk hn)⟩, R.fresh, R.lim⟩
/-- Nothing of what was may be written. -/
def H.frozen (h : H) : H := ⟨h.heap, h.nxt, h.nxt, []⟩
theorem Rel.frozen (R : Rel w0 e h w) : Rel w e h.frozen w :=
  ⟨R.heap, R.lt, R.klt, R.inj, fun b k q => ⟨fun hle => absurd (R.lt b k q) (Nat.not_lt.2 hle), (R.new b k q).2⟩, ⟨rfl, rfl, rfl, Nat.le_refl _, fun _ _ _ => rfl⟩, R.fresh, R.lim⟩
end
/-- A slice that was made: what stands in its block. -/
def madeL (h : H) (r : V × H) : Option (Nat × List V × TypeId × Nat) := match r.1 with
  | .slice (some (b, 0)) n (.upto 0 mm) => cond (Nat.ble h.nxt b && Nat.beq r.2.frz h.nxt && r.2.log.isEmpty) (match r.2.get b with
    | some (.cells l t (some s)) => cond (flatVs l) (some (n, l, t, s)) none
    | _ => none) none
  | _ => none
def sameM : Nat × List V × TypeId × Nat → Option (Nat × List V × TypeId × Nat) → Bool
  | (n, l, t, s), some (n', l', t', s') => Nat.beq n n' && sameVs l l' && Nat.beq t t' && Nat.beq s s'
  | _, none => false
def joinV (h : H) (rs : List (V × H)) : Option (V × H) :=
  match rs with
  | [] => none
  | r :: _ => match flatV r.1 with
    | true => cond (rs.all fun q => sameV r.1 q.1 && q.2.log.isEmpty) (some (r.1, h)) none
    | false => (match madeL h r with
      | some (n, l, t, s) => cond (rs.all fun q => sameM (n, l, t, s) (madeL h q)) (some (.slice (some (h.nxt, 0)) n (.upto 0 n), h.new (.cells l t (some s)))) none
      | none => none)
section
variable {P : Program} {w0 w w' : World} {e e' : E} {h h' : H}
theorem madeL_some {r : V × H} {n : Nat} {l : List V} {t : TypeId} {s : Nat} (q : madeL h r = some (n, l, t, s)) : ∃ b mm, r.1 = .slice (some (b, 0)) n (.upto 0 mm) ∧ h.nxt ≤ b ∧ r.2.get b = some (.cells l t (some s)) ∧ flatVs l = true ∧ r.2.frz = h.nxt ∧ r.2.log = [] := by
  unfold madeL at q
  split at q
  · rename_i b n' mm hv
    cases hb : (Nat.ble h.nxt b && Nat.beq r.2.frz h.nxt && r.2.log.isEmpty) with
    | false => rw [hb] at q; cases q
    | true =>
      rw [hb] at q
      simp only [cond_true] at q
      simp only [Bool.and_eq_true] at hb
      split at q
      · rename_i l' t' s' hg
        cases hf : flatVs l' with
        | false => rw [hf] at q; cases q
        | true => rw [hf] at q; cases q; exact ⟨b, mm, hv, Nat.le_of_ble_eq_true hb.1.1, hg, hf, Nat.eq_of_beq_eq_true hb.1.2, List.isEmpty_iff.1 hb.2⟩
      · cases q
  · cases q
theorem joinV_ok (R : Rel w0 e h w) {rs : List (V × H)} {v : V} {h1 : H} (q : joinV h rs = some (v, h1)) {r : V × H} (hr : r ∈ rs) {x : Value} (hle : e.le e') (hx : vrel e' r.1 x) (R' : Rel w e' r.2 w') : ∃ e'', e.le e'' ∧ vrel e'' v x ∧ Rel w0 e'' h1 w' := by
  have L := fun hl : r.2.log = [] => R.later (R'.bel.below fun k hk => by obtain ⟨b, hb, _⟩ := hk; rw [hl] at hb; cases hb)
  unfold joinV at q
  split at q
  · cases q
  · rename_i r0 rest
    split at q
    · rename_i hflat
      cases ha : (r0 :: rest).all fun q => sameV r0.1 q.1 && q.2.log.isEmpty with
      | false => rw [ha] at q; cases q
      | true =>
        rw [ha] at q
        cases q
        have hall := List.all_eq_true.1 ha r hr
        simp only [Bool.and_eq_true] at hall
        have := sameV_eq _ _ hall.1
        rw [← this] at hx
        exact ⟨e, E.le.refl e, flatV_rel _ _ hflat hx, L (List.isEmpty_iff.1 hall.2)⟩
    · split at q
      · rename_i n l t s hm
        cases ha : (r0 :: rest).all fun q => sameM (n, l, t, s) (madeL h q) with
        | false => rw [ha] at q; cases q
        | true =>
          rw [ha] at q
          cases q
          have h2 := List.all_eq_true.1 ha r hr
          cases hmr : madeL h r with
          | none => rw [hmr] at h2; cases h2
          | some p =>
            obtain ⟨n', l', t', s'⟩ := p
            rw [hmr] at h2
            simp only [sameM, Bool.and_eq_true] at h2
            obtain ⟨⟨⟨e1, e2⟩, e3⟩, e4⟩ := h2
            have e1 := Nat.eq_of_beq_eq_true e1
            have e2 := sameVs_eq _ _ e2
            have e3 := Nat.eq_of_beq_eq_true e3
            have e4 := Nat.eq_of_beq_eq_true e4
            subst e1 e2 e3 e4
            obtain ⟨b, mm, hv, hb, hg, hf, hfz, hlog⟩ := madeL_some hmr
            rw [hv] at hx
            simp only [vrel] at hx
            obtain ⟨k, c, hk, hc, ⟨hcm, hsl⟩, rfl⟩ := hx
            obtain ⟨vs, tail, c', g1, g2, g3, g4⟩ := R'.heap b _ k hg hk
            rw [hc] at g3
            cases g3
            have hnew := R'.new b k hk
            have hk0 : w.heap.size ≤ k := (hnew.1 (by rw [hfz]; exact hb)).resolve_right (fun hk => by obtain ⟨b, hb, _⟩ := hk; rw [hlog] at hb; cases hb)
            have hle2 : e.le (e.bind h.nxt (some k) (some c)) := E.bind_le R.rn R.kn R.ll
            refine ⟨e.bind h.nxt (some k) (some c), hle2, ?_, ?_⟩
            · simp only [vrel]
              exact ⟨k, c, E.bind_ρ _ _ _ _, E.bind_κ _ _ _ _, ⟨by omega, Nat.le_refl _⟩, rfl⟩
            · rw [← E.up_bind (some k) (some c) R.lim]
              refine ((L hlog).add (.cells l t (some s))).bind (row := none) (by rw [H.get_new]; exact if_pos rfl) R.rn R.kn (Nat.lt_succ_self _) ⟨rfl, rfl, rfl, Nat.le_refl _, fun _ _ _ => rfl⟩ (fun j e1 => by cases e1) ?_ ?_ hnew.2 ?_
              · intro b' o' hb' hk'
                have := (R.new b' k hk').2
                omega
              · exact .inl (Nat.le_trans R.bel.size hk0)
              · exact ⟨vs, tail, c, g1, flatVs_rel l vs hf g2, E.bind_κ _ _ _ _, g4⟩
      · cases q
end
/-- A function, run all ways. -/
def joinS (P : Program) (ext : ExtT) (spec : SpecT) (draw : CallT → DrawT) (d : Nat) (g : FuncId) : H → List V → Option (V × H) := fun h args => match evCallN P ext spec draw d (.fn g args) h.frozen with
  | some rs => joinV h rs
  | none => none
def joinSpec (P : Program) (ext : ExtT) (spec : SpecT) (draw : CallT → DrawT) (d : Nat) (l : List FuncId) : SpecT := fun g => cond (l.any (Nat.beq g)) (some (joinS P ext spec draw d g)) none
/-- All of these functions have a body. -/
def bodiesB (P : Program) (l : List FuncId) : Bool := l.all fun g => match P.funcs[g]? with
  | some fn => !fn.body.isNone
  | none => false
theorem joinSpec_ok {P : Program} {ext : ExtT} {spec : SpecT} {draw : CallT → DrawT} {d : Nat} {l : List FuncId} (hnm : ∀ (g : FuncId) (fn : Func), P.funcs[g]? = some fn → (fn.name == "runtime.NumGoroutine") = false) (hex : ExtOk P ext) (hsp : SpecOk P spec) (hdr : ∀ call, CallOk P call → DrawOk P call (draw call))
    (hb : bodiesB P l = true) : SpecOk P (joinSpec P ext spec draw d l) := by
  intro g f hf
  unfold joinSpec at hf
  cases ha : l.any (Nat.beq g) with
  | false => rw [ha] at hf; cases hf
  | true =>
    rw [ha] at hf
    cases hf
    obtain ⟨g', hg', hgg⟩ := List.any_eq_true.1 ha
    have := Nat.eq_of_beq_eq_true hgg
    subst this
    have hbody := List.all_eq_true.1 hb g hg'
    refine ⟨?_, fun w0 e h w args v h' q R xs hv n => ?_⟩
    · split at hbody
      · rename_i fn hfn
        exact ⟨fn, hfn, by simpa using hbody⟩
      · cases hbody
    · unfold joinS at q
      split at q
      · rename_i rs hrs
        have hc := evCallN_ok hnm hex hsp hdr d
        refine ((hc.fn hrs R.frozen xs hv).2 n).mono ?_
        rintro en w' ⟨r, hr, e', x, rfl, h1, h2, h3⟩
        obtain ⟨e'', t1, t2, t3⟩ := joinV_ok R q hr h1 h2 h3
        exact ⟨e'', x, rfl, t1, t2, t3⟩
      · cases q
end Go.Proofs.YtjngkcnanhnopaaGreatDoor.Ev

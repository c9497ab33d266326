import Derived.Test.YtjngkcnanhnopaaGreatDoorKk
/-! The evaluator: one operation, calls among them. -/
namespace Go.Proofs.YtjngkcnanhnopaaGreatDoor.Ev
open Go Go.RowKit
set_option linter.unusedVariables false
set_option linter.unusedSimpArgs false

inductive Task where
  | fn (f : FuncId) (args : List V)
  | call (f : FuncId) (args : List V)
  | round (l : Nat) (args : List V)
abbrev CallT := Task → H → Option (V × H)
/-- What a call's ending is. -/
def CallPost (w0 : World) (e : E) (v : V) (h' : H) (en : Ending) (w' : World) : Prop := ∃ e' x, en = .returned x ∧ e.le e' ∧ vrel e' v x ∧ Rel w0 e' h' w'
/-- What calls are asked. -/
structure CallOk (P : Program) (call : CallT) : Prop where
  fn : ∀ {w0 e h w g args v h'}, call (.fn g args) h = some (v, h') → Rel w0 e h w → ∀ xs, vrels e args xs → (∃ fn, P.funcs[g]? = some fn ∧ fn.body.isNone = false ∧ (fn.name == "runtime.NumGoroutine") = false) ∧ ∀ n, CallsIn Fence.wide n P g ⟨xs⟩ w (CallPost w0 e v h')
  run : ∀ {w0 e h w g args v h'}, call (.call g args) h = some (v, h') → Rel w0 e h w → ∀ xs, vrels e args xs → ((∃ fn, P.funcs[g]? = some fn ∧ fn.body.isNone = false ∧ (fn.name == "runtime.NumGoroutine") = false) ∧ ∀ n, CallsIn Fence.wide n P g ⟨xs⟩ w (CallPost w0 e v h')) ∨
    ∃ e' x w', (callFunc g ⟨xs⟩).run P w = .ok (.value x) w' ∧ e.le e' ∧ vrel e' v x ∧ Rel w0 e' h' w'
  round : ∀ {w0 e h w l args v h' k}, call (.round l args) h = some (v, h') → Rel w0 e h w → e.ρ l = some k → ∀ xs, vrels e args xs →
    ∃ fn tmps assign body, (Instr.yield k ⟨xs⟩).run P w = .ok (.round k fn tmps assign body) w ∧ ∀ n, RoundIn Fence.wide n P k fn tmps assign body w (CallPost w0 e v h')
def callV (call : CallT) (h : H) (f : V) (args : List V) : Option (V × H) :=
  match f with
  | .func (.func g) first cap => call (.call g (first ++ args ++ cap)) h
  | .yield l => call (.round l args) h
  | _ => none
def V.ok : V → Bool
  | .junk => false
  | _ => true
def clearV (P : Program) (h : H) (t : TypeId) (x : V) : Option H :=
  match P.underlying t, x with
  | some (.slice _), .slice none _ (.exact _) => some h
  | some (.slice el), .slice (some p) n _ => cond (Nat.beq n 0) (some h) (match zer P el with
    | some z => storeN h p (List.replicate n z.cells).flatten
    | none => none)
  | _, _ => none
/-- The method of that name of a type, that asks nothing of its receiver. -/
def methV (P : Program) (t : TypeId) (name : String) : Option FuncId :=
  match P.info? t with
  | some i => (match i.methods.find? (fun m => m.name == name) with
    | some m => (match m.path.toList, m.func, P.underlying t with
      | [], some (f, true), some (.pointer _) => some f
      | [], some (f, false), some (.pointer _) => none
      | [], some (f, false), some _ => some f
      | _, _, _ => none)
    | none => none)
  | none => none
def effOp (P : Program) (call : CallT) (h : H) (tm : Tr V) (op : Op) : Option (V × H) :=
  match op with
  | .store t a x => (match evO tm a, evO tm x with
    | some (.ptr (some p)), some v => (match sz P t with
      | some n => cond (v.ok && Nat.beq v.cells.length n) (match storeN h p v.cells with
        | some h' => some (.tuple [], h')
        | none => none) none
      | none => none)
    | _, _ => none)
  | .mapUpdate t m k x => (match evO tm m, evO tm k, evO tm x with
    | some m, some k, some x => (match mapPut P h t m k x with
      | some h' => some (.tuple [], h')
      | none => none)
    | _, _, _ => none)
  | .insert t m k x => (match evO tm m, evO tm k, evO tm x with
    | some m, some k, some x => (match mapPut P h t m k x with
      | some h' => some (.tuple [], h')
      | none => none)
    | _, _, _ => none)
  | .mapEntry t m k => (match evO tm m, evO tm k with
    | some m, some k => mapEnt P h t m k
    | _, _ => none)
  | .entryStore _ m s x => (match evO tm m, evO tm s, evO tm x with
    | some m, some s, some x => (match entPut h m s x with
      | some h' => some (.tuple [], h')
      | none => none)
    | _, _, _ => none)
  | .next it isS => (match isS, evO tm it with
    | false, some v => nextV h v
    | _, _ => none)
  | .call c => (match c.callee, evL tm c.args.toList with
    | .builtin .append, some [s, x] => appV P h c.argTypes s x
    | .builtin .delete, some [m, k] => (match c.argTypes[0]? with
      | some t => (match mapDel P h t m k with
        | some h' => some (.tuple [], h')
        | none => none)
      | none => none)
    | .builtin .clear, some [x] => (match c.argTypes[0]? with
      | some t => (match clearV P h t x with
        | some h' => some (.tuple [], h')
        | none => none)
      | none => none)
    | .value f, some args => (match evO tm f with
      | some fv => callV call h fv args
      | none => none)
    | .invoke r name, some args => (match evO tm r with
      | some (.iface t v) => (match methV P t name with
        | some f => call (.call f (v :: args)) h
        | none => none)
      | _ => none)
    | _, _ => none)
  | _ => none
inductive Cls where
  | pure
  | alloc
  | eff
def cls : Op → Cls
  | .alloc _ => .alloc
  | .box .. => .alloc
  | .buildSlice .. => .alloc
  | .makeMap .. => .alloc
  | .makeSlice .. => .alloc
  | .range .. => .alloc
  | .store .. => .eff
  | .mapUpdate .. => .eff
  | .insert .. => .eff
  | .mapEntry .. => .eff
  | .entryStore .. => .eff
  | .next .. => .eff
  | .call c => (match c.callee with
    | .builtin .len => .pure
    | .builtin .cap => .pure
    | .builtin .min => .pure
    | .builtin .max => .pure
    | _ => .eff)
  | _ => .pure
def evOp (P : Program) (call : CallT) (h : H) (tm : Tr V) (op : Op) : Option (V × H) :=
  match cls op with
  | .pure => (match pureOp P h tm op with
    | some v => some (v, h)
    | none => none)
  | .alloc => (match allocOp P h tm op with
    | some (ob, mk) => some (mk h.nxt, h.new ob)
    | none => none)
  | .eff => effOp P call h tm op
def evDef : Op → Bool
  | .defer _ => false
  | _ => true
section
variable {P : Program} {w0 w : World} {e : E} {h : H} {tm : Tr V} {a : Act}
theorem args_rel {l : List Operand} {vs : List V} (hop : ∀ x ∈ l, ∀ v, evO tm x = some v → vrel e v (a.eval x)) (q : evL tm l = some vs) : vrels e vs (l.map a.eval) := evL_rel hop q
theorem run_clearV (R : Rel w0 e h w) {t ty : TypeId} {ats : Array TypeId} {x : V} {x' : Value} {h' : H} (ha : ats[0]? = some t) (hx : vrel e x x') (q : clearV P h t x = some h') : ∃ w', (Builtin.clear_ ats ty #[x']).run P w = .ok (.tuple #[]) w' ∧ Rel w0 e h' w' := by
  unfold clearV at q
  split at q
  · rename_i hu
    cases q
    obtain ⟨a', c', rfl, ha'⟩ := slice_inv hx
    cases a' with
    | some a => simp [isNilS] at ha'
    | none => exact ⟨w, by simp [Builtin.clear_, ha, run_underlying hu], R⟩
  · rename_i el p n c hu
    have htl : ∀ tq, c = .tail tq → n = 0 ∧ ∃ a c', x' = .slice (some a) 0 c' := fun tq ht => by
      subst ht
      obtain ⟨b, o⟩ := p
      simp only [vrel] at hx
      obtain ⟨h0, k, c, a, _, _, _, _, h2⟩ := hx
      exact ⟨h0, a, _, h2⟩
    by_cases hisT : ∃ tq, c = .tail tq
    · obtain ⟨tq, ht⟩ := hisT
      obtain ⟨rfl, a, c', rfl⟩ := htl tq ht
      cases q
      exact ⟨w, by simp [Builtin.clear_, ha, run_underlying hu], R⟩
    have hx' : ∃ k c', e.ρ p.1 = some k ∧ x' = .slice (some ⟨k, p.2, none⟩) n c' := by
      obtain ⟨b, o⟩ := p
      cases c with
      | tail tq => exact absurd ⟨tq, rfl⟩ hisT
      | exact c => simp only [vrel] at hx; obtain ⟨k, h1, h2⟩ := hx; exact ⟨k, _, h1, h2⟩
      | upto c m => simp only [vrel] at hx; obtain ⟨k, c, h1, _, _, h2⟩ := hx; exact ⟨k, _, h1, h2⟩
    obtain ⟨k, c', hk, rfl⟩ := hx'
    cases hn : Nat.beq n 0 with
    | true =>
      rw [hn] at q
      cases q
      have := Nat.eq_of_beq_eq_true hn
      subst this
      exact ⟨w, by simp [Builtin.clear_, ha, run_underlying hu], R⟩
    | false =>
      rw [hn] at q
      simp only [cond_false] at q
      obtain ⟨n', rfl⟩ : ∃ n', n = n' + 1 := ⟨n - 1, by cases n with | zero => simp at hn | succ n => rfl⟩
      split at q
      · rename_i z hz
        obtain ⟨z', r1, r2, r3⟩ := run_zer (w := w) hz
        have rz := vrel_cells (toV_junk 12 z' z r2) (r3 e)
        have hzc := zero_cells (n' + 1) z'.cells
        obtain ⟨w', t1, t2⟩ := run_storeN (P := P) (a := p) R hk (vrels_flat (n := n' + 1) rz) q
        refine ⟨w', ?_, t2⟩
        have hzz : (Builtin.zeroCells z'.cells (n' + 1)).toList = (List.replicate (n' + 1) z'.cells.toList).flatten := hzc
        simp [Builtin.clear_, ha, run_underlying hu, r1, hzz, t1]
      · cases q
  · cases q
theorem run_methV {t : TypeId} {name : String} {f : FuncId} (q : methV P t name = some f) (x : Value) : (method (P.types.size + Made.depth) t x name).run P w = .ok (f, x) w := by
  obtain ⟨n, hn⟩ : ∃ n, P.types.size + Made.depth = n + 1 := ⟨P.types.size + (Made.depth - 1), by have : 0 < Made.depth := by decide
                                                                                                  omega⟩
  rw [hn]
  unfold methV at q
  split at q
  · rename_i i hi
    split at q
    · rename_i m hm
      split at q
      · rename_i f' el hp hf hu
        cases q
        simp [method, typeInfo, run_program, hi, hm, hp, hf, follow, receiverAt, run_underlying hu, Place.get]
      · cases q
      · rename_i f' d hnp hp hf hu
        cases q
        cases d <;> first
          | (exact absurd rfl (hnp _))
          | (simp [method, typeInfo, run_program, hi, hm, hp, hf, follow, receiverAt, run_underlying hu, Place.get])
      · cases q
    · cases q
  · cases q
/-- The fences that the evaluator goes under. -/
def Open (F : Fence) : Prop := F = Fence.wide ∨ ∃ l, F = Fence.wide.inRound l
theorem Open.fn {F : Fence} (hF : Open F) (f : FuncId) : F.fn f := by rcases hF with rfl | ⟨l, rfl⟩ <;> trivial
theorem Open.depth {F : Fence} (hF : Open F) : F.depth = none := by rcases hF with rfl | ⟨l, rfl⟩ <;> rfl
theorem Open.calls {F : Fence} (hF : Open F) {n : Nat} {f : FuncId} {args : Array Value} {R : Ending → World → Prop} (h : CallsIn Fence.wide n P f args w R) : CallsIn F n P f args w R := by
  rcases hF with rfl | ⟨l, rfl⟩
  · exact h
  · exact h
theorem Open.rounds {F : Fence} (hF : Open F) {n l : Nat} {f : FuncId} {tmps : Array Value} {as body : Code} {R : Ending → World → Prop} (h : RoundIn Fence.wide n P l f tmps as body w R) : RoundIn F n P l f tmps as body w R := by
  rcases hF with rfl | ⟨l, rfl⟩
  · exact h
  · exact h
/-- One operation that is wanted. -/
theorem wp_evOp {F : Fence} (hF : Open F) {n : Nat} {call : CallT} (hc : CallOk P call) (R : Rel w0 e h w) {o : Oper} {v : V} {h' : H} {K : Act → World → Prop} {Q : Exit → Act → World → Prop} (hop : ∀ x ∈ o.op.operands.toList, ∀ v, evO tm x = some v → vrel e v (a.eval x))
    (q : evOp P call h tm o.op = some (v, h')) (hK : ∀ e' x w', e.le e' → vrel e' v x → Rel w0 e' h' w' → K (a.put o.dst x) w') : o.wpIn F n P a w K Q := by
  have hdef : ∀ c, o.op ≠ .defer c := by
    intro c hd
    rw [hd] at q
    simp [evOp, cls, pureOp] at q
  have plain : ∀ (x : Value) (w' : World) (e' : E), (execOp a.eval o).run P w = .ok (.value x) w' → e.le e' → vrel e' v x → Rel w0 e' h' w' → o.uponIn F n P a K Q ((o.semAt F.round a.eval).run P w) := by
    intro x w' e' h1 h2 h3 h4
    rw [Oper.semAt_eq _ _ _ hdef, h1]
    exact hK e' x w' h2 h3 h4
  have skip : ∀ (w' : World) (e' : E), (execOp a.eval o).run P w = .ok .skip w' → v = .tuple [] → e.le e' → Rel w0 e' h' w' → o.uponIn F n P a K Q ((o.semAt F.round a.eval).run P w) := by
    intro w' e' h1 hv h2 h4
    rw [Oper.semAt_eq _ _ _ hdef, h1]
    exact hK e' undef w' h2 (by rw [hv]; simp only [vrel]; exact ⟨[], rfl, vrels_nil.2 rfl⟩) h4
  refine ⟨fun f _ => hF.fn f, ?_⟩
  unfold evOp at q
  split at q
  · split at q
    · rename_i v' hv
      cases q
      obtain ⟨x, h1, h2⟩ := run_pureOp (P := P) R hop hv
      exact plain x w e h1 (E.le.refl e) h2 R
    · cases q
  · split at q
    · rename_i ob mk hv
      cases q
      obtain ⟨co, x, h1, h2, h3⟩ := run_allocOp (P := P) R hop hv
      have hle : e.le (e.bind h.nxt (some w.heap.size) none) := E.bind_le R.rn R.kn R.ll
      refine plain x (w.alloc co) _ h1 hle (h2 _ _ hle.sub (E.bind_ρ _ _ _ _)) (R.made (World.grownBy_alloc w co none) (Nat.le_refl _) (by rw [World.size_alloc]; exact Nat.lt_succ_self _) ?_)
      rw [World.alloc_heap_new]
      exact h3 _ _ hle.sub
    · cases q
  · rename_i hcls
    clear hcls
    obtain ⟨dst, op, ty, pos, aft, gd⟩ := o
    cases op
    all_goals try (simp only [effOp] at q; cases q; done)
    all_goals simp only [effOp] at q
    case store t x y =>
      split at q
      · rename_i p u hx hy
        obtain ⟨b, off⟩ := p
        have hp := hop x (by simp [Op.operands]) _ hx
        have hu := hop y (by simp [Op.operands]) _ hy
        simp only [vrel] at hp
        obtain ⟨k, hk, hp⟩ := hp
        split at q
        · rename_i sn hs
          cases hl : (u.ok && Nat.beq u.cells.length sn) with
          | false => rw [hl] at q; cases q
          | true =>
            rw [hl] at q
            simp only [cond_true] at q
            obtain ⟨hj, hl⟩ := (Bool.and_eq_true _ _).mp hl
            have hl := Nat.eq_of_beq_eq_true hl
            split at q
            · rename_i h2 hst
              cases q
              have hcl := vrel_cells (fun e1 => by rw [e1] at hj; cases hj) hu
              obtain ⟨w', r1, r2⟩ := run_storeN (P := P) (a := (b, off)) R hk hcl hst
              refine skip w' e ?_ rfl (E.le.refl e) r2
              have hsz : (a.eval y).cells.size = sn := by
                have := vrels_len hcl
                simpa [hl] using this
              simp [execOp, Instr.storeAt, Instr.sureAddr, hp, storeVar, run_sz hs, hsz, r1]
            · cases q
        · cases q
      · cases q
    case mapUpdate t m k x =>
      split at q
      · rename_i u1 u2 u3 h1 h2 h3
        split at q
        · rename_i h4 hp
          cases q
          obtain ⟨e', w', r1, r2, r3⟩ := run_mapPut R (hop m (by simp [Op.operands]) _ h1) (hop k (by simp [Op.operands]) _ h2) (hop x (by simp [Op.operands]) _ h3) hp
          exact skip w' e' (by simp [execOp, r1]) rfl r2 r3
        · cases q
      · cases q
    case insert t m k x =>
      split at q
      · rename_i u1 u2 u3 h1 h2 h3
        split at q
        · rename_i h4 hp
          cases q
          obtain ⟨e', w', r1, r2, r3⟩ := run_mapPut R (hop m (by simp [Op.operands]) _ h1) (hop k (by simp [Op.operands]) _ h2) (hop x (by simp [Op.operands]) _ h3) hp
          exact skip w' e' (by simp [execOp, r1]) rfl r2 r3
        · cases q
      · cases q
    case mapEntry t m k =>
      split at q
      · rename_i u1 u2 h1 h2
        obtain ⟨e', w', z, r1, r2, r3, r4⟩ := run_mapEnt R (hop m (by simp [Op.operands]) _ h1) (hop k (by simp [Op.operands]) _ h2) q
        exact plain z w' e' (by simp [execOp, r1]) r2 r3 r4
      · cases q
    case entryStore t m s x =>
      split at q
      · rename_i u1 u2 u3 h1 h2 h3
        split at q
        · rename_i h4 hp
          cases q
          obtain ⟨w', r1, r3⟩ := run_entPut (P := P) (t := t) R (hop m (by simp [Op.operands]) _ h1) (hop s (by simp [Op.operands]) _ h2) (hop x (by simp [Op.operands]) _ h3) hp
          exact skip w' e (by simp [execOp, r1]) rfl (E.le.refl e) r3
        · cases q
      · cases q
    case next it isS =>
      split at q
      · rename_i u1 h1
        obtain ⟨w', z, r1, r2, r3⟩ := run_nextV (P := P) R ty (hop it (by simp [Op.operands]) _ h1) q
        exact plain z w' e (by simp [execOp, r1]) (E.le.refl e) r2 r3
      · cases q
    case call c =>
      split at q
      · rename_i s x hcl hl
        have r1 := evL_rel (e := e) (a := a) (l := c.args.toList) (fun y hy => hop y (by simp [Op.operands, Call.operands, hcl]; simpa using hy)) hl
        obtain ⟨s', r, h1, h2, h3⟩ := vrels_cons.1 r1
        obtain ⟨x', r', rfl, h4, h5⟩ := vrels_cons.1 h3
        obtain rfl := vrels_nil.1 h5
        have hargs : c.args.map a.eval = #[s', x'] := by
          apply Array.ext'
          simpa using h1
        obtain ⟨e', w', z, p1, p2, p3, p4⟩ := run_appV (ty := ty) R h2 h4 q
        exact plain z w' e' (by simp [execOp, resolve, hcl, invoke, builtin, hargs, p1]) p2 p3 p4
      · rename_i m k hcl hl
        have r1 := evL_rel (e := e) (a := a) (l := c.args.toList) (fun y hy => hop y (by simp [Op.operands, Call.operands, hcl]; simpa using hy)) hl
        obtain ⟨m', r, h1, h2, h3⟩ := vrels_cons.1 r1
        obtain ⟨k', r', rfl, h4, h5⟩ := vrels_cons.1 h3
        obtain rfl := vrels_nil.1 h5
        have hargs : c.args.map a.eval = #[m', k'] := by
          apply Array.ext'
          simpa using h1
        split at q
        · rename_i t ht
          split at q
          · rename_i h6 hp
            cases q
            obtain ⟨w', p1, p2⟩ := run_mapDel (ty := ty) R ht h2 h4 hp
            refine plain (.tuple #[]) w' e (by simp [execOp, resolve, hcl, invoke, builtin, hargs, p1]) (E.le.refl e) (by simp only [vrel]; exact ⟨[], rfl, vrels_nil.2 rfl⟩) p2
          · cases q
        · cases q
      · rename_i x hcl hl
        have r1 := evL_rel (e := e) (a := a) (l := c.args.toList) (fun y hy => hop y (by simp [Op.operands, Call.operands, hcl]; simpa using hy)) hl
        obtain ⟨x', r, h1, h2, h3⟩ := vrels_cons.1 r1
        obtain rfl := vrels_nil.1 h3
        have hargs : c.args.map a.eval = #[x'] := by
          apply Array.ext'
          simpa using h1
        split at q
        · rename_i t ht
          split at q
          · rename_i h6 hp
            cases q
            obtain ⟨w', p1, p2⟩ := run_clearV (ty := ty) R ht h2 hp
            refine plain (.tuple #[]) w' e (by simp [execOp, resolve, hcl, invoke, builtin, hargs, p1]) (E.le.refl e) (by simp only [vrel]; exact ⟨[], rfl, vrels_nil.2 rfl⟩) p2
          · cases q
        · cases q
      · rename_i f args hcl hl
        have hopf := hop f (by simp [Op.operands, Call.operands, hcl])
        have r1 := evL_rel (e := e) (a := a) (l := c.args.toList) (fun y hy => hop y (by simp [Op.operands, Call.operands, hcl]; exact .inr (by simpa using hy))) hl
        split at q
        · rename_i fv hf
          have hfv := hopf _ hf
          unfold callV at q
          split at q
          · rename_i g first cap
            simp only [vrel] at hfv
            obtain ⟨fs, cs, hfe, hfs, hcs⟩ := hfv
            have hex : (execOp a.eval ({ dst := dst, op := .call c, type := ty, pos := pos, after := aft, guard := gd } : Oper)).run P w = (callFunc g ⟨fs ++ c.args.toList.map a.eval ++ cs⟩).run P w := by
              simp [execOp, resolve, hcl, hfe, Deferred.ofValue, invoke]
              congr 2
              apply Array.ext'
              simp
            rcases hc.run q R (fs ++ c.args.toList.map a.eval ++ cs) (vrels_append (vrels_append hfs r1) hcs) with ⟨⟨fn, g1, g2, g3⟩, g4⟩ | ⟨e', x, w', g1, g0, g2, g3⟩
            · have hrun : (execOp a.eval ({ dst := dst, op := .call c, type := ty, pos := pos, after := aft, guard := gd } : Oper)).run P w = .ok (.enter g ⟨fs ++ c.args.toList.map a.eval ++ cs⟩) w := by
                have g3' : ¬ fn.name = "runtime.NumGoroutine" := by simpa using g3
                have g2' : ¬ fn.body = none := fun hh => by rw [hh] at g2; cases g2
                rw [hex]
                simp [callFunc, g1, g2', g3']
              rw [Oper.semAt_eq _ _ _ hdef, hrun, Oper.uponIn_enter]
              refine ⟨fun hd => ?_, hF.calls ((g4 (n - 1)).mono ?_)⟩
              · rw [hF.depth] at hd; cases hd
              · rintro en w' ⟨e', x, rfl, p2, p3, p4⟩
                exact hK e' x w' p2 p3 p4
            · exact plain x w' e' (hex.trans g1) g0 g2 g3
          · rename_i l
            simp only [vrel] at hfv
            obtain ⟨k, hk, hfe⟩ := hfv
            obtain ⟨fn, tmps, as, body, g1, g2⟩ := hc.round q R hk _ r1
            have hrun : (execOp a.eval ({ dst := dst, op := .call c, type := ty, pos := pos, after := aft, guard := gd } : Oper)).run P w = .ok (.round k fn tmps as body) w := by
              have hargs : c.args.map a.eval = ⟨c.args.toList.map a.eval⟩ := by
                apply Array.ext'
                simp
              rw [← hargs] at g1
              simp [execOp, resolve, hcl, hfe, Deferred.ofValue, invoke, g1]
            rw [Oper.semAt_eq _ _ _ hdef, hrun, Oper.uponIn_round]
            refine ⟨fun hd => ?_, hF.rounds ((g2 (n - 1)).mono ?_)⟩
            · rw [hF.depth] at hd; cases hd
            · rintro en w' ⟨e', x, rfl, p2, p3, p4⟩
              exact hK e' x w' p2 p3 p4
          · cases q
        · cases q
      · rename_i r name args hcl hl
        have hopr := hop r (by simp [Op.operands, Call.operands, hcl])
        have r1 := evL_rel (e := e) (a := a) (l := c.args.toList) (fun y hy => hop y (by simp [Op.operands, Call.operands, hcl]; exact .inr (by simpa using hy))) hl
        split at q
        · rename_i t u hr
          have h0 := hopr _ hr
          simp only [vrel] at h0
          obtain ⟨x, hx, hux⟩ := h0
          split at q
          · rename_i g hm
            have hex : (execOp a.eval ({ dst := dst, op := .call c, type := ty, pos := pos, after := aft, guard := gd } : Oper)).run P w = (callFunc g ⟨x :: c.args.toList.map a.eval⟩).run P w := by
              have he2 : (#[x] ++ c.args.map a.eval : Array Value) = ⟨x :: c.args.toList.map a.eval⟩ := by
                apply Array.ext'
                simp
              have hz : (#[Value.iface t x] ++ c.args.map a.eval)[0]? = some (.iface t x) := by
                rw [Array.getElem?_append_left (by simp)]
                rfl
              have hx0 : (c.args.map a.eval).extract 0 c.args.size = c.args.map a.eval := by
                apply Array.ext'
                simp only [Array.toList_extract, Array.toList_map, List.extract_eq_take_drop, List.drop_zero, Nat.sub_zero]
                exact List.take_of_length_le (by simp)
              simp [execOp, resolve, hcl, hx, invoke, callMethod]
              rw [hz]
              simp [run_methV hm, run_program, hx0, he2]
            rcases hc.run q R (x :: c.args.toList.map a.eval) (vrels_cons.2 ⟨x, _, rfl, hux, r1⟩) with ⟨⟨fn, g1, g2, g3⟩, g4⟩ | ⟨e', y, w', g1, g0, g2, g3⟩
            · have hrun : (execOp a.eval ({ dst := dst, op := .call c, type := ty, pos := pos, after := aft, guard := gd } : Oper)).run P w = .ok (.enter g ⟨x :: c.args.toList.map a.eval⟩) w := by
                have g3' : ¬ fn.name = "runtime.NumGoroutine" := by simpa using g3
                have g2' : ¬ fn.body = none := fun hh => by rw [hh] at g2; cases g2
                rw [hex]
                simp [callFunc, g1, g2', g3']
              rw [Oper.semAt_eq _ _ _ hdef, hrun, Oper.uponIn_enter]
              refine ⟨fun hd => ?_, hF.calls ((g4 (n - 1)).mono ?_)⟩
              · rw [hF.depth] at hd; cases hd
              · rintro en w' ⟨e', y, rfl, p2, p3, p4⟩
                exact hK e' y w' p2 p3 p4
            · exact plain y w' e' (hex.trans g1) g0 g2 g3
          · cases q
        · cases q
      · cases q
end
end Go.Proofs.YtjngkcnanhnopaaGreatDoor.Ev

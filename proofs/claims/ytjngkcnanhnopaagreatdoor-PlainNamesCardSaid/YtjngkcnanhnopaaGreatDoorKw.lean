import Derived.Test.YtjngkcnanhnopaaGreatDoorKv
/-! The evaluator: the region that draws, by its laid order, is sound. -/
namespace Go.Proofs.YtjngkcnanhnopaaGreatDoor.Ev
open Go Go.RowKit
set_option linter.unusedVariables false
set_option linter.unusedSimpArgs false

def stepF (P : Program) (call : CallT) (ops : Array Oper) (n : Nat) : List SI → List PI → St → Option St
  | [], _, s => some s
  | .val it :: l, pend, s => (match freeS P ops n s it with
    | some (s', .val v) => stepF P call ops n l (cond (memB it.o.op) (⟨it.i, it.o, .val v⟩ :: pend) pend) s'
    | some (s', .skip) => stepF P call ops n l pend s'
    | _ => none)
  | .new it :: l, pend, s => (match freeS P ops n s it with
    | some (s', .new b ob v) => cond ((⟨it.i, it.o, .new b ob v⟩ :: pend).all fun p => !(memB p.o.op) || chk P ops n s' p) (stepF P call ops n l (⟨it.i, it.o, .new b ob v⟩ :: pend) s') none
    | some (s', .skip) => stepF P call ops n l pend s'
    | _ => none)
  | .eff it :: l, pend, s => (match step1 P call ops n it.o s with
    | some s' => cond ((pend.filter fun p => !(it.m.testBit p.i)).all (chk P ops n s')) (stepF P call ops n l (pend.filter fun p => !(it.m.testBit p.i)) s') none
    | none => none)
section
variable {P : Program} {ops : Array Oper} {n m : Nat} {w0 w : World} {e0 e : E} {dfs : List Deferred} {listed : Array Bool} {done : Nat} {pend : List PI} {s : St} {a : Act} {F : Fence} {call : CallT} {Q : Exit → Act → World → Prop}
theorem freeS_inv {s' : St} {it : It} {k : PK} (q : freeS P ops n s it = some (s', k)) :
    (wantV ops s.tm it.o = some false ∧ k = .skip ∧ ∃ tm, putO n s.tm it.o.dst (.tuple []) = some tm ∧ s' = ⟨tm, s.h⟩) ∨
    (wantV ops s.tm it.o = some true ∧ cls it.o.op = .pure ∧ ∃ v tm, pureOp P s.h s.tm it.o.op = some v ∧ k = .val v ∧ putO n s.tm it.o.dst v = some tm ∧ s' = ⟨tm, s.h⟩) ∨
    (wantV ops s.tm it.o = some true ∧ cls it.o.op = .alloc ∧ ∃ ob mk tm, allocOp P s.h s.tm it.o.op = some (ob, mk) ∧ k = .new s.h.nxt ob (mk s.h.nxt) ∧ putO n s.tm it.o.dst (mk s.h.nxt) = some tm ∧ s' = ⟨tm, s.h.new ob⟩) := by
  unfold freeS at q
  split at q
  · rename_i hw
    split at q
    · rename_i tm hp; cases q; exact .inl ⟨hw, rfl, tm, hp, rfl⟩
    · cases q
  · rename_i hw
    split at q
    · rename_i hc
      split at q
      · rename_i v hv
        split at q
        · rename_i tm hp; cases q; exact .inr (.inl ⟨hw, hc, v, tm, hv, rfl, hp, rfl⟩)
        · cases q
      · cases q
    · rename_i hc
      split at q
      · rename_i ob mk hv
        split at q
        · rename_i tm hp; cases q; exact .inr (.inr ⟨hw, hc, ob, mk, tm, hv, rfl, hp, rfl⟩)
        · cases q
      · cases q
    · cases q
  · cases q
theorem step1_tm {s' : St} {o : Oper} (q : step1 P call ops n o s = some s') : ∀ t, o.dst ≠ some t → s'.tm.get t = s.tm.get t := by
  intro t ht
  unfold step1 at q
  split at q
  · split at q
    · split at q
      · rename_i tm hp
        cases q
        show tm.get t = s.tm.get t
        rw [putO_get hp t, if_neg ht]
      · cases q
    · cases q
  · split at q
    · rename_i tm hp
      cases q
      show tm.get t = s.tm.get t
      rw [putO_get hp t, if_neg ht]
    · cases q
  · cases q
theorem putO_chk {tm tm' : Tr V} {dst : Option Tmp} {v : V} (q : putO n tm dst v = some tm') : (match (generalizing := false) dst with
    | none => true
    | some d => Nat.blt d n && (match tm'.get d with
      | some u => sameV u v
      | none => false)) = true := by
  cases dst with
  | none => rfl
  | some d =>
    have h1 := putO_get q d
    rw [if_pos rfl] at h1
    simp only [h1, sameV_rfl, Bool.and_true]
    exact Nat.le_of_lt_succ (Nat.succ_lt_succ_iff.2 (putO_lt q d rfl)) |> fun h => Nat.ble_eq_true_of_le (putO_lt q d rfl)
theorem sameO_cells (l : List V) (t : TypeId) : sameO (.cells l t none) (.cells l t none) = true := by simp [sameO, sameVs_rfl]
theorem allocOp_same {h : H} {tm : Tr V} {op : Op} {ob : O} {mk : Nat → V} (q : allocOp P h tm op = some (ob, mk)) (hm : memB op = false) : sameO ob ob = true := by
  cases op
  case alloc t =>
    simp only [allocOp] at q
    split at q
    · cases q; exact sameO_cells _ _
    · cases q
  case box t x =>
    simp only [allocOp] at q
    split at q
    · cases q
    · cases q; exact sameO_cells _ _
    · cases q
  case makeMap t r =>
    simp only [allocOp] at q
    split at q
    · cases q; rfl
    · split at q
      · cases q; rfl
      · cases q
  case makeSlice t l c =>
    simp only [allocOp] at q
    split at q
    · split at q
      · rename_i s z i _ _ _
        cases h1 : Nat.blt 0 s with
        | false => rw [h1] at q; cases q
        | true =>
          rw [h1] at q
          cases h2 : Nat.beq z.cells.length s with
          | false => rw [h2] at q; cases q
          | true =>
            rw [h2] at q
            simp only [cond_true] at q
            split at q
            · cases q; exact sameO_cells _ _
            · cases q
      · cases q
    · cases q
  case buildSlice t len ps =>
    simp only [allocOp] at q
    split at q
    · split at q
      · rename_i s z pp _ _ _
        cases h1 : Nat.beq len 0 with
        | true =>
          rw [h1] at q
          simp only [cond_true] at q
          split at q
          · cases q; exact sameO_cells _ _
          · cases q
        | false =>
          rw [h1] at q
          simp only [cond_false] at q
          cases h2 : Nat.ble (len * s) 16777216 with
          | false => rw [h2] at q; cases q
          | true =>
            rw [h2] at q
            simp only [cond_true] at q
            cases h3 : Nat.blt 0 (len * s) with
            | false => rw [h3] at q; cases q
            | true =>
              rw [h3] at q
              simp only [cond_true] at q
              split at q
              · rename_i cs _
                cases h4 : Nat.beq z.cells.length s with
                | false => rw [h4] at q; cases q
                | true => rw [h4] at q; cases q; exact sameO_cells _ _
              · cases q
      · cases q
    · cases q
  case range => cases hm
  all_goals (simp only [allocOp] at q; cases q)
/-- Who came up ahead, and what of it is looked at anew. -/
structure Lk (ops : Array Oper) (its : List It) (done : Nat) (fr : List It) (pg pd : List PI) : Prop where
  a : ∀ p ∈ pg, ∃ it ∈ fr, it.i = p.i ∧ it.o = p.o
  b : ∀ p ∈ pg, stableK p = true ∨ p ∈ pd
  c : ∀ it ∈ fr, it ∈ its ∧ ∀ j, it.m.testBit j = true → done.testBit j = true
theorem ssa_dst {its : List It} (hssa : ssaB ops its = true) {p q : It} (hp : p ∈ its) (hq : q ∈ its) (hne : p.i ≠ q.i) (hx : (isEff p.o.op && p.o.guard.isNone) = false) : ∀ t, q.o.dst = some t → p.o.dst ≠ some t := by
  intro t ht hpt
  have h1 := List.all_eq_true.1 hssa p hp
  rw [hpt, hx] at h1
  simp only [Bool.false_or] at h1
  have h2 := List.all_eq_true.1 h1 q hq
  rw [Bool.and_eq_true] at h2
  have h3 := h2.1
  rw [ht] at h3
  have hb : Nat.beq p.i q.i = false := by cases hh : Nat.beq p.i q.i with | false => rfl | true => exact absurd (Nat.eq_of_beq_eq_true hh) hne
  rw [hb] at h3
  simp at h3
theorem ssa_look {its : List It} (hssa : ssaB ops its = true) {p q : It} (hp : p ∈ its) (hq : q ∈ its) (hx : (isEff p.o.op && p.o.guard.isNone) = false) {d : Nat} (hd : p.o.dst = some d) (hl : d ∈ q.o.looksAt ops) : q.m.testBit p.i = true := by
  have h1 := List.all_eq_true.1 hssa p hp
  rw [hd, hx] at h1
  simp only [Bool.false_or] at h1
  have h2 := List.all_eq_true.1 h1 q hq
  rw [Bool.and_eq_true] at h2
  have h3 := h2.2
  have hc : (q.o.looksAt ops).contains d = true := by simpa using hl
  rw [hc] at h3
  simpa using h3
theorem mready_bit {it : It} {done : Nat} (h : mready it done = true) : ∀ j, it.m.testBit j = true → done.testBit j = true := by
  intro j hj
  have := Nat.eq_of_beq_eq_true h
  rw [← this, Nat.testBit_and] at hj
  simp only [Bool.and_eq_true] at hj
  exact hj.2
theorem drawFM (hF : Open F) (hcall : CallOk P call) (hssa : ssaB ops (itemsGo 0 ops.toList []) = true) (hlow : lowB (itemsGo 0 ops.toList []) = true) {s' : St}
    (hQ : ∀ e' a' w', e0.le e' → SRel w0 e' n s' a' w' → a'.defers = dfs → Q .normal a' w') :
    ∀ (l : List SI) (done : Nat) (fr : List It) (pg pd : List PI) (s : St) (fc : Nat) (listed : Array Bool) (e : E) (a : Act) (w : World), Sched ops (itemsGo 0 ops.toList []) done fr l → Lk ops (itemsGo 0 ops.toList []) done fr pg pd →
      stepF P call ops n l pd s = some s' → Inv P ops n w0 e0 dfs listed done pg s e a w → cnt (List.range ops.size) listed ≤ fc → wpAnyIn F m P .any ops Q fc listed a w := by
  intro l done fr pg pd s fc listed e a w hs
  induction hs generalizing pg pd s fc listed e a w with
  | nil hall =>
    intro L q I hc
    cases q
    refine sweep hF hssa hlow (fun listed e a w I hall => ?_) (fun fc listed e a w it' I hm' hnd' hr' h0 hpre hc => ?_) fc listed e a w I hc
    · refine hQ e a w I.le ⟨⟨I.tsz, fun t v ht => I.tr t v ht (fun p hp hu => ?_)⟩, I.rel⟩ I.dfs
      have hlt := (Array.getElem?_eq_some_iff.1 (I.mem p hp)).1
      have h1 := hall p.i hlt
      have : p.i < listed.size := by rw [I.size]; exact hlt
      have h2 : listed.getD p.i false = true := by simpa [this] using h1
      rw [hu] at h2
      cases h2
    · rw [hall it' hm'] at hnd'
      cases hnd'
  | @free done fr it l hm hr hne hsch ih =>
    intro L q I hc
    obtain ⟨hnd, hmr⟩ := rdy_m hr
    have hmb := mready_bit hmr
    -- what is written now, no one looks at that came up ahead
    have hself : ∀ d, it.o.dst = some d → d ∉ it.o.looksAt ops := fun d hd hl => by
      have := hmb _ (ssa_look hssa hm hm (by rw [hne]; rfl) hd hl)
      rw [hnd] at this
      cases this
    have hpl : ∀ p ∈ pg, ∀ d, it.o.dst = some d → d ∉ p.o.looksAt ops ∧ p.o.dst ≠ some d := fun p hp d hd => by
      obtain ⟨itp, h1, h2, h3⟩ := L.a p hp
      have hneq : itp.i ≠ it.i := fun hh => by have := I.pdn p hp; rw [← h2, hh, hnd] at this; cases this
      refine ⟨fun hl => ?_, fun hpd => ?_⟩
      · have := (L.c itp h1).2 _ (ssa_look hssa hm (L.c itp h1).1 (by rw [hne]; rfl) hd (by rw [h3]; exact hl))
        rw [hnd] at this
        cases this
      · exact ssa_dst hssa hm (L.c itp h1).1 (Ne.symm hneq) (by rw [hne]; rfl) d (by rw [h3]; exact hpd) hd
    -- who came up ahead comes to the same
    have old : ∀ (tm : Tr V) (v : V) (h' : H) (p : PI), putO n s.tm it.o.dst v = some tm → p ∈ pg → (∀ v, p.k = .val v → pureOp P h' s.tm p.o.op = pureOp P s.h s.tm p.o.op) →
        (∀ b ob v, p.k = .new b ob v → allocOp P h' s.tm p.o.op = allocOp P s.h s.tm p.o.op ∧ h'.get b = s.h.get b) → chk P ops n ⟨tm, h'⟩ p = true := by
      intro tm v h' p hput hp h1 h2
      refine chk_of (s' := ⟨tm, h'⟩) (I.chk p hp) (fun t ht => ?_) (fun d hd => ?_) h1 h2
      · show tm.get t = s.tm.get t
        rw [putO_get hput t, if_neg (fun hd => (hpl p hp t hd).1 ht)]
      · show tm.get d = s.tm.get d
        rw [putO_get hput d, if_neg (fun hd' => (hpl p hp d hd').2 hd)]
    have tmg : ∀ (tm : Tr V) (v : V), putO n s.tm it.o.dst v = some tm → ∀ t ∈ it.o.looksAt ops, tm.get t = s.tm.get t := fun tm v hput t ht => by
      rw [putO_get hput t, if_neg (fun hd => hself t hd ht)]
    have fin : ∀ (s1 : St) (k : PK) (pd' : List PI), freeS P ops n s it = some (s1, k) → (∀ p ∈ (⟨it.i, it.o, k⟩ : PI) :: pg, chk P ops n s1 p = true) → (∀ p ∈ pd, p ∈ pd') → (stableK ⟨it.i, it.o, k⟩ = true ∨ (⟨it.i, it.o, k⟩ : PI) ∈ pd') →
        stepF P call ops n l pd' s1 = some s' → wpAnyIn F m P .any ops Q fc listed a w := by
      intro s1 k pd' hfr hall hsub hnew hst
      obtain ⟨e', I'⟩ := I.free hm hnd hfr (List.all_eq_true.2 hall)
      refine ih _ pd' s1 fc listed e' a w ⟨fun p hp => ?_, fun p hp => ?_, fun q hq => ?_⟩ hst I' hc
      · rcases List.mem_cons.1 hp with rfl | hp
        · exact ⟨it, List.mem_cons_self, rfl, rfl⟩
        · obtain ⟨itp, h1, h2⟩ := L.a p hp
          exact ⟨itp, List.mem_cons_of_mem _ h1, h2⟩
      · rcases List.mem_cons.1 hp with rfl | hp
        · exact hnew
        · rcases L.b p hp with h | h
          · exact .inl h
          · exact .inr (hsub p h)
      · rcases List.mem_cons.1 hq with rfl | hq
        · exact ⟨hm, fun j hj => or_bit.2 (.inl (hmb j hj))⟩
        · exact ⟨(L.c q hq).1, fun j hj => or_bit.2 (.inl ((L.c q hq).2 j hj))⟩
    -- what it comes to itself
    have selfv : ∀ (v : V) (tm : Tr V), cls it.o.op = .pure → wantV ops s.tm it.o = some true → pureOp P s.h s.tm it.o.op = some v → putO n s.tm it.o.dst v = some tm → chk P ops n ⟨tm, s.h⟩ ⟨it.i, it.o, .val v⟩ = true := by
      intro v tm hcl hw hv hput
      unfold chk
      rw [Bool.and_eq_true]
      refine ⟨putO_chk hput, ?_⟩
      simp only [hne, hcl]
      rw [wantV_tm (tmg tm v hput), hw, pureOp_tm (evO_tm (tmg tm v hput)), hv]
      simp [isTrue, sameV_rfl]
    have selfs : ∀ (tm : Tr V), wantV ops s.tm it.o = some false → putO n s.tm it.o.dst (.tuple []) = some tm → chk P ops n ⟨tm, s.h⟩ ⟨it.i, it.o, .skip⟩ = true := by
      intro tm hw hput
      unfold chk
      rw [Bool.and_eq_true]
      refine ⟨putO_chk hput, ?_⟩
      show isFalse (wantV ops tm it.o) = true
      rw [wantV_tm (tmg tm _ hput), hw]
      rfl
    have selfn : ∀ (ob : O) (mk : Nat → V) (tm : Tr V), cls it.o.op = .alloc → wantV ops s.tm it.o = some true → allocOp P s.h s.tm it.o.op = some (ob, mk) → memB it.o.op = false → putO n s.tm it.o.dst (mk s.h.nxt) = some tm → sameO ob ob = true → chk P ops n ⟨tm, s.h.new ob⟩ ⟨it.i, it.o, .new s.h.nxt ob (mk s.h.nxt)⟩ = true := by
      intro ob mk tm hcl hw hv hmm hput hso
      unfold chk
      rw [Bool.and_eq_true]
      refine ⟨putO_chk hput, ?_⟩
      simp only [hne, hcl]
      rw [wantV_tm (tmg tm _ hput), hw, allocOp_tm (evO_tm (tmg tm _ hput)), allocOp_mem (h := s.h) hmm, hv, H.get_new, if_pos rfl]
      simp [isTrue, sameV_rfl, hso]
    have skip : ∀ (tm : Tr V), wantV ops s.tm it.o = some false → putO n s.tm it.o.dst (.tuple []) = some tm → freeS P ops n s it = some (⟨tm, s.h⟩, .skip) → stepF P call ops n l pd ⟨tm, s.h⟩ = some s' → wpAnyIn F m P .any ops Q fc listed a w := by
      intro tm hw hput hfr hst
      refine fin _ _ pd hfr (fun p hp => ?_) (fun p hp => hp) (.inl rfl) hst
      rcases List.mem_cons.1 hp with rfl | hp
      · exact selfs tm hw hput
      · exact old tm _ s.h p hput hp (fun _ _ => rfl) (fun _ _ _ _ => ⟨rfl, rfl⟩)
    unfold clsSI at q
    split at q
    · rename_i hcl
      unfold stepF at q
      cases hfr : freeS P ops n s it with
      | none => rw [hfr] at q; cases q
      | some r =>
        obtain ⟨s1, k⟩ := r
        rw [hfr] at q
        rcases freeS_inv hfr with ⟨hw, rfl, tm, hput, rfl⟩ | ⟨_, hc2, _⟩ | ⟨hw, hc2, ob, mk, tm, hal, rfl, hput, rfl⟩
        · exact skip tm hw hput hfr q
        · rw [hcl] at hc2; cases hc2
        · simp only at q
          cases hch : ((⟨it.i, it.o, .new s.h.nxt ob (mk s.h.nxt)⟩ : PI) :: pd).all fun p => !(memB p.o.op) || chk P ops n ⟨tm, s.h.new ob⟩ p with
          | false => rw [hch] at q; cases q
          | true =>
            rw [hch] at q
            simp only [cond_true] at q
            have hch := List.all_eq_true.1 hch
            have dyn : ∀ p ∈ (⟨it.i, it.o, .new s.h.nxt ob (mk s.h.nxt)⟩ : PI) :: pd, memB p.o.op = true → chk P ops n ⟨tm, s.h.new ob⟩ p = true := fun p hp hmm => by
              have := hch p hp
              rw [hmm] at this
              simpa using this
            refine fin _ _ (⟨it.i, it.o, .new s.h.nxt ob (mk s.h.nxt)⟩ :: pd) hfr (fun p hp => ?_) (fun p hp => List.mem_cons_of_mem _ hp) (.inr List.mem_cons_self) q
            rcases List.mem_cons.1 hp with rfl | hp
            · cases hmm : memB it.o.op with
              | true => exact dyn _ List.mem_cons_self hmm
              | false => exact selfn ob mk tm hcl hw hal hmm hput (allocOp_same hal hmm)
            · cases hmm : memB p.o.op with
              | true =>
                rcases L.b p hp with hst | hin
                · cases hk : p.k with
                  | val v => unfold stableK at hst; rw [hk, hmm] at hst; cases hst
                  | new b ob v => unfold stableK at hst; rw [hk] at hst; cases hst
                  | skip => exact old tm _ _ p hput hp (fun v hk' => by rw [hk] at hk'; cases hk') (fun b ob v hk' => by rw [hk] at hk'; cases hk')
                · exact dyn p (List.mem_cons_of_mem _ hin) hmm
              | false =>
                refine old tm _ _ p hput hp (fun v hk => pureOp_mem hmm) (fun b ob' v hk => ⟨allocOp_mem hmm, ?_⟩)
                rw [H.get_new, if_neg]
                have := I.nlt p hp b ob' v hk
                omega
    · rename_i hcl
      unfold stepF at q
      cases hfr : freeS P ops n s it with
      | none => rw [hfr] at q; cases q
      | some r =>
        obtain ⟨s1, k⟩ := r
        rw [hfr] at q
        rcases freeS_inv hfr with ⟨hw, rfl, tm, hput, rfl⟩ | ⟨hw, hc2, v, tm, hv, rfl, hput, rfl⟩ | ⟨_, hc2, _⟩
        · exact skip tm hw hput hfr q
        · refine fin _ _ _ hfr (fun p hp => ?_) (fun p hp => ?_) ?_ q
          · rcases List.mem_cons.1 hp with rfl | hp
            · exact selfv v tm hc2 hw hv hput
            · exact old tm _ s.h p hput hp (fun _ _ => rfl) (fun _ _ _ _ => ⟨rfl, rfl⟩)
          · cases memB it.o.op with
            | true => exact List.mem_cons_of_mem _ hp
            | false => exact hp
          · cases hmm : memB it.o.op with
            | true => exact .inr List.mem_cons_self
            | false => exact .inl (by unfold stableK; simp only [hmm]; rfl)
        · rw [hc2] at hcl; exact absurd rfl hcl
  | @eff done fr it l hm hr huniq hclean hsch ih =>
    intro L q I hc
    obtain ⟨hnd, hmr⟩ := rdy_m hr
    have hmb := mready_bit hmr
    unfold stepF at q
    split at q
    · rename_i s1 hs1
      cases hch : (pd.filter fun p => !(it.m.testBit p.i)).all (chk P ops n s1) with
      | false => rw [hch] at q; cases q
      | true =>
        rw [hch] at q
        simp only [cond_true] at q
        have hch := List.all_eq_true.1 hch
        have hchk : ((pg.filter fun p => !(it.m.testBit p.i)).all (Ev.chk P ops n s1)) = true := by
          refine List.all_eq_true.2 fun p hp => ?_
          obtain ⟨hpg, hpb⟩ := List.mem_filter.1 hp
          rcases L.b p hpg with hst | hin
          · obtain ⟨itp, h1, h2, h3⟩ := L.a p hpg
            have hneq : itp.i ≠ it.i := fun hh => by have := I.pdn p hpg; rw [← h2, hh, hnd] at this; cases this
            refine chk_stable (I.chk p hpg) hst (fun t ht => step1_tm hs1 t (fun hd => ?_)) (fun d hd => step1_tm hs1 d (fun hd' => ?_))
            · unfold cleanB at hclean
              rw [hd] at hclean
              have := List.all_eq_true.1 hclean itp (List.mem_filter.2 ⟨h1, by rw [h2]; exact hpb⟩)
              rw [h3] at this
              have hcc : (p.o.looksAt ops).contains t = true := by simpa using ht
              rw [hcc] at this
              cases this
            · exact ssa_dst hssa (L.c itp h1).1 hm hneq (by rw [h3]; exact not_eff I hpg) d hd' (by rw [h3]; exact hd)
          · exact hch p (List.mem_filter.2 ⟨hin, hpb⟩)
        obtain ⟨k0, hk0, hk1⟩ := items_mem ops.toList 0 [] it hm
        have hoi : ops[it.i]? = some it.o := by rw [hk0]; simpa using hk1
        have hlt := (Array.getElem?_eq_some_iff.1 hoi).1
        refine sweep hF hssa hlow (fun listed e a w I hall => ?_) (fun fc listed e a w it' I hm' hnd' hr' h0 hpre hc => ?_) fc listed e a w I hc
        · have h1 := hall it.i hlt
          have h2 : listed.getD it.i false = true := by
            have : it.i < listed.size := by rw [I.size]; exact hlt
            simpa [this] using h1
          rw [I.sub it.i h2] at hnd
          cases hnd
        · obtain rfl := huniq it' hm' hr'
          refine exec_eff hF hcall hssa I hm hnd h0 hpre hs1 hchk (fun e' a' w' I' => ih (pg.filter fun p => !(it'.m.testBit p.i)) (pd.filter fun p => !(it'.m.testBit p.i)) s1 fc _ e' a' w' ⟨fun p hp => ?_, fun p hp => ?_, fun q hq => ?_⟩ q I' ?_)
          · obtain ⟨hpg, hpb⟩ := List.mem_filter.1 hp
            obtain ⟨itp, h1, h2, h3⟩ := L.a p hpg
            exact ⟨itp, List.mem_filter.2 ⟨h1, by rw [h2]; exact hpb⟩, h2, h3⟩
          · obtain ⟨hpg, hpb⟩ := List.mem_filter.1 hp
            rcases L.b p hpg with h | h
            · exact .inl h
            · exact .inr (List.mem_filter.2 ⟨h, hpb⟩)
          · obtain ⟨hq1, _⟩ := List.mem_filter.1 hq
            exact ⟨(L.c q hq1).1, fun j hj => or_bit.2 (.inl ((L.c q hq1).2 j hj))⟩
          · have := cnt_lt h0 _ (List.mem_range.2 hlt)
            omega
    · cases q
end
noncomputable def drawF (P : Program) (call : CallT) : DrawT := fun ops n s =>
  match schedR ops with
  | some l => stepF P call ops n l [] s
  | none => drawV P call ops n s
theorem drawF_ok {P : Program} {call : CallT} (hm : P.follows .mixedOrders = true) (hcall : CallOk P call) : DrawOk P call (drawF P call) where
  ok := by
    intro F hF w0 e n s s' a w m id ops Q S q hQ
    unfold drawF at q
    split at q
    · rename_i l hl
      obtain ⟨hssa, hlow, hsch⟩ := sched_ok hl
      refine wpIn_region_any hm (drawFM hF hcall hssa hlow (e0 := e) (dfs := a.defers) hQ l 0 [] [] [] s ops.size _ e a _ hsch ⟨fun p hp => (by cases hp), fun p hp => (by cases hp), fun p hp => (by cases hp)⟩ q ?_ ?_)
      · refine ⟨by simp, fun i h => ?_, fun i h1 h2 h3 => ?_, fun p hp => (by cases hp), fun p hp => (by cases hp), fun p hp => (by cases hp), fun i o ho h => ?_, S.t.1, fun t v ht _ => S.t.2 t v ht, S.r.drew, fun p hp => (by cases hp), fun p hp => (by cases hp), fun p hp => (by cases hp), E.le.refl e, rfl⟩
        · by_cases hi : i < ops.size <;> simp [hi] at h
        · simp at h2
        · by_cases hi : i < ops.size <;> simp [hi] at h
      · have := cnt_len (Array.replicate ops.size false) (List.range ops.size)
        simpa using this
    · exact (drawV_ok hm hcall).ok hF S q hQ
end Go.Proofs.YtjngkcnanhnopaaGreatDoor.Ev

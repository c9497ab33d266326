import Derived.Test.YtjngkcnanhnopaaGreatDoorKq
/-! The evaluator: the region that draws is sound: the simulation. -/
namespace Go.Proofs.YtjngkcnanhnopaaGreatDoor.Ev
open Go Go.RowKit
set_option linter.unusedVariables false
set_option linter.unusedSimpArgs false
section
variable {P : Program} {ops : Array Oper} {n m : Nat} {w0 w : World} {e0 e : E} {dfs : List Deferred} {listed : Array Bool} {done : Nat} {pend : List PI} {s : St} {a : Act} {F : Fence} {call : CallT} {Q : Exit → Act → World → Prop}
theorem isTrue_eq {b : Option Bool} (h : isTrue b = true) : b = some true := by
  cases b with
  | none => cases h
  | some b => cases b <;> first | rfl | cases h
theorem isFalse_eq {b : Option Bool} (h : isFalse b = true) : b = some false := by
  cases b with
  | none => cases h
  | some b => cases b <;> first | rfl | cases h
theorem wp_plain (hF : Open F) {o : Oper} {x : Value} {w' : World} {K : Act → World → Prop} (hd : ∀ c, o.op ≠ .defer c) (h : (execOp a.eval o).run P w = .ok (.value x) w') (hK : K (a.put o.dst x) w') : o.wpIn F m P a w K Q := by
  refine ⟨fun f _ => hF.fn f, ?_⟩
  rw [Oper.semAt_eq _ _ _ hd, h]
  exact hK
/-- One that was done ahead comes up. -/
theorem exec_pend (hF : Open F) (hssa : ssaB ops (itemsGo 0 ops.toList []) = true) (I : Inv P ops n w0 e0 dfs listed done pend s e a w) {p : PI} (hpm : p ∈ pend) (hi : listed.getD p.i true = false) (hpre : ∀ ed ∈ p.o.after, Region.binds .any ed = true → listed.getD ed.on false = true) {K : Act → World → Prop}
    (hK : ∀ e' a' w', Inv P ops n w0 e0 dfs (listed.setIfInBounds p.i true) done pend s e' a' w' → K a' w') : wpOpIn F m P ops Q p.i K a w := by
  obtain ⟨it, hit, h2, h3⟩ := items_ex ops.toList 0 [] p.i p.o (by simpa using I.mem p hpm)
  have T := I.temps hssa hit (by rw [h3]; exact hpre)
  rw [h3] at T
  unfold wpOpIn
  simp only [I.mem p hpm]
  have hc := I.chk p hpm
  unfold Ev.chk at hc
  simp only [Bool.and_eq_true] at hc
  obtain ⟨_, hc⟩ := hc
  have keep : ∀ p' ∈ pend, p'.i ≠ p.i → listed.getD p'.i false = false → ∀ b ob v, p'.k = .new b ob v → e.ρ b = none ∧ e.κ b = none ∧ b < s.h.nxt ∧ e0.lim ≤ b := fun p' hp' _ hu b ob v hk => I.new p' hp' hu b ob v hk
  split at hc
  · rename_i v hk
    simp only [Bool.and_eq_true] at hc
    obtain ⟨⟨_, hw⟩, hv⟩ := hc
    rw [wantV_look T.1 (isTrue_eq hw), if_pos rfl]
    split at hv
    · rename_i v' hcl hpv
      have := sameV_eq _ _ hv
      subst this
      obtain ⟨x, r1, r2⟩ := run_pureOp (P := P) I.rel T.2 hpv
      refine wp_plain hF (fun c hd => by rw [hd] at hpv; simp [pureOp] at hpv) r1 (hK e _ w ?_)
      exact I.put hpm hi hpre (E.le.refl e).sub I.le (by rw [hk]; exact r2) I.rel keep
    · cases hv
  · rename_i b ob v hk
    simp only [Bool.and_eq_true] at hc
    obtain ⟨⟨⟨_, hw⟩, hv⟩, hg⟩ := hc
    rw [wantV_look T.1 (isTrue_eq hw), if_pos rfl]
    split at hv
    · rename_i ob' mk hcl hpv
      simp only [Bool.and_eq_true] at hv
      have := sameO_eq _ _ hv.1
      subst this
      have hvv := sameV_eq _ _ hv.2
      split at hg
      · rename_i ob2 hg2
        have := sameO_eq _ _ hg
        subst this
        obtain ⟨n1, n2, n3, n4⟩ := I.new p hpm (unl hi) b _ v hk
        obtain ⟨co, x, r1, r2, r3⟩ := run_allocOp (P := P) I.rel T.2 hpv
        have hsub : e.sub (e.bind b (some w.heap.size) none) := E.bind_sub n1 n2
        refine wp_plain hF (fun c hd => by rw [hd] at hpv; simp [allocOp] at hpv) r1 (hK (e.bind b (some w.heap.size) none) _ _ ?_)
        refine I.put hpm hi hpre hsub ?_ (by rw [hk]; exact hvv ▸ r2 _ _ hsub (E.bind_ρ _ _ _ _)) ?_ ?_
        · refine ⟨fun i j q => hsub.ρ _ _ (I.le.ρ i j q), fun i j q => hsub.κ _ _ (I.le.κ i j q), Nat.le_trans I.le.lim (Nat.le_max_left _ _), fun i hi2 q => ?_, fun i hi2 q => ?_⟩
          · show (if i = b then some w.heap.size else e.ρ i) = none
            rw [if_neg (by omega)]
            exact I.le.old i hi2 q
          · show (if i = b then none else e.κ i) = none
            rw [if_neg (by omega)]
            exact I.le.kold i hi2 q
        · refine I.rel.bind hg2 n1 n2 n3 (World.grownBy_alloc w co none) (fun j e1 => by cases e1) (fun b' o' _ q => by have := (I.rel.new _ _ q).2; omega) (.inl I.rel.bel.size) (by rw [World.size_alloc]; exact Nat.lt_succ_self _) ?_
          rw [World.alloc_heap_new]
          exact r3 _ _ hsub
        · intro p' hp' hne hu b' ob' v' hk'
          obtain ⟨m1, m2, m3, m4⟩ := I.new p' hp' hu b' ob' v' hk'
          have hb : b' ≠ b := fun e1 => by subst e1; exact hne (I.dis p' hp' p hpm _ _ _ _ _ hk' hk)
          exact ⟨by simpa [E.bind, hb] using m1, by simpa [E.bind, hb] using m2, m3, m4⟩
      · cases hg
    · cases hv
  · rename_i hk
    rw [wantV_look T.1 (isFalse_eq hc), if_neg (by simp)]
    refine ⟨fun f _ => hF.fn f, hK e _ w ?_⟩
    exact I.put hpm hi hpre (E.le.refl e).sub I.le (by rw [hk]; simp only [PK.v, vrel]; exact ⟨[], rfl, vrels_nil.2 rfl⟩) I.rel keep
theorem putO_get {tm tm' : Tr V} {dst : Option Tmp} {v : V} (q : putO n tm dst v = some tm') : ∀ t, tm'.get t = if dst = some t then some v else tm.get t := by
  intro t
  unfold putO at q
  split at q
  · cases q; simp
  · rename_i d
    cases hd : Nat.blt d n with
    | false => rw [hd] at q; cases q
    | true =>
      rw [hd] at q
      cases q
      rw [Tr.get_set]
      by_cases h : t = d
      · subst h; simp
      · rw [if_neg h, if_neg (fun q => h (by cases q; rfl))]
theorem putO_lt {tm tm' : Tr V} {dst : Option Tmp} {v : V} (q : putO n tm dst v = some tm') : ∀ t, dst = some t → t < n := by
  intro t ht
  subst ht
  unfold putO at q
  simp only at q
  cases hd : Nat.blt t n with
  | false => rw [hd] at q; cases q
  | true => exact Nat.le_of_ble_eq_true hd
theorem or_bit {done i j : Nat} : (done ||| 2 ^ i).testBit j = true ↔ done.testBit j = true ∨ i = j := by
  simp [Nat.testBit_or, Nat.testBit_two_pow]
/-- What holds behind one that came up. -/
theorem Inv.came (hssa : ssaB ops (itemsGo 0 ops.toList []) = true) (I : Inv P ops n w0 e0 dfs listed done pend s e a w) {it : It} (hit : it ∈ itemsGo 0 ops.toList []) (hnd : done.testBit it.i = false) (hi : listed.getD it.i true = false)
    (hpre : ∀ ed ∈ it.o.after, Region.binds .any ed = true → listed.getD ed.on false = true) {s' : St} (hchk : ((pend.filter fun p => !(it.m.testBit p.i)).all (Ev.chk P ops n s')) = true)
    {tm : Tr V} {v : V} {h' : H} {e' : E} {x : Value} {w' : World} (hs' : s' = ⟨tm, h'⟩) (hput : putO n s.tm it.o.dst v = some tm) (hle : e.le e') (hv : vrel e' v x) (R' : Rel w0 e' h' w') :
    Inv P ops n w0 e0 dfs (listed.setIfInBounds it.i true) (done ||| 2 ^ it.i) (pend.filter fun p => !(it.m.testBit p.i)) s' e' (a.put it.o.dst x) w' := by
  obtain ⟨k0, hk0, hk1⟩ := items_mem ops.toList 0 [] it hit
  have hoi : ops[it.i]? = some it.o := by rw [hk0]; simpa using hk1
  have hmask := I.mask hit hpre
  have gd : ∀ j, j ≠ it.i → (listed.setIfInBounds it.i true).getD j false = listed.getD j false := fun j hj => getD_set_ne false (Ne.symm hj)
  have gs := getD_set_self hi
  subst hs'
  have ne : ∀ p ∈ pend, p.i ≠ it.i := fun p hp q => by have := I.pdn p hp; rw [q, hnd] at this; cases this
  refine ⟨by simp [I.size], fun i h => ?_, fun i h1 h2 h3 => ?_, fun p hp => I.mem p (List.mem_filter.1 hp).1, fun p hp => or_bit.2 (.inl (I.pdn p (List.mem_filter.1 hp).1)), fun p hp => List.all_eq_true.1 hchk p hp, fun i o ho h ed hed hb => ?_, by rw [put_size]; exact I.tsz, fun t u ht hn => ?_, R', fun p hp hu b ob v' hk => ?_,
    fun p hp p' hp' => I.dis p (List.mem_filter.1 hp).1 p' (List.mem_filter.1 hp').1, fun p hp b ob v' hk => ?_, I.le.trans hle, by rw [put_defers]; exact I.dfs⟩
  · by_cases hj : i = it.i
    · exact or_bit.2 (.inr hj.symm)
    · rw [gd i hj] at h; exact or_bit.2 (.inl (I.sub i h))
  · by_cases hj : i = it.i
    · subst hj; rw [gs] at h3; cases h3
    · rw [gd i hj] at h3
      rcases or_bit.1 h2 with h2 | h2
      · obtain ⟨p, hp, hpi⟩ := I.pnd i h1 h2 h3
        refine ⟨p, List.mem_filter.2 ⟨hp, ?_⟩, hpi⟩
        cases hb : it.m.testBit p.i with
        | false => rfl
        | true =>
          have := hmask p.i hb
          rw [hpi, h3] at this
          cases this
      · exact absurd h2.symm hj
  · by_cases hj : i = it.i
    · subst hj
      rw [hoi] at ho
      cases ho
      have := hpre ed hed hb
      by_cases hj2 : ed.on = it.i
      · rw [hj2]; exact gs
      · rw [gd _ hj2]; exact this
    · rw [gd i hj] at h
      have := I.clo i o ho h ed hed hb
      by_cases hj2 : ed.on = it.i
      · rw [hj2]; exact gs
      · rw [gd _ hj2]; exact this
  · have hg := putO_get hput t
    rw [show ({ tm := tm, h := h' } : St).tm = tm from rfl, hg] at ht
    by_cases hd : it.o.dst = some t
    · rw [if_pos hd] at ht
      cases ht
      rw [hd]
      exact ⟨x, put_get_self (by rw [I.tsz]; exact putO_lt hput t hd), hv⟩
    · rw [if_neg hd] at ht
      obtain ⟨y, h1, h2⟩ := I.tr t u ht (fun p hp hu => by
        refine hn p (List.mem_filter.2 ⟨hp, ?_⟩) (by rw [gd _ (ne p hp)]; exact hu)
        cases hb : it.m.testBit p.i with
        | false => rfl
        | true => have := hmask p.i hb; rw [hu] at this; cases this)
      exact ⟨y, by rw [put_get_ne hd]; exact h1, vrel_mono hle _ _ h2⟩
  · have hpp := (List.mem_filter.1 hp).1
    rw [gd _ (ne p hpp)] at hu
    obtain ⟨m1, m2, m3, m4⟩ := I.new p hpp hu b ob v' hk
    have hb : b < e.lim := by rw [I.rel.lim]; exact m3
    refine ⟨hle.old b hb m1, hle.kold b hb m2, ?_, m4⟩
    have := hle.lim
    have h2 := R'.lim
    show b < h'.nxt
    omega
  · have h1 := I.nlt p (List.mem_filter.1 hp).1 b ob v' hk
    have h2 := hle.lim
    have h3 := R'.lim
    have h4 := I.rel.lim
    show b < h'.nxt
    omega
/-- One that waits for its turn comes up. -/
theorem exec_eff (hF : Open F) (hcall : CallOk P call) (hssa : ssaB ops (itemsGo 0 ops.toList []) = true) (I : Inv P ops n w0 e0 dfs listed done pend s e a w) {it : It} (hit : it ∈ itemsGo 0 ops.toList []) (hnd : done.testBit it.i = false) (hi : listed.getD it.i true = false)
    (hpre : ∀ ed ∈ it.o.after, Region.binds .any ed = true → listed.getD ed.on false = true) {s' : St} (q : step1 P call ops n it.o s = some s') (hchk : ((pend.filter fun p => !(it.m.testBit p.i)).all (Ev.chk P ops n s')) = true) {K : Act → World → Prop}
    (hK : ∀ e' a' w', Inv P ops n w0 e0 dfs (listed.setIfInBounds it.i true) (done ||| 2 ^ it.i) (pend.filter fun p => !(it.m.testBit p.i)) s' e' a' w' → K a' w') : wpOpIn F m P ops Q it.i K a w := by
  obtain ⟨k0, hk0, hk1⟩ := items_mem ops.toList 0 [] it hit
  have hoi : ops[it.i]? = some it.o := by rw [hk0]; simpa using hk1
  have T := I.temps hssa hit hpre
  unfold wpOpIn
  simp only [hoi]
  have fin : ∀ (tm : Tr V) (v : V) (h' : H) (e' : E) (x : Value) (w' : World), s' = ⟨tm, h'⟩ → putO n s.tm it.o.dst v = some tm → e.le e' → vrel e' v x → Rel w0 e' h' w' → Inv P ops n w0 e0 dfs (listed.setIfInBounds it.i true) (done ||| 2 ^ it.i) (pend.filter fun p => !(it.m.testBit p.i)) s' e' (a.put it.o.dst x) w' :=
    fun tm v h' e' x w' hs' hput hle hv R' => I.came hssa hit hnd hi hpre hchk hs' hput hle hv R'
  unfold step1 at q
  split at q
  · rename_i hw
    rw [wantV_look T.1 hw, if_pos rfl]
    split at q
    · rename_i v h' hv
      split at q
      · rename_i tm hp
        cases q
        exact wp_evOp hF hcall I.rel T.2 ((evF_op _ _ _ _ _).symm.trans hv) (fun e' x w' h1 h2 h3 => hK e' _ w' (fin tm v h' e' x w' rfl hp h1 h2 h3))
      · cases q
    · cases q
  · rename_i hw
    rw [wantV_look T.1 hw, if_neg (by simp)]
    split at q
    · rename_i tm hp
      cases q
      exact ⟨fun f _ => hF.fn f, hK e _ w (fin tm (.tuple []) s.h e undef w rfl hp (E.le.refl e) (by simp only [vrel]; exact ⟨[], rfl, vrels_nil.2 rfl⟩) I.rel)⟩
    · cases q
  · cases q
/-- The evaluator goes on, and nothing has come up. -/
theorem Inv.free (I : Inv P ops n w0 e0 dfs listed done pend s e a w) {it : It} (hit : it ∈ itemsGo 0 ops.toList []) (hnd : done.testBit it.i = false) {s' : St} {k : PK} (q : freeS P ops n s it = some (s', k)) (hchk : (((⟨it.i, it.o, k⟩ : PI) :: pend).all (Ev.chk P ops n s')) = true) :
    ∃ e', Inv P ops n w0 e0 dfs listed (done ||| 2 ^ it.i) (⟨it.i, it.o, k⟩ :: pend) s' e' a w := by
  obtain ⟨k0, hk0, hk1⟩ := items_mem ops.toList 0 [] it hit
  have hoi : ops[it.i]? = some it.o := by rw [hk0]; simpa using hk1
  have hul : listed.getD it.i false = false := by
    cases h : listed.getD it.i false with
    | false => rfl
    | true => rw [I.sub it.i h] at hnd; cases hnd
  have ne : ∀ p ∈ pend, p.i ≠ it.i := fun p hp q => by have := I.pdn p hp; rw [q, hnd] at this; cases this
  have fin : ∀ (tm : Tr V) (v : V) (h' : H) (e' : E), s' = ⟨tm, h'⟩ → putO n s.tm it.o.dst v = some tm → e.le e' → Rel w0 e' h' w → s.h.nxt ≤ h'.nxt → (∀ b, e.ρ b = none → e'.ρ b = none) → (∀ b, e.κ b = none → e'.κ b = none) →
      (∀ b ob v, k = .new b ob v → b = s.h.nxt ∧ b < h'.nxt) → Inv P ops n w0 e0 dfs listed (done ||| 2 ^ it.i) (⟨it.i, it.o, k⟩ :: pend) s' e' a w := by
    intro tm v h' e' hs' hput hle R' hnx h1 h2 hnew
    subst hs'
    refine ⟨I.size, fun i h => or_bit.2 (.inl (I.sub i h)), fun i g1 g2 g3 => ?_, fun p hp => ?_, fun p hp => ?_, fun p hp => List.all_eq_true.1 hchk p hp, I.clo, I.tsz, fun t u ht hn => ?_, R', fun p hp hu b ob v' hk => ?_, fun p hp p' hp' b ob v1 ob' v2 hk hk' => ?_, fun p hp b ob v' hk => ?_, I.le.trans hle, I.dfs⟩
    · rcases or_bit.1 g2 with g2 | g2
      · obtain ⟨p, hp, hpi⟩ := I.pnd i g1 g2 g3
        exact ⟨p, List.mem_cons_of_mem _ hp, hpi⟩
      · exact ⟨_, List.mem_cons_self, g2⟩
    · rcases List.mem_cons.1 hp with rfl | hp
      · exact hoi
      · exact I.mem p hp
    · rcases List.mem_cons.1 hp with rfl | hp
      · exact or_bit.2 (.inr rfl)
      · exact or_bit.2 (.inl (I.pdn p hp))
    · have hd : it.o.dst ≠ some t := hn _ List.mem_cons_self hul
      have hg := putO_get hput t
      rw [show ({ tm := tm, h := h' } : St).tm = tm from rfl, hg, if_neg hd] at ht
      obtain ⟨y, h3, h4⟩ := I.tr t u ht (fun p hp hu => hn p (List.mem_cons_of_mem _ hp) hu)
      exact ⟨y, h3, vrel_mono hle _ _ h4⟩
    · rcases List.mem_cons.1 hp with rfl | hp
      · obtain ⟨rfl, hlt⟩ := hnew b ob v' hk
        exact ⟨h1 _ I.rel.rn, h2 _ I.rel.kn, hlt, by rw [← I.rel.lim]; exact I.le.lim⟩
      · obtain ⟨m1, m2, m3, m4⟩ := I.new p hp hu b ob v' hk
        exact ⟨h1 _ m1, h2 _ m2, Nat.lt_of_lt_of_le m3 hnx, m4⟩
    · rcases List.mem_cons.1 hp with rfl | hp <;> rcases List.mem_cons.1 hp' with rfl | hp'
      · rfl
      · have := (hnew b ob v1 hk).1
        have := I.nlt p' hp' b ob' v2 hk'
        omega
      · have := (hnew b ob' v2 hk').1
        have := I.nlt p hp b ob v1 hk
        omega
      · exact I.dis p hp p' hp' b ob v1 ob' v2 hk hk'
    · rcases List.mem_cons.1 hp with rfl | hp
      · exact (hnew b ob v' hk).2
      · exact Nat.lt_of_lt_of_le (I.nlt p hp b ob v' hk) hnx
  unfold freeS at q
  split at q
  · split at q
    · rename_i tm hp
      cases q
      exact ⟨e, fin tm (.tuple []) s.h e rfl hp (E.le.refl e) I.rel (Nat.le_refl _) (fun _ h => h) (fun _ h => h) (fun b ob v hk => nomatch hk)⟩
    · cases q
  · split at q
    · split at q
      · rename_i v hv
        split at q
        · rename_i tm hp
          cases q
          exact ⟨e, fin tm v s.h e rfl hp (E.le.refl e) I.rel (Nat.le_refl _) (fun _ h => h) (fun _ h => h) (fun b ob v hk => nomatch hk)⟩
        · cases q
      · cases q
    · split at q
      · rename_i ob mk hv
        split at q
        · rename_i tm hp
          cases q
          exact ⟨e.up, fin tm _ (s.h.new ob) e.up rfl hp (E.up_le e) (I.rel.add ob) (Nat.le_succ _) (fun _ h => h) (fun _ h => h) (fun b ob' v hk => by cases hk; exact ⟨rfl, Nat.lt_succ_self _⟩)⟩
        · cases q
      · cases q
    · cases q
  · cases q
end
end Go.Proofs.YtjngkcnanhnopaaGreatDoor.Ev

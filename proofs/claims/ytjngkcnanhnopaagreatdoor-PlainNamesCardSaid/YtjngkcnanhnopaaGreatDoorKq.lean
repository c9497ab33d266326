import Derived.Test.YtjngkcnanhnopaaGreatDoorKp
/-! The evaluator: the region that draws is sound. -/
namespace Go.Proofs.YtjngkcnanhnopaaGreatDoor.Ev
open Go Go.RowKit
set_option linter.unusedVariables false
set_option linter.unusedSimpArgs false

theorem maskOf_bit {ms : List Nat} {o : Oper} {j : Nat} (h : (maskOf ms o).testBit j = true) : ∃ ed ∈ o.after, Region.binds .any ed = true ∧ (j = ed.on ∨ (ms.getD ed.on 0).testBit j = true) := by
  unfold maskOf at h
  have key : ∀ (l : List Edge) (s : Nat), (l.foldl (fun s (ed : Edge) => cond (Region.binds .any ed) (s ||| (2 ^ ed.on ||| ms.getD ed.on 0)) s) s).testBit j = true → s.testBit j = true ∨ ∃ ed ∈ l, Region.binds .any ed = true ∧ (j = ed.on ∨ (ms.getD ed.on 0).testBit j = true) := by
    intro l
    induction l with
    | nil => intro s hs; exact .inl hs
    | cons ed l ih =>
      intro s hs
      simp only [List.foldl_cons] at hs
      rcases ih _ hs with h1 | ⟨e2, h2, h3⟩
      · cases hb : Region.binds .any ed with
        | false => rw [hb] at h1; exact .inl h1
        | true =>
          rw [hb] at h1
          simp only [cond_true, Nat.testBit_or, Bool.or_eq_true, Nat.testBit_two_pow, decide_eq_true_eq] at h1
          rcases h1 with h1 | h1 | h1
          · exact .inl h1
          · exact .inr ⟨ed, by simp, hb, .inl h1.symm⟩
          · exact .inr ⟨ed, by simp, hb, .inr h1⟩
      · exact .inr ⟨e2, by simp [h2], h3⟩
  rcases key o.after.toList 0 h with h1 | ⟨ed, h1, h2⟩
  · simp at h1
  · exact ⟨ed, by simpa using h1, h2⟩
theorem items_mem : ∀ (l : List Oper) (i : Nat) (ms : List Nat) (it : It), it ∈ itemsGo i l ms → ∃ k, it.i = i + k ∧ l[k]? = some it.o
  | [], i, ms, it, h => by cases h
  | o :: l, i, ms, it, h => by
    rcases List.mem_cons.1 h with rfl | h
    · exact ⟨0, rfl, rfl⟩
    · obtain ⟨k, h1, h2⟩ := items_mem l (i + 1) _ it h
      exact ⟨k + 1, by omega, by simpa using h2⟩
theorem items_ex : ∀ (l : List Oper) (i : Nat) (ms : List Nat) (k : Nat) (o : Oper), l[k]? = some o → ∃ it ∈ itemsGo i l ms, it.i = i + k ∧ it.o = o
  | [], i, ms, k, o, h => by simp at h
  | o' :: l, i, ms, 0, o, h => by
    simp at h
    subst h
    exact ⟨_, List.mem_cons_self, rfl, rfl⟩
  | o' :: l, i, ms, k + 1, o, h => by
    simp at h
    obtain ⟨it, h1, h2, h3⟩ := items_ex l (i + 1) (ms ++ [maskOf ms o']) k o h
    exact ⟨it, List.mem_cons_of_mem _ h1, by omega, h3⟩
theorem items_mask (D : Nat → Prop) : ∀ (l : List Oper) (i : Nat) (ms : List Nat), ms.length = i → (∀ k, k < i → D k → ∀ j, (ms.getD k 0).testBit j = true → D j) → (∀ k o, l[k]? = some o → D (i + k) → ∀ ed ∈ o.after, Region.binds .any ed = true → D ed.on) →
    ∀ it ∈ itemsGo i l ms, (∀ ed ∈ it.o.after, Region.binds .any ed = true → D ed.on) → ∀ j, it.m.testBit j = true → D j
  | [], i, ms, _, _, _, it, h, _, _, _ => by cases h
  | o :: l, i, ms, hl, hms, hcl, it, h, hp, j, hj => by
    have head : (∀ ed ∈ o.after, Region.binds .any ed = true → D ed.on) → ∀ j, (maskOf ms o).testBit j = true → D j := by
      intro hp j hj
      obtain ⟨ed, h1, h2, h3⟩ := maskOf_bit hj
      rcases h3 with rfl | h3
      · exact hp ed h1 h2
      · by_cases hlt : ed.on < i
        · exact hms ed.on hlt (hp ed h1 h2) j h3
        · rw [List.getD_eq_getElem?_getD, List.getElem?_eq_none (by omega)] at h3
          simp at h3
    rcases List.mem_cons.1 h with rfl | h
    · exact head hp j hj
    · refine items_mask D l (i + 1) (ms ++ [maskOf ms o]) (by simp [hl]) ?_ (fun k o' hk hd => hcl (k + 1) o' (by simpa using hk) (by rw [show i + (k + 1) = i + 1 + k by omega]; exact hd)) it h hp j hj
      intro k hk hd j hj
      by_cases hlt : k < i
      · rw [List.getD_eq_getElem?_getD, List.getElem?_append_left (by omega)] at hj
        exact hms k hlt hd j (by rw [List.getD_eq_getElem?_getD]; exact hj)
      · obtain rfl : k = i := by omega
        rw [List.getD_eq_getElem?_getD, List.getElem?_append_right (by omega)] at hj
        simp [hl] at hj
        exact head (hcl 0 o rfl (by simpa using hd)) j hj
theorem wantV_look {e : E} {ops : Array Oper} {tm : Tr V} {o : Oper} {b : Bool} {tmps : Array Value} (ht : ∀ t ∈ o.looksAt ops, ∀ v, tm.get t = some v → ∃ x, tmps[t]? = some x ∧ vrel e v x) (q : wantV ops tm o = some b) : Region.wanted o (yielded ops tmps) = b := by
  unfold wantV at q
  unfold Region.wanted
  split at q
  · rename_i hg
    cases q
    rw [hg]
  · rename_i j t hg
    rw [hg]
    split at q
    · cases q
    · rename_i oj hj
      split at q
      · cases q
      · rename_i d hd
        have hdl : d ∈ o.looksAt ops := by
          unfold Oper.looksAt
          rw [hg]
          simp [hj, hd]
        split at q
        · rename_i b' hb
          cases q
          obtain ⟨x, h1, h2⟩ := ht d hdl _ hb
          simp only [vrel] at h2
          subst h2
          simp [yielded, hj, hd, h1]
        · rename_i hb
          cases q
          obtain ⟨x, h1, h2⟩ := ht d hdl _ hb
          simp only [vrel] at h2
          obtain ⟨vs, rfl, h3⟩ := h2
          simp [yielded, hj, hd, h1]
        · cases q
theorem getD_set_self {listed : Array Bool} {i : Nat} (h : listed.getD i true = false) : (listed.setIfInBounds i true).getD i false = true := by
  have hlt : i < listed.size := by
    rcases Nat.lt_or_ge i listed.size with h' | h'
    · exact h'
    · simp [Array.getElem?_eq_none h'] at h
  simp [hlt]
theorem unl {listed : Array Bool} {i : Nat} (h : listed.getD i true = false) : listed.getD i false = false := by
  rcases Nat.lt_or_ge i listed.size with h' | h'
  · simpa [h'] using h
  · simp [Array.getElem?_eq_none h']
/-- How many have not come up. -/
def cnt : List Nat → Array Bool → Nat
  | [], _ => 0
  | i :: l, listed => (if listed.getD i true = true then 0 else 1) + cnt l listed
theorem set_true {listed : Array Bool} (i : Nat) : (listed.setIfInBounds i true).getD i true = true := by
  by_cases hlt : i < listed.size
  · simp [hlt]
  · simp [Array.getElem?_eq_none (show (listed.setIfInBounds i true).size ≤ i by simp; omega)]
theorem cnt_le (listed : Array Bool) (i : Nat) : ∀ l : List Nat, cnt l (listed.setIfInBounds i true) ≤ cnt l listed
  | [] => Nat.le_refl _
  | j :: l => by
    have ih := cnt_le listed i l
    unfold cnt
    by_cases hj : i = j
    · subst hj
      rw [set_true, if_pos rfl]
      omega
    · rw [getD_set_ne true hj]
      omega
theorem cnt_lt {listed : Array Bool} {i : Nat} (h : listed.getD i true = false) : ∀ l : List Nat, i ∈ l → cnt l (listed.setIfInBounds i true) < cnt l listed
  | [], hm => by cases hm
  | j :: l, hm => by
    unfold cnt
    by_cases hj : i = j
    · subst hj
      have := cnt_le listed i l
      rw [set_true, if_pos rfl, h, if_neg (by simp)]
      omega
    · rw [getD_set_ne true hj]
      rcases List.mem_cons.1 hm with rfl | hm
      · exact absurd rfl hj
      · have := cnt_lt h l hm
        omega
theorem cnt_zero {listed : Array Bool} : ∀ l : List Nat, cnt l listed = 0 → ∀ i ∈ l, listed.getD i true = true
  | [], _, i, hm => by cases hm
  | j :: l, h, i, hm => by
    unfold cnt at h
    rcases List.mem_cons.1 hm with rfl | hm
    · by_cases hq : listed.getD i true = true
      · exact hq
      · rw [if_neg hq] at h; omega
    · exact cnt_zero l (by omega) i hm
/-- Where a region stands: what has come up ('listed'), and what the evaluator has done ('done'). -/
structure Inv (P : Program) (ops : Array Oper) (n : Nat) (w0 : World) (e0 : E) (dfs : List Deferred) (listed : Array Bool) (done : Nat) (pend : List PI) (s : St) (e : E) (a : Act) (w : World) : Prop where
  size : listed.size = ops.size
  sub : ∀ i, listed.getD i false = true → done.testBit i = true
  pnd : ∀ i, i < ops.size → done.testBit i = true → listed.getD i false = false → ∃ p ∈ pend, p.i = i
  mem : ∀ p ∈ pend, ops[p.i]? = some p.o
  pdn : ∀ p ∈ pend, done.testBit p.i = true
  chk : ∀ p ∈ pend, chk P ops n s p = true
  clo : ∀ i o, ops[i]? = some o → listed.getD i false = true → ∀ ed ∈ o.after, Region.binds .any ed = true → listed.getD ed.on false = true
  tsz : a.tmps.size = n
  tr : ∀ t v, s.tm.get t = some v → (∀ p ∈ pend, listed.getD p.i false = false → p.o.dst ≠ some t) → ∃ x, a.tmps[t]? = some x ∧ vrel e v x
  rel : Rel w0 e s.h w
  new : ∀ p ∈ pend, listed.getD p.i false = false → ∀ b ob v, p.k = .new b ob v → e.ρ b = none ∧ e.κ b = none ∧ b < s.h.nxt ∧ e0.lim ≤ b
  dis : ∀ p ∈ pend, ∀ p' ∈ pend, ∀ b ob v ob' v', p.k = .new b ob v → p'.k = .new b ob' v' → p.i = p'.i
  nlt : ∀ p ∈ pend, ∀ b ob v, p.k = .new b ob v → b < s.h.nxt
  le : e0.le e
  dfs : a.defers = dfs
section
variable {P : Program} {ops : Array Oper} {n : Nat} {w0 w : World} {e0 e : E} {dfs : List Deferred} {listed : Array Bool} {done : Nat} {pend : List PI} {s : St} {a : Act}
theorem Inv.mask (I : Inv P ops n w0 e0 dfs listed done pend s e a w) {it : It} (hit : it ∈ itemsGo 0 ops.toList []) (hp : ∀ ed ∈ it.o.after, Region.binds .any ed = true → listed.getD ed.on false = true) : ∀ j, it.m.testBit j = true → listed.getD j false = true :=
  items_mask (fun j => listed.getD j false = true) ops.toList 0 [] rfl (fun k hk => absurd hk (Nat.not_lt_zero k)) (fun k o hk hd => I.clo k o (by simpa using hk) (by simpa using hd)) it hit hp
theorem not_eff (I : Inv P ops n w0 e0 dfs listed done pend s e a w) {p : PI} (hp : p ∈ pend) : (isEff p.o.op && p.o.guard.isNone) = false := by
  have hc := I.chk p hp
  unfold Ev.chk at hc
  simp only [Bool.and_eq_true] at hc
  obtain ⟨_, hc⟩ := hc
  split at hc
  · simp only [Bool.and_eq_true] at hc
    have := hc.1.1
    simp at this
    simp [this]
  · simp only [Bool.and_eq_true] at hc
    have := hc.1.1.1
    simp at this
    simp [this]
  · cases hg : p.o.guard with
    | none =>
      have : wantV ops s.tm p.o = some true := by unfold wantV; rw [hg]
      rw [this] at hc
      cases hc
    | some g => simp
/-- What an operation that may come up looks at, no one who is still to come writes. -/
theorem Inv.look (I : Inv P ops n w0 e0 dfs listed done pend s e a w) (hssa : ssaB ops (itemsGo 0 ops.toList []) = true) {it : It} (hit : it ∈ itemsGo 0 ops.toList []) (hp : ∀ ed ∈ it.o.after, Region.binds .any ed = true → listed.getD ed.on false = true) {p : PI} (hpm : p ∈ pend) (hu : listed.getD p.i false = false) :
    (∀ t ∈ it.o.looksAt ops, p.o.dst ≠ some t) ∧ (p.i ≠ it.i → ∀ t, it.o.dst = some t → p.o.dst ≠ some t) := by
  obtain ⟨itp, h1, h2, h3⟩ := items_ex ops.toList 0 [] p.i p.o (by simpa using I.mem p hpm)
  have hs := List.all_eq_true.1 hssa itp h1
  have key : ∀ d, p.o.dst = some d → (Nat.beq p.i it.i || (match it.o.dst with
      | some d' => !Nat.beq d' d
      | none => true)) = true ∧ (!((it.o.looksAt ops).contains d) || it.m.testBit p.i) = true := by
    intro d hd
    rw [h3, hd] at hs
    simp only [not_eff I hpm, Bool.false_or] at hs
    have := List.all_eq_true.1 hs it hit
    simp only [Bool.and_eq_true] at this
    rw [show itp.i = p.i by omega] at this
    exact this
  refine ⟨fun t ht hd => ?_, fun hne t ht hd => ?_⟩
  · have := (key t hd).2
    have hcon : (it.o.looksAt ops).contains t = true := by simpa using ht
    rw [hcon] at this
    have := I.mask hit hp p.i (by simpa using this)
    rw [hu] at this
    cases this
  · have := (key t hd).1
    rw [ht] at this
    have hb : Nat.beq p.i it.i = false := by cases hh : Nat.beq p.i it.i with | false => rfl | true => exact absurd (Nat.eq_of_beq_eq_true hh) hne
    rw [hb] at this
    simp at this
theorem Inv.temps (I : Inv P ops n w0 e0 dfs listed done pend s e a w) (hssa : ssaB ops (itemsGo 0 ops.toList []) = true) {it : It} (hit : it ∈ itemsGo 0 ops.toList []) (hp : ∀ ed ∈ it.o.after, Region.binds .any ed = true → listed.getD ed.on false = true) :
    (∀ t ∈ it.o.looksAt ops, ∀ v, s.tm.get t = some v → ∃ x, a.tmps[t]? = some x ∧ vrel e v x) ∧ ∀ x ∈ it.o.op.operands.toList, ∀ v, evO s.tm x = some v → vrel e v (a.eval x) := by
  have h1 : ∀ t ∈ it.o.looksAt ops, ∀ v, s.tm.get t = some v → ∃ x, a.tmps[t]? = some x ∧ vrel e v x :=
    fun t ht v hv => I.tr t v hv (fun p hpm hu => (I.look hssa hit hp hpm hu).1 t ht)
  refine ⟨h1, fun x hx v hv => ?_⟩
  cases x with
  | tmp t =>
    obtain ⟨y, h2, h3⟩ := h1 t (by unfold Oper.looksAt; exact List.mem_append.2 (.inl (List.mem_filterMap.2 ⟨_, hx, rfl⟩))) v hv
    simp only [Act.eval, Array.getD_eq_getD_getElem?, h2]
    exact h3
  | const c => exact toV_rel 12 c v hv
  | func f => cases hv; exact ⟨[], [], rfl, vrels_nil.2 rfl, vrels_nil.2 rfl⟩
  | global g => cases hv
theorem put_get_self {dst : Nat} {x : Value} (h : dst < a.tmps.size) : (a.put (some dst) x).tmps[dst]? = some x := by simp [Act.put, h]
theorem put_get_ne {dst : Option Nat} {t : Nat} {x : Value} (h : dst ≠ some t) : (a.put dst x).tmps[t]? = a.tmps[t]? := by
  cases dst with
  | none => rfl
  | some d => simp [Act.put, Array.getElem?_setIfInBounds_ne (fun q => h (congrArg some q))]
theorem put_size {dst : Option Nat} {x : Value} : (a.put dst x).tmps.size = a.tmps.size := by cases dst <;> simp [Act.put]
/-- One that was done ahead has come up. -/
theorem Inv.put (I : Inv P ops n w0 e0 dfs listed done pend s e a w) {p : PI} (hpm : p ∈ pend) (hi : listed.getD p.i true = false) (hpre : ∀ ed ∈ p.o.after, Region.binds .any ed = true → listed.getD ed.on false = true) {e' : E} {x : Value} {w' : World}
    (hs : e.sub e') (hle : e0.le e') (hv : vrel e' p.k.v x) (R' : Rel w0 e' s.h w') (hnew : ∀ p' ∈ pend, p'.i ≠ p.i → listed.getD p'.i false = false → ∀ b ob v, p'.k = .new b ob v → e'.ρ b = none ∧ e'.κ b = none ∧ b < s.h.nxt ∧ e0.lim ≤ b) :
    Inv P ops n w0 e0 dfs (listed.setIfInBounds p.i true) done pend s e' (a.put p.o.dst x) w' := by
  have gd : ∀ j, j ≠ p.i → (listed.setIfInBounds p.i true).getD j false = listed.getD j false := fun j hj => getD_set_ne false (Ne.symm hj)
  have gs := getD_set_self hi
  refine ⟨by simp [I.size], fun i h => ?_, fun i h1 h2 h3 => ?_, I.mem, I.pdn, I.chk, fun i o ho h ed hed hb => ?_, by rw [put_size]; exact I.tsz, fun t v ht hn => ?_, R', fun p' hp' hu b ob v hk => ?_, I.dis, I.nlt, hle, by rw [put_defers]; exact I.dfs⟩
  · by_cases hj : i = p.i
    · subst hj; exact I.pdn p hpm
    · rw [gd i hj] at h; exact I.sub i h
  · by_cases hj : i = p.i
    · subst hj; rw [gs] at h3; cases h3
    · rw [gd i hj] at h3; exact I.pnd i h1 h2 h3
  · by_cases hj : i = p.i
    · subst hj
      rw [I.mem p hpm] at ho
      cases ho
      have := hpre ed hed hb
      by_cases hj2 : ed.on = p.i
      · rw [hj2]; exact gs
      · rw [gd _ hj2]; exact this
    · rw [gd i hj] at h
      have := I.clo i o ho h ed hed hb
      by_cases hj2 : ed.on = p.i
      · rw [hj2]; exact gs
      · rw [gd _ hj2]; exact this
  · by_cases hd : p.o.dst = some t
    · have hc := I.chk p hpm
      unfold Ev.chk at hc
      simp only [Bool.and_eq_true] at hc
      have h1 := hc.1
      rw [hd] at h1
      simp only [Bool.and_eq_true] at h1
      obtain ⟨h2, h3⟩ := h1
      rw [ht] at h3
      have h3 := sameV_eq _ _ h3
      have h2 : t < n := Nat.le_of_ble_eq_true h2
      subst h3
      rw [hd]
      exact ⟨x, put_get_self (by rw [I.tsz]; exact h2), hv⟩
    · obtain ⟨y, h1, h2⟩ := I.tr t v ht (fun p' hp' hu => by
        by_cases hj : p'.i = p.i
        · have h3 := I.mem p' hp'
          rw [hj, I.mem p hpm] at h3
          rw [← Option.some.inj h3]
          exact hd
        · exact hn p' hp' (by rw [gd _ hj]; exact hu))
      exact ⟨y, by rw [put_get_ne hd]; exact h1, vrel_sub hs _ _ h2⟩
  · by_cases hj : p'.i = p.i
    · rw [hj, gs] at hu; cases hu
    · rw [gd _ hj] at hu
      exact hnew p' hp' hj hu b ob v hk
end
end Go.Proofs.YtjngkcnanhnopaaGreatDoor.Ev

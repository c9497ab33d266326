import Derived.Test.YtjngkcnanhnopaaGreatDoorJf
/-! Calls that were run by themselves ('memos'): what of the heap they look at, what they come to. -/
namespace Go.Proofs.YtjngkcnanhnopaaGreatDoor.Ev
open Go Go.RowKit
set_option linter.unusedVariables false
set_option linter.unusedSimpArgs false

structure Memo where
  nxt : Nat
  args : List V
  hp : List (Nat × O)
  wr : List Nat
  v : V
  out : List (Nat × O)
  nxt' : Nat
def keyB (l : List (Nat × O)) (b : Nat) : Bool := l.any fun p => Nat.beq p.1 b
theorem keyB_mem {l : List (Nat × O)} {b : Nat} (h : keyB l b = true) : ∃ o, (b, o) ∈ l := by
  obtain ⟨p, h1, h2⟩ := List.any_eq_true.1 h
  have := Nat.eq_of_beq_eq_true h2
  subst this
  exact ⟨p.2, h1⟩
def inN (l : List Nat) (b : Nat) : Bool := l.any (Nat.beq b)
theorem inN_mem {l : List Nat} {b : Nat} (h : inN l b = true) : b ∈ l := by
  obtain ⟨p, h1, h2⟩ := List.any_eq_true.1 h
  rw [Nat.eq_of_beq_eq_true h2]; exact h1
theorem inN_of {l : List Nat} {b : Nat} (h : b ∈ l) : inN l b = true := List.any_eq_true.2 ⟨b, h, Nat.beq_refl b⟩
def Memo.inH (m : Memo) : H := ⟨putL m.hp .leaf, m.nxt, m.nxt, []⟩
def memoIn (m : Memo) (h : H) (args : List V) : Bool := Nat.beq h.nxt m.nxt && (sameVs args m.args && m.hp.all fun p => isO (h.get p.1) p.2)
def delL : List Nat → Tr O → Tr O
  | [], t => t
  | p :: l, t => delL l (t.set p none)
theorem delL_get : ∀ (l : List Nat) (t : Tr O) (n : Nat) (o : O), (delL l t).get n = some o → t.get n = some o ∧ inN l n = false
  | [], t, n, o, h => ⟨h, rfl⟩
  | p :: l, t, n, o, h => by
    obtain ⟨h1, h2⟩ := delL_get l _ n o h
    rw [Tr.get_set] at h1
    by_cases e1 : n = p
    · rw [if_pos e1] at h1; cases h1
    · rw [if_neg e1] at h1
      refine ⟨h1, ?_⟩
      unfold inN at h2 ⊢
      rw [List.any_cons, h2, Bool.or_false]
      cases hh : Nat.beq n p with
      | false => rfl
      | true => exact absurd (Nat.eq_of_beq_eq_true hh) e1
def memoOut (m : Memo) (h : H) : H := ⟨putL m.out (delL m.wr h.heap), m.nxt', h.frz, (m.wr.filter fun b => Nat.blt b h.frz) ++ h.log⟩
/-- What the call was seen to come to. -/
def memoR (m : Memo) : Option (V × H) → Bool
  | some (v, h') => sameV v m.v && (m.out.all fun p => isO (h'.get p.1) p.2 && (Nat.ble m.nxt p.1 || inN m.wr p.1)) && Nat.beq h'.nxt m.nxt' && Nat.beq h'.frz m.nxt && (h'.log.all (inN m.wr) && m.wr.all (keyB m.hp))
  | none => false
def memoF (ms : List Memo) (h : H) (args : List V) : Option (V × H) := match ms with
  | [] => none
  | m :: l => cond (memoIn m h args) (some (m.v, memoOut m h)) (memoF l h args)
section
variable {P : Program} {w0 w w' : World} {e e' : E} {h : H}
/-- Less of a heap. -/
theorem Rel.less (R : Rel w0 e h w) {h2 : H} (hs : ∀ b o, h2.get b = some o → h.get b = some o) (h1 : h2.nxt = h.nxt) (hf : h2.frz = h.frz) (hl : h2.log = h.log) : Rel w0 e h2 w := by
  refine ⟨fun b o k q1 q2 => R.heap b o k (hs b o q1) q2, fun b k q => ?_, fun b k q => ?_, fun b b' k o o' q1 q2 q3 q4 => R.inj b b' k o o' q1 q2 (hs _ _ q3) (hs _ _ q4), fun b k q => ?_, ?_, fun b hb => ?_, ?_⟩
  · rw [h1]; exact R.lt b k q
  · rw [h1]; exact R.klt b k q
  · rw [hf, hl]; exact R.new b k q
  · rw [hl]; exact R.bel
  · cases hg : h2.get b with
    | none => rfl
    | some o => have q := hs b o hg; rw [R.fresh b (by rw [← h1]; exact hb)] at q; cases q
  · rw [h1]; exact R.lim
theorem isO_eq {a : Option O} {b : O} (h : isO a b = true) : a = some b := by
  cases a with
  | none => cases h
  | some a => rw [sameOb_eq _ _ h]
theorem memo_in (R : Rel w0 e h w) {m : Memo} {args : List V} (q : memoIn m h args = true) : Rel w e m.inH w ∧ args = m.args ∧ h.nxt = m.nxt ∧ ∀ b o, (b, o) ∈ m.hp → h.get b = some o := by
  unfold memoIn at q
  simp only [Bool.and_eq_true] at q
  obtain ⟨q1, q2, q3⟩ := q
  have q1 := Nat.eq_of_beq_eq_true q1
  have hin : ∀ b o, (b, o) ∈ m.hp → h.get b = some o := fun b o hm => isO_eq (List.all_eq_true.1 q3 _ hm)
  refine ⟨R.frozen.less (fun b o hg => ?_) q1.symm q1.symm rfl, sameVs_eq _ _ q2, q1, hin⟩
  rcases putL_get m.hp .leaf b o hg with hh | hh
  · exact hin b o hh
  · rw [Tr.get_leaf] at hh; cases hh
theorem memo_out (R : Rel w0 e h w) {m : Memo} (hn : h.nxt = m.nxt) (hin : ∀ b o, (b, o) ∈ m.hp → h.get b = some o) {v : V} {h' : H} (q : memoR m (some (v, h')) = true) (hle : e.le e') (R' : Rel w e' h' w') : v = m.v ∧ Rel w0 e' (memoOut m h) w' := by
  unfold memoR at q
  simp only [Bool.and_eq_true] at q
  obtain ⟨⟨⟨⟨q1, q2⟩, q3⟩, q4⟩, q5⟩ := q
  have q3 := Nat.eq_of_beq_eq_true q3
  have q4 := Nat.eq_of_beq_eq_true q4
  refine ⟨sameV_eq _ _ q1, ?_⟩
  have hlog : ∀ b ∈ h'.log, b ∈ m.wr := fun b hb => inN_mem (List.all_eq_true.1 q5.1 b hb)
  have hwr : ∀ b ∈ m.wr, ∃ o, h.get b = some o := fun b hb => by
    obtain ⟨o, ho⟩ := keyB_mem (List.all_eq_true.1 q5.2 b hb)
    exact ⟨o, hin b o ho⟩
  have hout : ∀ b o, (b, o) ∈ m.out → h'.get b = some o ∧ (m.nxt ≤ b ∨ b ∈ m.wr) := fun b o hm => by
    have := List.all_eq_true.1 q2 _ hm
    simp only [Bool.and_eq_true, Bool.or_eq_true] at this
    exact ⟨isO_eq this.1, this.2.imp Nat.le_of_ble_eq_true inN_mem⟩
  have hnn : h.nxt ≤ h'.nxt := by rw [← R.lim, ← R'.lim]; exact hle.lim
  have back : ∀ b k, b < h.nxt → e'.ρ b = some k → e.ρ b = some k := fun b k hlt hk => by
    cases he : e.ρ b with
    | none => rw [hle.old b (by rw [R.lim]; exact hlt) he] at hk; cases hk
    | some k' => rw [hle.ρ _ _ he] at hk; exact hk
  have inlt : ∀ b o, h.get b = some o → b < h.nxt := fun b o hg => Nat.lt_of_not_le fun hh => by rw [R.fresh b hh] at hg; cases hg
  have logA : ∀ k, logged e' h'.log k → ∃ b o, b ∈ m.wr ∧ h.get b = some o ∧ e.ρ b = some k := fun k hk => by
    obtain ⟨b, h1, h2⟩ := hk
    have h3 := hlog b h1
    obtain ⟨o, h4⟩ := hwr b h3
    exact ⟨b, o, h3, h4, back b k (inlt b o h4) h2⟩
  have notA : ∀ n o k, inN m.wr n = false → h.get n = some o → e.ρ n = some k → ¬ logged e' h'.log k := fun n o k hnA hg hk hl => by
    obtain ⟨b, ob, h1, h2, h3⟩ := logA k hl
    have := R.inj b n k ob o h3 hk h2 hg
    subst this
    rw [inN_of h1] at hnA
    cases hnA
  have hl2 : ∀ k, logged e h.log k → logged e' (memoOut m h).log k := fun k hk => hk.mono hle.ρ fun b hb => List.mem_append.2 (.inr hb)
  have hl3 : ∀ k, logged e' h'.log k → w0.heap.size ≤ k ∨ logged e' (memoOut m h).log k := fun k hk => by
    obtain ⟨b, ob, h1, h2, h3⟩ := logA k hk
    by_cases hf : b < h.frz
    · exact .inr ⟨b, List.mem_append.2 (.inl (List.mem_filter.2 ⟨h1, bltT.2 hf⟩)), hle.ρ _ _ h3⟩
    · exact ((R.new b k h3).1 (Nat.le_of_not_lt hf)).imp id (hl2 k)
  have src : ∀ n o, (memoOut m h).get n = some o → (h'.get n = some o ∧ (m.nxt ≤ n ∨ n ∈ m.wr)) ∨ (h.get n = some o ∧ inN m.wr n = false) := fun n o hg => by
    rcases putL_get m.out (delL m.wr h.heap) n o hg with hh | hh
    · exact .inl (hout n o hh)
    · exact .inr (delL_get _ _ _ _ hh)
  have cross : ∀ n o n' o' k, h'.get n = some o → (m.nxt ≤ n ∨ n ∈ m.wr) → e'.ρ n = some k → h.get n' = some o' → inN m.wr n' = false → e'.ρ n' = some k → False := fun n o n' o' k g1 g2 g3 g4 g5 g6 => by
    have g7 := back n' k (inlt n' o' g4) g6
    rcases g2 with g2 | g2
    · rcases (R'.new n k g3).1 (by rw [q4]; exact g2) with h1 | h1
      · have := (R.new n' k g7).2; omega
      · exact notA n' o' k g5 g4 g7 h1
    · obtain ⟨ob, h2⟩ := hwr n g2
      have := R.inj n n' k ob o' (back n k (inlt n ob h2) g3) g7 h2 g4
      subst this
      rw [inN_of g2] at g5
      cases g5
  refine ⟨fun n o k hg hk => ?_, fun n k hk => ?_, fun n k hk => ?_, fun n n' k o o' hk hk' hg hg' => ?_, fun n k hk => ?_, ?_, fun n hh => ?_, ?_⟩
  · rcases src n o hg with ⟨g1, _⟩ | ⟨g1, g2⟩
    · exact R'.heap n o k g1 hk
    · have g3 := back n k (inlt n o g1) hk
      rw [R'.bel.block k (R.new n k g3).2 (notA n o k g2 g1 g3)]
      exact orel_mono hle (R.heap n o k g1 g3)
  · show n < m.nxt'; rw [← q3]; exact R'.lt n k hk
  · show n < m.nxt'; rw [← q3]; exact R'.klt n k hk
  · rcases src n o hg with ⟨g1, g2⟩ | ⟨g1, g2⟩ <;> rcases src n' o' hg' with ⟨g3, g4⟩ | ⟨g3, g4⟩
    · exact R'.inj n n' k o o' hk hk' g1 g3
    · exact (cross n o n' o' k g1 g2 hk g3 g4 hk').elim
    · exact (cross n' o' n o k g3 g4 hk' g1 g2 hk).elim
    · exact R.inj n n' k o o' (back n k (inlt n o g1) hk) (back n' k (inlt n' o' g3) hk') g1 g3
  · by_cases hlt : n < h.nxt
    · have g1 := back n k hlt hk
      exact ⟨fun hf => ((R.new n k g1).1 hf).imp id (hl2 k), Nat.lt_of_lt_of_le (R.new n k g1).2 R'.bel.size⟩
    · refine ⟨fun _ => ?_, (R'.new n k hk).2⟩
      rcases (R'.new n k hk).1 (by rw [q4, ← hn]; exact Nat.le_of_not_lt hlt) with h1 | h1
      · exact .inl (Nat.le_trans R.bel.size h1)
      · exact hl3 k h1
  · refine ⟨R'.bel.os.trans R.bel.os, R'.bel.tape.trans R.bel.tape, R'.bel.output.trans R.bel.output, Nat.le_trans R.bel.size R'.bel.size, fun k hk hnl => ?_⟩
    rw [R'.bel.block k (Nat.lt_of_lt_of_le hk R.bel.size) (fun hl => ?_)]
    · exact R.bel.block k hk (fun hl => hnl (hl2 k hl))
    · rcases hl3 k hl with h1 | h1
      · omega
      · exact hnl h1
  · have hh : m.nxt' ≤ n := hh
    cases hg : (memoOut m h).get n with
    | none => rfl
    | some o =>
      rcases src n o hg with ⟨g1, _⟩ | ⟨g1, _⟩
      · rw [R'.fresh n (by rw [q3]; exact hh)] at g1; cases g1
      · have := inlt n o g1; omega
  · show e'.lim = m.nxt'; rw [← q3]; exact R'.lim
theorem memoF_some {args : List V} {v : V} {h1 : H} : ∀ {ms : List Memo}, memoF ms h args = some (v, h1) → ∃ m ∈ ms, memoIn m h args = true ∧ v = m.v ∧ h1 = memoOut m h
  | [], q => by cases q
  | m :: l, q => by
    unfold memoF at q
    cases hc : memoIn m h args with
    | true => rw [hc] at q; cases q; exact ⟨m, List.mem_cons_self, hc, rfl, rfl⟩
    | false =>
      rw [hc] at q
      obtain ⟨m', h1, h2⟩ := memoF_some q
      exact ⟨m', List.mem_cons_of_mem _ h1, h2⟩
end
/-- Some functions by their memos. -/
def memoSpec (spec : SpecT) : List (FuncId × List Memo) → SpecT
  | [], g => spec g
  | p :: l, g => cond (Nat.beq g p.1) (some (memoF p.2)) (memoSpec spec l g)
def memoB (call : CallT) (g : FuncId) (m : Memo) : Bool := memoR m (call (.fn g m.args) m.inH)
theorem memoSpec_ok {P : Program} {spec : SpecT} {call : CallT} (hsp : SpecOk P spec) (hc : CallOk P call) : ∀ (l : List (FuncId × List Memo)), (∀ p ∈ l, (∃ fn, P.funcs[p.1]? = some fn ∧ fn.body.isNone = false) ∧ ∀ m ∈ p.2, memoB call p.1 m = true) → SpecOk P (memoSpec spec l)
  | [], _ => hsp
  | p :: l, hl => by
    intro g f hf
    unfold memoSpec at hf
    cases hb : Nat.beq g p.1 with
    | false => rw [hb] at hf; exact memoSpec_ok hsp hc l (fun p hp => hl p (List.mem_cons_of_mem _ hp)) g f hf
    | true =>
      rw [hb] at hf
      cases hf
      have := Nat.eq_of_beq_eq_true hb
      subst this
      obtain ⟨h1, h2⟩ := hl p List.mem_cons_self
      refine ⟨h1, fun w0 e h w args v h' q R xs hv n => ?_⟩
      obtain ⟨m, hm, hin, rfl, rfl⟩ := memoF_some q
      have hB := h2 m hm
      obtain ⟨Rm, rfl, hn, hhp⟩ := memo_in R hin
      unfold memoB at hB
      cases hq : call (.fn p.1 m.args) m.inH with
      | none => rw [hq] at hB; cases hB
      | some r =>
        obtain ⟨v1, h1'⟩ := r
        rw [hq] at hB
        refine ((hc.fn hq Rm xs hv).2 n).mono ?_
        rintro en w' ⟨e', x, rfl, g1, g2, g3⟩
        obtain ⟨rfl, g4⟩ := memo_out R hn hhp hB g1 g3
        exact ⟨e', x, rfl, g1, g2, g4⟩
theorem callK_ok {P : Program} {ext : ExtT} {spec : SpecT} {d : Nat} (hm : P.follows .mixedOrders = true) (hnm : ∀ (g : FuncId) (fn : Func), P.funcs[g]? = some fn → (fn.name == "runtime.NumGoroutine") = false) (hex : ExtOk P ext) (hsp : SpecOk P spec) : CallOk P (evCallK P ext spec (drawK P) d) := by
  have e1 : evCallK P ext spec (drawK P) d = evCall P ext spec (drawF P) d := by rw [evCallK_eq, show drawK P = drawF P from funext fun call => drawK_eq P call]
  rw [e1]
  exact evCall_ok hnm hex hsp (fun call hc => drawF_ok hm hc) d
theorem bodies_mem {P : Program} {l : List FuncId} (hb : bodiesB P l = true) {g : FuncId} (hg : g ∈ l) : ∃ fn, P.funcs[g]? = some fn ∧ fn.body.isNone = false := by
  have hbody := List.all_eq_true.1 hb g hg
  split at hbody
  · rename_i fn hfn
    exact ⟨fn, hfn, by simpa using hbody⟩
  · cases hbody
/-- A function without arguments that says true. -/
theorem closed_true {P : Program} {ext : ExtT} {spec : SpecT} {d : Nat} {g : FuncId} (hm : P.follows .mixedOrders = true) (hnm : ∀ (g : FuncId) (fn : Func), P.funcs[g]? = some fn → (fn.name == "runtime.NumGoroutine") = false) (hex : ExtOk P ext) (hsp : SpecOk P spec) (hb : bodiesB P [g] = true) (h : runK P ext spec d g = true) :
    (∃ fn, P.funcs[g]? = some fn ∧ fn.body.isNone = false) ∧ ∀ W m, CallsIn Fence.wide m P g #[] W fun e W' => e = .returned (.bool true) ∧ Below W.heap.size W W' := by
  unfold runK at h
  cases hq : evCallK P ext spec (drawK P) d (.fn g []) ⟨.leaf, 0, 0, []⟩ with
  | none => rw [hq] at h; cases h
  | some r =>
    obtain ⟨v, h'⟩ := r
    rw [hq] at h
    have hv : v = .bool true ∧ h'.log = [] := by
      unfold isTrueV at h
      split at h
      · rename_i hh; cases hh; exact ⟨rfl, List.isEmpty_iff.1 h⟩
      · cases h
    obtain ⟨rfl, hlog⟩ := hv
    have hc := callK_ok (d := d) hm hnm hex hsp
    have R : ∀ W, Rel W ⟨fun _ => none, fun _ => none, 0⟩ ⟨.leaf, 0, 0, []⟩ W := fun W =>
      ⟨fun b o k _ hk => (by cases hk), fun b k hk => (by cases hk), fun b k hk => (by cases hk), fun b b' k o o' hk => (by cases hk), fun b k hk => (by cases hk), ⟨rfl, rfl, rfl, Nat.le_refl _, fun _ _ _ => rfl⟩, fun b _ => Tr.get_leaf b, rfl⟩
    refine ⟨?_, fun W m => ?_⟩
    · exact bodies_mem hb List.mem_cons_self
    · refine ((hc.fn hq (R W) [] (vrels_nil.2 rfl)).2 m).mono ?_
      rintro en w' ⟨e', x, rfl, h1, h2, h3⟩
      simp only [vrel] at h2
      subst h2
      exact ⟨rfl, h3.bel.below (fun k hk => by obtain ⟨b, hb, _⟩ := hk; rw [hlog] at hb; cases hb)⟩
/-- The memos of a function, one by one. -/
theorem memos_nil {call : CallT} {g : FuncId} : ∀ m ∈ ([] : List Memo), memoB call g m = true := fun _ h => by cases h
theorem memos_cons {call : CallT} {g : FuncId} {m : Memo} {l : List Memo} (h : memoB call g m = true) (hl : ∀ m ∈ l, memoB call g m = true) : ∀ m' ∈ m :: l, memoB call g m' = true := fun m' hm => by
  rcases List.mem_cons.1 hm with rfl | hm
  · exact h
  · exact hl m' hm
end Go.Proofs.YtjngkcnanhnopaaGreatDoor.Ev

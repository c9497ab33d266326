import Derived.Test.YtdammjolkcjogaaMn
/-! model: slices.Clone of values, Put, Row, Next. -/
namespace Go.Proofs.Ytdammjolkcjogaa
open Go.RowKit Go.Maps Go.MapKept Go.WideMaps
open Go.Proofs.YtdammjolkcjogaaW.PrintWords Go.Proofs.YtdammjolkcjogaaW.PrintLast Go.Proofs.YtdammjolkcjogaaW.PrintMore
open PModelNames
theorem max2_mx (k k' : IntKind) (x y : Int) : Builtin.max2 (.int k x) (.int k' y) = pure (.int k (mx x y)) := by rw [max2_int]; rfl
attribute [local go_sem] max2_mx max_two
set_option linter.unusedVariables false
set_option linter.unusedSimpArgs false

theorem R_empty {α : Type} (d : Kd α) (e : Nat) (W : World) (base : Nat) (hb : base ≤ W.heap.size) (ok : Nat → Prop) (ho : ok W.heap.size) : d.R e (W.alloc (.cells #[] e)) base ok (.slice (some ⟨W.heap.size, 0, none⟩) 0 0) [] :=
  ⟨fun k hk => by
    have : W.heap.size = k := by simpa [Value.ownBlock] using hk
    rw [← this]; exact ho, [], by simpa using World.ownsRow_lit (base := base) (e := e) (size := d.sz) W #[] 0 hb (by simp [maxLen]) (by simp), Reps.none _ _⟩

set_option maxRecDepth 100000 in
theorem cloneVals_nil (c : Nat) (w : World) :
    Calls Try.prog 22 #[.slice none 0 c] w fun e w' => e = .returned (.slice none 0 0) ∧ w' = w := by
  have hq := Lib.run_eql_slice_nil (P := Try.prog) w 25 53 none 0 c 0 0 Try.underlying25
  go_enter Try.func22, Try.ntmps22
  go_wp2
  go_ret
  exact ⟨rfl, rfl⟩

set_option maxRecDepth 100000 in
theorem cloneVals_some (a : Addr) (c : Nat) (xs : List AVal) (w : World) (hr : Kd.C kVal w (some a) xs.length xs) (hc : xs.length ≤ c) (hl : xs.length < 3518437208883) :
    Calls Try.prog 22 #[.slice (some a) xs.length c] w fun e w' => ∃ v, e = .returned v ∧ Kd.R kVal 53 w' w.heap.size (fun _ => True) v xs ∧ Below w.heap.size w w' := by
  have HR := Aside0.mk hr
  have HC := Aside0.mk hc
  have HL := Aside0.mk hl
  clear hr hc hl
  have hq := Lib.run_eql_slice_nil (P := Try.prog) w 25 53 (some a) xs.length c 0 0 Try.underlying25
  go_enter Try.func22, Try.ntmps22
  go_wp2_with (at_builtin; refine Kd.R_append_rows kVal (w0 := w) w.heap.size rfl (.tmp 5) (.tmp 6) 25 53 (.agg #[(.int .u8 0), (.int .i64 0), (.int .i64 0), (.string ⟨#[]⟩)]) 40 rfl Try.underlying25 info53 rfl (by decide) (by omega) (.slice (some ⟨w.heap.size, 0, none⟩) 0 0) [] xs _ _ _ (fun _ => True) (fun _ => False) rfl rfl (R_empty kVal 53 w w.heap.size (Nat.le_refl _) (fun _ => True) trivial) (Kd.C_below HR.out ((Below.refl _ _).alloc (Nat.le_refl _) _)) (fun _ _ h => h) (fun _ h => h.elim) (fun _ _ => trivial) ((Below.refl _ _).alloc (Nat.le_refl _) _) (by simp) (by have := HL.out; simp; omega) ?_; intro v1 w1 ho hb hg hat; replace ho := Aside0.mk ho)
  go_ret
  exact ⟨v1, rfl, by simpa using ho.out, hb⟩

theorem cloneVals (v : Value) (xs : List AVal) (w : World) (ok : Nat → Prop) (hr : Kd.R kVal 53 w 0 ok v xs) (hl : xs.length < 3518437208883) :
    Calls Try.prog 22 #[v] w fun e w' => ∃ v1, e = .returned v1 ∧ Kd.R kVal 53 w' w.heap.size (fun _ => True) v1 xs ∧ Below w.heap.size w w' := by
  obtain ⟨a, c, rfl, hc, h2⟩ := Kd.R_reads hr
  cases a with
  | some a => exact cloneVals_some a c xs w h2 hc hl
  | none =>
    have h0 : xs.length = 0 := by
      rcases Nat.eq_zero_or_pos xs.length with h | h
      · exact h
      · obtain ⟨ad, he, _⟩ := h2.2.2 h
        cases he
    obtain rfl := List.length_eq_zero_iff.1 h0
    refine (cloneVals_nil c w).mono ?_
    rintro e w' ⟨rfl, rfl⟩
    exact ⟨_, rfl, Kd.R_nil _ _ _ _ _, Below.refl _ _⟩

/-- The same, of whatever reads as those values. -/
theorem cloneC (A : Option Addr) (c : Nat) (xs : List AVal) (w : World) (hr : Kd.C kVal w A xs.length xs) (hc : xs.length ≤ c) (hl : xs.length < 3518437208883) :
    Calls Try.prog 22 #[.slice A xs.length c] w fun e w' => ∃ v1, e = .returned v1 ∧ Kd.R kVal 53 w' w.heap.size (fun _ => True) v1 xs ∧ Below w.heap.size w w' := by
  cases A with
  | some a => exact cloneVals_some a c xs w hr hc hl
  | none =>
    have h0 : xs.length = 0 := by
      rcases Nat.eq_zero_or_pos xs.length with h | h
      · exact h
      · obtain ⟨ad, he, _⟩ := hr.2.2 h
        cases he
    obtain rfl := List.length_eq_zero_iff.1 h0
    refine (cloneVals_nil c w).mono ?_
    rintro e w' ⟨rfl, rfl⟩
    exact ⟨_, rfl, Kd.R_nil _ _ _ _ _, Below.refl _ _⟩
def MI.put (I : MI) (no id : Int) (xs : List AVal) : MI := ⟨fun n i => if n = no ∧ i = id then some xs else I.rows n i, fun n => if n = no then mx (I.last no) id else I.last n⟩
def MI.withRow (I : MI) (no id : Int) (xs : List AVal) : MI := { I with rows := fun n i => if n = no ∧ i = id then some xs else I.rows n i }
def MI.withLast (I : MI) (no l : Int) : MI := { I with last := fun n => if n = no then l else I.last n }
theorem MI.withRow_rows (I : MI) (no id : Int) (xs : List AVal) (n i : Int) : (I.withRow no id xs).rows n i = if n = no ∧ i = id then some xs else I.rows n i := rfl
def updr (rv : Int → Int → Option Value) (no id : Int) (v : Value) : Int → Int → Option Value := fun n => if n = no then upd (rv no) id (some v) else rv n
section
variable {w w5 w6 : World} {m : Nat} {I : MI} {F : Nat → Prop} {mb : Nat} {tb : Int → Option (Nat × Nat)} {rv : Int → Int → Option Value} {no id : Int} {t r : Nat} {v : Value} {xs : List AVal}
theorem map_chg_R {α : Type} {d : Kd α} {e base : Nat} {ok : Nat → Prop} {u : Value} {ys : List α} {β γ : Type} {kv : β → Value} {ev : γ → Value} {okk : β → Prop} {g : β → Option γ} {a b : World} (h : Kd.R d e a base ok u ys) (hm : MapOf kv ev okk a r g) (hc : Chg a b (fun k => k = r)) : Kd.R d e b base ok u ys :=
  R_chg h hc (fun k q cells _ _ hk e => by
    obtain ⟨es, c, he⟩ := hm.isMap
    rw [e, he] at hk
    cases hk)
theorem InstAt.putrow (H : InstAt w m I F mb tb rv) (h : tb no = some (t, r)) (hB : Below w.heap.size w w5) (hv : Kd.R kVal 53 w5 w.heap.size (fun _ => True) v xs) (hm : MapOf (Value.int .i64) _root_.id okI w6 r (upd (rv no) id (some v))) (hc : Chg w5 w6 (fun k => k = r)) :
    InstAt w6 m (I.withRow no id xs) (ext F w w6) mb tb (updr rv no id v) := by
  have H5 := H.below hB
  obtain ⟨b1, b2, b3, b4, b5⟩ := H5.tabs no t r h
  have hs := hB.size
  have hs6 := hc.size
  have hcell : ∀ {k : Nat} {cs : Array Value} {ty : TypeId} {fr : Nat × Nat}, w5.heap[k]? = some (.cells cs ty fr) → k ≠ r := fun hk e => by
    obtain ⟨es, c, he⟩ := b2.isMap
    rw [e, he] at hk
    cases hk
  exact {
    blk := (hc.block m (H5.bound m H5.mF) (hcell H5.blk)).trans H5.blk
    amap := H5.amap.chg hc (Ne.symm b5)
    tabs := fun no' t' r' h' => by
      obtain ⟨a1, a2, a3, a4, a5⟩ := H5.tabs no' t' r' h'
      refine ⟨(hc.block t' (H5.bound t' a3) (hcell a1)).trans a1, ?_, .inl a3, .inl a4, a5⟩
      by_cases e : no' = no
      · subst e
        rw [h] at h'
        injection h' with h'
        injection h' with e1 e2
        subst e2
        unfold updr
        rw [if_pos rfl]
        exact hm
      · unfold updr
        rw [if_neg e]
        exact a2.chg hc (fun e2 => (H.apart no' no t' r' t r h' h e).2 e2)
    off := fun no' h' => by
      have e : no' ≠ no := fun e => by rw [e, h] at h'; cases h'
      unfold updr
      rw [if_neg e]
      exact H.off no' h'
    vals := fun no' id' u h' => by
      unfold updr at h'
      by_cases e : no' = no
      · subst e
        rw [if_pos rfl] at h'
        by_cases e2 : id' = id
        · subst e2
          rw [upd_same] at h'
          injection h' with h'
          subst h'
          refine ⟨xs, by rw [MI.withRow_rows]; exact if_pos ⟨rfl, rfl⟩, Kd.R_lower (Kd.R_mono (map_chg_R (Kd.R_bound hv) b2 hc) (fun k hk => .inr ⟨hk.2.1, by have := hk.2.2.1; omega⟩)) (Nat.zero_le _)⟩
        · rw [upd_other _ _ e2] at h'
          obtain ⟨l, a1, a2⟩ := H5.vals no' id' u h'
          exact ⟨l, by rw [MI.withRow_rows, if_neg (fun h => e2 h.2)]; exact a1, Kd.R_mono (map_chg_R a2 b2 hc) (fun k hk => .inl hk)⟩
      · rw [if_neg e] at h'
        obtain ⟨l, a1, a2⟩ := H5.vals no' id' u h'
        exact ⟨l, by rw [MI.withRow_rows, if_neg (fun h => e h.1)]; exact a1, Kd.R_mono (map_chg_R a2 b2 hc) (fun k hk => .inl hk)⟩
    none_ := fun no' id' h' => by
      unfold updr at h'
      by_cases e : no' = no
      · subst e
        rw [if_pos rfl] at h'
        by_cases e2 : id' = id
        · subst e2
          rw [upd_same] at h'
          cases h'
        · rw [upd_other _ _ e2] at h'
          rw [MI.withRow_rows, if_neg (fun h => e2 h.2)]
          exact H.none_ no' id' h'
      · rw [if_neg e] at h'
        rw [MI.withRow_rows, if_neg (fun h => e h.1)]
        exact H.none_ no' id' h'
    apart := H.apart
    mF := .inl H.mF
    bF := .inl H.bF
    bound := fun k hk => by
      rcases hk with hk | hk
      · have := H.bound k hk; omega
      · exact hk.2 }
theorem InstAt.setlast (H : InstAt w m I F mb tb rv) (h : tb no = some (t, r)) (l : Int) : InstAt (w.setCell ⟨t, 1, none⟩ (.int .i64 l)) m (I.withLast no l) F mb tb rv ∧ Chg w (w.setCell ⟨t, 1, none⟩ (.int .i64 l)) (fun k => k = t) := by
  have hc : Chg w (w.setCell ⟨t, 1, none⟩ (.int .i64 l)) (fun k => k = t) := (Chg.refl w (fun k => k = t)).setCell (p := ⟨t, 1, none⟩) (.inl rfl) _
  obtain ⟨b1, b2, b3, b4, b5⟩ := H.tabs no t r h
  have hne := H.tne h
  have hb6 := blk_set b1 1 (.int .i64 l)
  refine ⟨?_, hc⟩
  exact {
    blk := (hc.block m (H.bound m H.mF) (Ne.symm hne.1)).trans H.blk
    amap := H.amap.chg hc (Ne.symm hne.2.1)
    tabs := fun no' t' r' h' => by
      obtain ⟨a1, a2, a3, a4, a5⟩ := H.tabs no' t' r' h'
      have hr' : r' ≠ t := fun e => by
        obtain ⟨es, c, he⟩ := a2.isMap
        rw [e, b1] at he
        cases he
      refine ⟨?_, a2.chg hc hr', a3, a4, a5⟩
      unfold MI.withLast
      by_cases e : no' = no
      · subst e
        rw [h] at h'
        injection h' with h'
        injection h' with e1 e2
        subst e1
        subst e2
        simpa using hb6
      · simp only [if_neg e]
        exact (hc.block t' (H.bound t' a3) (fun e2 => (H.apart no' no t' r' t r h' h e).1 e2)).trans a1
    off := fun no' h' => by
      have e : no' ≠ no := fun e => by rw [e, h] at h'; cases h'
      unfold MI.withLast
      simp only [if_neg e]
      exact H.off no' h'
    vals := fun no' id' u h' => by
      obtain ⟨l', a1, a2⟩ := H.vals no' id' u h'
      refine ⟨l', a1, R_typ a2 b1 (fun q hq => ?_) hc⟩
      have hq2 : q ∈ ([53] : List Nat) := hq
      simp at hq2
      subst hq2
      decide
    none_ := H.none_
    apart := H.apart
    mF := H.mF
    bF := H.bF
    bound := fun k hk => by have := H.bound k hk; have := hc.size; omega }
theorem table_calls (H : InstAt w m I F mb tb rv) (no : Int) (ho : okI no) : Calls Try.prog 21 #[.pointer (some ⟨m, 0, none⟩), .int .i64 no] w fun e w' => ∃ t r tb', e = .returned (.pointer (some ⟨t, 0, none⟩)) ∧ InstAt w' m I (ext F w w') mb tb' rv ∧ tb' no = some (t, r) ∧ Chg w w' F ∧ ∀ n x, tb' n = some x → n = no ∨ tb n = some x := by
  cases h : tb no with
  | none =>
    refine (table_new H h ho).mono ?_
    rintro e w' ⟨t, r, rfl, h1, h2⟩
    exact ⟨t, r, _, rfl, h1, upd_same _ _ _, h2, fun n x hn => by
      by_cases e : n = no
      · exact .inl e
      · rw [upd_other _ _ e] at hn
        exact .inr hn⟩
  | some x =>
    obtain ⟨t, r⟩ := x
    refine (table_old H h ho).mono ?_
    rintro e w' ⟨rfl, rfl⟩
    exact ⟨t, r, tb, rfl, H.mono (fun k hk => .inl hk) (fun k hk => by
      rcases hk with hk | hk
      · exact H.bound k hk
      · exact hk.2), h, Chg.refl _ _, fun n x hn => .inr hn⟩
end
end Go.Proofs.Ytdammjolkcjogaa

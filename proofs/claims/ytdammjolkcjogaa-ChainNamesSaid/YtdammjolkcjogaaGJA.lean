import Derived.Test.YtdammjolkcjogaaGKC
import Derived.Maps.RangeRun
/-! The evaluator that goes all ways: whichever entry of a map comes next. Rows and code. -/
namespace Go.Proofs.Ytdammjolkcjogaa.Ev
open Go Go.RowKit
set_option linter.unusedVariables false
set_option linter.unusedSimpArgs false

/-- All that may come; none: not known. -/
abbrev OutL (α : Type) := Option (List α)
def goL {α β : Type} (f : α → OutL β) : List α → OutL β
  | [] => some []
  | a :: l => match f a, goL f l with
    | some x, some y => some (x ++ y)
    | _, _ => none
def bindL {α β : Type} (o : OutL α) (f : α → OutL β) : OutL β := match o with
  | some l => goL f l
  | none => none
def oneL {α : Type} (o : Option α) : OutL α := match o with
  | some a => some [a]
  | none => none
theorem goL_mem {α β : Type} {f : α → OutL β} : ∀ {l : List α} {rs : List β}, goL f l = some rs → ∀ a ∈ l, ∃ x, f a = some x ∧ ∀ r ∈ x, r ∈ rs
  | [], rs, _, a, ha => by cases ha
  | b :: l, rs, h, a, ha => by
    unfold goL at h
    split at h
    · rename_i x y hx hy
      cases h
      rcases List.mem_cons.1 ha with rfl | ha
      · exact ⟨x, hx, fun r hr => List.mem_append.2 (.inl hr)⟩
      · obtain ⟨z, hz, hz2⟩ := goL_mem hy a ha
        exact ⟨z, hz, fun r hr => List.mem_append.2 (.inr (hz2 r hr))⟩
    · cases h
theorem bindL_some {α β : Type} {o : OutL α} {f : α → OutL β} {rs : List β} (h : bindL o f = some rs) : ∃ l, o = some l ∧ ∀ a ∈ l, ∃ x, f a = some x ∧ ∀ r ∈ x, r ∈ rs := by
  unfold bindL at h
  split at h
  · rename_i l
    exact ⟨l, rfl, goL_mem h⟩
  · cases h
theorem oneL_some {α : Type} {o : Option α} {rs : List α} (h : oneL o = some rs) : ∃ a, o = some a ∧ rs = [a] := by
  cases o with
  | none => cases h
  | some a => cases h; exact ⟨a, rfl, rfl⟩
def nextN (h : H) (it : V) : OutL (V × H) :=
  match it with
  | .ptr (some (b, 0)) => (match h.getW b with
    | some (.iter none _ _ _) => some [(.tuple [.bool false], h)]
    | some (.iter (some m) olds seen ls) => (match h.get m with
      | some (.map es ls') => cond (sameLs ls ls' && es.all fun e => olds.contains e.2.2) (match es.filter (fun e => !(seen.contains e.2.2)) with
        | [] => some [(.tuple [.bool false], h)]
        | l => some (l.map fun p => (.tuple [.bool true, p.1, p.2.1], h.set b (some (.iter (some m) olds (seen ++ [p.2.2]) ls'))))) none
      | _ => none)
    | _ => none)
  | _ => none
section
variable {P : Program} {w0 w : World} {e : E} {h : H}
theorem mrel_mem : ∀ {es : List (V × V × Nat)} {l : List MapEntry}, mrel e es l → ∀ x ∈ l, ∃ p ∈ es, vrel e p.1 x.key ∧ vrel e p.2.1 x.val ∧ e.κ p.2.2 = some x.born
  | [], _, hm, x, hx => by have hm : _ = [] := hm; subst hm; cases hx
  | (k, v, s) :: es, _, ⟨y, r, q1, q2, q3, q4, q5⟩, x, hx => by
    subst q1
    rcases List.mem_cons.1 hx with rfl | hx
    · exact ⟨_, List.mem_cons_self, q2, q3, q4⟩
    · obtain ⟨p, hp, h1⟩ := mrel_mem q5 x hx
      exact ⟨p, List.mem_cons_of_mem _ hp, h1⟩
theorem run_nextN (R : Rel w0 e h w) {it : V} {it' : Value} {rs : List (V × H)} (ty : TypeId) (hi : vrel e it it') (q : nextN h it = some rs) :
    ∃ r ∈ rs, ∃ w' z, (Instr.next it' false ty).run P w = .ok z w' ∧ vrel e r.1 z ∧ Rel w0 e r.2 w' := by
  unfold nextN at q
  split at q
  · rename_i b
    simp only [vrel] at hi
    obtain ⟨kb, hkb, rfl⟩ := hi
    split at q
    · rename_i hg
      obtain ⟨hfz, hg⟩ := H.getW_some hg
      cases q
      obtain ⟨m', since, seen', last, r1, r2, _⟩ := R.heap b _ kb hg hkb
      have r2 := r2 rfl
      subst r2
      have hgo : (getObj kb).run P w = .ok (.mapIter none since ⟨seen'⟩ last) w := by simp [getObj, Sem.run, r1]
      refine ⟨_, List.mem_cons_self, w, .tuple #[.bool false], by simp [Instr.next, hgo], ?_, R⟩
      simp only [vrel]
      exact ⟨_, rfl, vrels_one (by simp only [vrel])⟩
    · rename_i m olds seen ls hg
      obtain ⟨hfz, hg⟩ := H.getW_some hg
      split at q
      · rename_i es ls' hgm
        cases hall0 : (sameLs ls ls' && es.all fun e => olds.contains e.2.2) with
        | false => rw [hall0] at q; cases q
        | true =>
          rw [hall0] at q
          simp only [cond_true] at q
          obtain ⟨hls, hall⟩ := (Bool.and_eq_true _ _).mp hall0
          have hls := sameLs_eq hls
          subst hls
          obtain ⟨m', since, seen', last, r1, _, r3, r4, r5, r6, r7, r8, r9, r10⟩ := R.heap b _ kb hg hkb
          obtain ⟨km, hkm, rfl⟩ := r3 m rfl
          obtain ⟨l, clk, es', t1, tp, t2, t3, t4, t5⟩ := R.map hgm hkm
          have hclk := crel_eq r8 t5
          have hall' : (es'.all fun e => olds.contains e.2.2) = true := List.all_eq_true.2 fun p hp => List.all_eq_true.1 hall p (tp.mem_iff.2 hp)
          have tpf := tp.filter (fun e : V × V × Nat => !(seen.contains e.2.2))
          subst hclk
          subst r7
          have hold : ∀ x ∈ l, x.born < since := by
            intro x hx
            obtain ⟨p, hp, _, _, hs⟩ := mrel_mem t2 x hx
            exact r5 p.2.2 (by simpa using List.all_eq_true.1 hall' p hp) _ hs
          have hfil := mrel_filter r4 r9 r10 t2 hall'
          have hleft : leftOf (⟨l⟩ : Array MapEntry) ⟨seen'⟩ = ⟨l.filter fun x => !(seen'.contains x.born)⟩ := by
            unfold leftOf
            apply Array.ext'
            simp
          have hlt := (R.new _ _ hkb).2
          rcases run_next_at (P := P) w ty kb km since since ⟨seen'⟩ ⟨l⟩ since r1 t1 (by simpa using hold) (Nat.le_refl _) with ⟨h0, hrun⟩ | ⟨x, hx, w1, hw1, hrun⟩
          · rw [hleft] at h0
            have h0 : (l.filter fun x => !(seen'.contains x.born)) = [] := List.eq_nil_of_length_eq_zero (by simpa using h0)
            rw [h0] at hfil
            have he : (es.filter fun x => !(seen.contains x.2.2)) = [] := by
              have he' : (es'.filter fun x => !(seen.contains x.2.2)) = [] := by
                cases hh : es'.filter fun x => !(seen.contains x.2.2) with
                | nil => rfl
                | cons p t =>
                  rw [hh] at hfil
                  obtain ⟨k, v, s⟩ := p
                  obtain ⟨y, r, q1, _⟩ := hfil
                  cases q1
              rw [he'] at tpf
              exact tpf.eq_nil
            rw [he] at q
            cases q
            refine ⟨_, List.mem_cons_self, w, _, hrun, ?_, R⟩
            simp only [vrel]
            exact ⟨_, rfl, vrels_one (by simp only [vrel])⟩
          · rw [hleft] at hx
            obtain ⟨p, hp', p2, p3, p4⟩ := mrel_mem hfil x (by simpa using hx)
            have hp := tpf.mem_iff.2 hp'
            have hs0 : p.2.2 ∈ olds := by
              have h1 := (List.mem_filter.1 hp).1
              simpa using List.all_eq_true.1 hall _ h1
            have hrs : (.tuple [.bool true, p.1, p.2.1], h.set b (some (.iter (some m) olds (seen ++ [p.2.2]) ls))) ∈ rs := by
              split at q
              · rename_i hf
                rw [hf] at hp
                cases hp
              · cases q
                exact List.mem_map.2 ⟨p, hp, rfl⟩
            have R1 : Rel w0 e h w1 := by
              rcases hw1 with rfl | rfl
              · exact R
              · exact R.drew
            have hlt1 := (R1.new _ _ hkb).2
            refine ⟨_, hrs, _, _, hrun, ?_, ?_⟩
            · simp only [vrel]
              exact ⟨[.bool true, x.key, x.val], rfl, vrels_cons.2 ⟨_, _, rfl, by simp only [vrel], vrels_cons.2 ⟨_, _, rfl, p2, vrels_one p3⟩⟩⟩
            · refine R1.upd (w' := w1.putObj kb _) hkb hfz hg (grownBy_putObj' _ _ _) ?_
              rw [World.putObj_heap_same hlt1]
              refine ⟨some km, since, seen' ++ [x.born], since, by simp, (fun hh => nomatch hh), fun r' hr => by cases hr; exact ⟨km, hkm, rfl⟩, srel_snoc r4 p4, r5, r6, ?_, t5, ?_, r10⟩
              · rfl
              · intro s hs
                rcases List.mem_append.1 hs with hs | hs
                · exact r9 s hs
                · simp at hs; subst hs; exact hs0
      · cases q
    · cases q
  · cases q
end
/-- How far in its block a slice stands whose capacity is not known. -/
def endC (sl : Nat) : Cap → Option Nat
  | .upto q _ => some q
  | .tail q => cond (Nat.beq sl 0) (some q) none
  | .exact _ => none
/-- An append to a slice that stands in the midst of its array: in place, or into a new array. -/
def appForkN (P : Program) (h : H) (ats : Array TypeId) (s x : V) : OutL (V × H) :=
  match ats[0]?, ats[1]? with
  | some st, some xt => (match P.underlying st, P.underlying xt with
    | some (.slice el), some d => (match sz P el, zer P el, P.info? el with
      | some size, some z, some i => (match newX P h d size z x with
        | some (n, new) => cond (Nat.blt 0 size && Nat.beq z.cells.length size && Nat.ble i.bytes 65536 && Nat.blt 0 i.bytes && new.all V.one && Nat.beq new.length (n * size)) (match s with
          | .slice (some (b, o)) sl c => (match endC sl c with
            | some q => cond (Nat.beq o (q * size) && Nat.ble (sl + n) 16777216 && Nat.blt 0 n) (match h.getW b with
              | some (.cells l t (some s')) => cond (Nat.beq s' size && Nat.beq t el && Nat.ble (o + sl * size) l.length)
                  (some [(.slice (some (b, o)) (sl + n) (.upto q (sl + n)), h.set b (some (.cells (l.take (o + sl * size) ++ new ++ l.drop (o + sl * size + n * size)) t (some s')))),
                    (.slice (some (h.nxt, 0)) (sl + n) (.upto 0 (sl + n)), h.new (.cells ((l.drop o).take (sl * size) ++ new) el (some size)))]) none
              | _ => none) none
            | none => none)
          | _ => none) none
        | none => none)
      | _, _, _ => none)
    | _, _ => none)
  | _, _ => none
section
variable {P : Program} {w0 w : World} {e : E} {h : H}
theorem endC_some {sl q b o : Nat} {c : Cap} {v : Value} (hc : endC sl c = some q) (hv : vrel e (.slice (some (b, o)) sl c) v) : ∃ k C a, e.ρ b = some k ∧ e.κ b = some C ∧ q + sl ≤ C ∧ (q < C → a = ⟨k, o, none⟩) ∧ v = .slice (some a) sl (C - q) := by
  cases c with
  | exact c => cases hc
  | upto q' m =>
    cases hc
    simp only [vrel] at hv
    obtain ⟨k, C, h1, h2, ⟨h3, h4⟩, rfl⟩ := hv
    exact ⟨k, C, _, h1, h2, by omega, fun _ => rfl, rfl⟩
  | tail q' =>
    unfold endC at hc
    cases hb : Nat.beq sl 0 with
    | false => rw [hb] at hc; cases hc
    | true =>
      rw [hb] at hc
      cases hc
      simp only [vrel] at hv
      obtain ⟨rfl, k, C, a, h1, h2, h3, h4, rfl⟩ := hv
      exact ⟨k, C, a, h1, h2, h3, h4, rfl⟩
theorem run_appForkN (R : Rel w0 e h w) {ats : Array TypeId} {ty : Nat} {s x : V} {s' x' : Value} {rs : List (V × H)} (hs' : vrel e s s') (hx : vrel e x x') (q : appForkN P h ats s x = some rs) :
    ∃ r ∈ rs, ∃ e' w' z, (Builtin.append_ ats ty #[s', x']).run P w = .ok z w' ∧ e.le e' ∧ vrel e' r.1 z ∧ Rel w0 e' r.2 w' := by
  unfold appForkN at q
  split at q
  · rename_i st xt h0 h1
    split at q
    · rename_i el d hu hd
      split at q
      · rename_i size z i hs hz hi
        split at q
        · rename_i n new hnew
          cases hc : (Nat.blt 0 size && Nat.beq z.cells.length size && Nat.ble i.bytes 65536 && Nat.blt 0 i.bytes && new.all V.one && Nat.beq new.length (n * size)) with
          | false => rw [hc] at q; cases q
          | true =>
            rw [hc] at q
            simp only [cond_true] at q
            simp only [Bool.and_eq_true] at hc
            obtain ⟨⟨⟨⟨⟨c1, c2⟩, c3⟩, c4⟩, c5⟩, c6⟩ := hc
            have c1 : 0 < size := Nat.le_of_ble_eq_true c1
            have c2 := Nat.eq_of_beq_eq_true c2
            have c3 := Nat.le_of_ble_eq_true c3
            have c4 : 0 < i.bytes := Nat.le_of_ble_eq_true c4
            have c6 := Nat.eq_of_beq_eq_true c6
            obtain ⟨it, z', g1, g2, g3⟩ := zer_info hz
            rw [hi] at g1
            cases g1
            have hzsz : z'.cells.size = size := by
              have := vrels_len (vrel_cells (toV_junk 12 z' z g3) (toV_rel (e := e) 12 z' z g3))
              simpa [c2] using this
            obtain ⟨vs, A, hvr⟩ := run_newX (P := P) (ty := ty) R h0 h1 hu hd hs c1 hi g2 g3 c3 (by omega) hzsz hx hnew
            have hvl := vrels_len hvr
            split at q
            · rename_i b o sl c
              split at q
              · rename_i qq hec
                obtain ⟨k, C, a, hk, hC, hcl, hap, rfl⟩ := endC_some hec hs'
                cases hc1 : (Nat.beq o (qq * size) && Nat.ble (sl + n) 16777216 && Nat.blt 0 n) with
                | false => rw [hc1] at q; cases q
                | true =>
                  rw [hc1] at q
                  simp only [cond_true] at q
                  simp only [Bool.and_eq_true] at hc1
                  have ho := Nat.eq_of_beq_eq_true hc1.1.1
                  have hne := Nat.le_of_ble_eq_true hc1.1.2
                  have hn0 : 0 < n := Nat.le_of_ble_eq_true hc1.2
                  subst ho
                  split at q
                  · rename_i l t s2 hb
                    obtain ⟨_, hb⟩ := H.getW_some hb
                    cases hc2 : (Nat.beq s2 size && Nat.beq t el && Nat.ble (qq * size + sl * size) l.length) with
                    | false => rw [hc2] at q; cases q
                    | true =>
                      rw [hc2] at q
                      cases q
                      simp only [Bool.and_eq_true] at hc2
                      obtain ⟨⟨d1, d2⟩, d3⟩ := hc2
                      have d1 := Nat.eq_of_beq_eq_true d1
                      have d2 := Nat.eq_of_beq_eq_true d2
                      subst d1 d2
                      have d3 := Nat.le_of_ble_eq_true d3
                      obtain ⟨cs, rest, t1, t2, _, t4⟩ := R.cells hb hk
                      obtain ⟨C', t5, t6⟩ := t4 s2 rfl
                      rw [hC] at t5
                      cases t5
                      have lcs := vrels_len t2
                      by_cases hfit : sl + n ≤ C - qq
                      · have hq : qq < C := by omega
                        have := hap hq
                        subst this
                        have hroom : qq * s2 + sl * s2 + n * s2 ≤ (cs ++ rest).length := by
                          rw [t6, ← Nat.add_mul, ← Nat.add_mul]
                          exact Nat.mul_le_mul_right _ (by omega)
                        have hst := run_storeCells_at P k (qq * s2 + sl * s2) t vs 0 ⟨cs ++ rest⟩ w t1 (by
                          show qq * s2 + sl * s2 + 0 + vs.length ≤ (cs ++ rest).length
                          rw [hvl, c6]
                          omega) (one_cells c5 hvr)
                        simp only [Nat.add_zero] at hst
                        have happ := A.fit (some ⟨k, qq * s2, none⟩) _ _ hfit
                        simp only [addr_add, hst, Result.andThen_ok] at happ
                        refine ⟨_, List.mem_cons_self, e, _, _, happ, E.le.refl e, ?_, ?_⟩
                        · simp only [vrel]
                          exact ⟨k, C, hk, hC, ⟨by omega, Nat.le_refl _⟩, rfl⟩
                        · refine R.upd hk trivial hb (grown_setRow _ _ _) ?_
                          rw [setRow_heap w k _ _ t (0, 0) t1]
                          refine ⟨cs.take (qq * s2 + sl * s2) ++ vs ++ cs.drop (qq * s2 + sl * s2 + n * s2), rest.drop (qq * s2 + sl * s2 + n * s2 - cs.length), C, ?_, vrels_append (vrels_append (vrels_take _ t2) hvr) (vrels_drop _ t2), hC, ?_⟩
                          · have e1 : vs.length = n * s2 := by rw [hvl, c6]
                            rw [List.take_append_of_le_length (by omega), List.drop_append, e1]
                            simp only [List.append_assoc]
                          · have e1 : vs.length = n * s2 := by rw [hvl, c6]
                            rw [List.length_append] at hroom t6
                            simp only [List.length_append, List.length_take, List.length_drop, e1]
                            omega
                      · obtain ⟨C1, rest1, k1, k2, k3⟩ := A.grow (some a) sl (C - qq) ((cs.drop (qq * s2)).take (sl * s2)) hfit hne (fun w2 hw => by
                          by_cases hsl : sl = 0
                          · subst hsl
                            simp [Builtin.firstCells, loadCells, loadCellsFrom]
                          · have := hap (by omega)
                            subst this
                            have h1' : w2.heap[k]? = some (.cells ⟨cs ++ rest⟩ t (0, 0)) := (heap_drew hw k).trans t1
                            have := run_loadCells_list (P := P) (w := w2) ⟨k, qq * s2, none⟩ ((cs.drop (qq * s2)).take (sl * s2)) (fun j v hj => by
                              rw [addr_add]
                              rw [List.getElem?_take] at hj
                              split at hj
                              · rw [List.getElem?_drop] at hj
                                simp only [World.cell?, h1']
                                have hjl := (List.getElem?_eq_some_iff.1 hj).1
                                simpa [List.getElem?_append_left hjl] using hj
                              · cases hj)
                            rw [List.length_take, List.length_drop, Nat.min_eq_left (by omega)] at this
                            exact this)
                        have hle : e.le (e.bind h.nxt (some w.heap.size) (some C1)) := E.bind_le R.rn R.kn R.ll
                        have ho2 : vrels e ((l.drop (qq * s2)).take (sl * s2)) ((cs.drop (qq * s2)).take (sl * s2)) := vrels_take _ (vrels_drop _ t2)
                        refine ⟨_, List.mem_cons_of_mem _ List.mem_cons_self, _, _, _, k3, hle, ?_, R.made (c := some C1) (grown_drew_alloc w _) (Nat.le_refl _) (by rw [World.size_alloc]; exact Nat.lt_succ_self _) ?_⟩
                        · simp only [vrel]
                          exact ⟨w.heap.size, C1, E.bind_ρ _ _ _ _, E.bind_κ _ _ _ _, ⟨by omega, Nat.le_refl _⟩, by simp⟩
                        · rw [drew_alloc_new]
                          refine ⟨(cs.drop (qq * s2)).take (sl * s2) ++ vs, rest1, C1, rfl, vrels_append (vrels_mono hle _ _ ho2) (vrels_mono hle _ _ hvr), E.bind_κ _ _ _ _, ?_⟩
                          rw [List.length_append, List.length_append, k2, hvl, c6, hzsz, Nat.sub_mul, Nat.add_mul, List.length_take, List.length_drop, Nat.min_eq_left (by omega)]
                          have : (sl + n) * s2 ≤ C1 * s2 := Nat.mul_le_mul_right _ k1
                          rw [Nat.add_mul] at this
                          omega
                  · cases q
              · cases q
            · cases q
        · cases q
      · cases q
    · cases q
  · cases q
end
end Go.Proofs.Ytdammjolkcjogaa.Ev

/-! The evaluator that goes all ways: one operation; a region that draws, by its laid order. -/
namespace Go.Proofs.Ytdammjolkcjogaa.Ev
open Go Go.RowKit
set_option linter.unusedVariables false
set_option linter.unusedSimpArgs false

theorem goL_inv {α β : Type} {f : α → OutL β} : ∀ {l : List α} {rs : List β}, goL f l = some rs → ∀ r ∈ rs, ∃ a ∈ l, ∃ x, f a = some x ∧ r ∈ x
  | [], rs, h, r, hr => by cases h; cases hr
  | b :: l, rs, h, r, hr => by
    unfold goL at h
    split at h
    · rename_i x y hx hy
      cases h
      rcases List.mem_append.1 hr with hr | hr
      · exact ⟨b, List.mem_cons_self, x, hx, hr⟩
      · obtain ⟨a, ha, z, hz, hz2⟩ := goL_inv hy r hr
        exact ⟨a, List.mem_cons_of_mem _ ha, z, hz, hz2⟩
    · cases h
theorem bindL_inv {α β : Type} {o : OutL α} {f : α → OutL β} {rs : List β} (h : bindL o f = some rs) : ∀ r ∈ rs, ∃ x, r ∈ x ∧ (∃ a : α, True) ∧ ∃ a, f a = some x := by
  unfold bindL at h
  split at h
  · rename_i l
    intro r hr
    obtain ⟨a, ha, x, hx, hr2⟩ := goL_inv h r hr
    exact ⟨x, hr2, ⟨a, trivial⟩, a, hx⟩
  · cases h
abbrev CallN := Task → H → OutL (V × H)
def oneOf (call : CallN) : CallT := fun t h => match call t h with
  | some [r] => some r
  | _ => none
structure CallNOk (P : Program) (call : CallN) : Prop where
  fn : ∀ {w0 e h w g args rs}, call (.fn g args) h = some rs → Rel w0 e h w → ∀ xs, vrels e args xs → (∃ fn, P.funcs[g]? = some fn ∧ fn.body.isNone = false ∧ (fn.name == "runtime.NumGoroutine") = false) ∧ ∀ n, CallsIn Fence.wide n P g ⟨xs⟩ w (fun en w' => ∃ r ∈ rs, CallPost w0 e r.1 r.2 en w')
  run : ∀ {w0 e h w g args rs}, call (.call g args) h = some rs → Rel w0 e h w → ∀ xs, vrels e args xs → ((∃ fn, P.funcs[g]? = some fn ∧ fn.body.isNone = false ∧ (fn.name == "runtime.NumGoroutine") = false) ∧ ∀ n, CallsIn Fence.wide n P g ⟨xs⟩ w (fun en w' => ∃ r ∈ rs, CallPost w0 e r.1 r.2 en w')) ∨
    ∃ r ∈ rs, ∃ e' x w', (callFunc g ⟨xs⟩).run P w = .ok (.value x) w' ∧ e.le e' ∧ vrel e' r.1 x ∧ Rel w0 e' r.2 w'
  round : ∀ {w0 e h w l args rs k}, call (.round l args) h = some rs → Rel w0 e h w → e.ρ l = some k → ∀ xs, vrels e args xs →
    ∃ fn tmps assign body, (Instr.yield k ⟨xs⟩).run P w = .ok (.round k fn tmps assign body) w ∧ ∀ n, RoundIn Fence.wide n P k fn tmps assign body w (fun en w' => ∃ r ∈ rs, CallPost w0 e r.1 r.2 en w')
theorem oneOf_some {call : CallN} {t : Task} {h : H} {r : V × H} (q : oneOf call t h = some r) : call t h = some [r] := by
  unfold oneOf at q
  split at q
  · rename_i r' hr; cases q; exact hr
  · cases q
theorem oneOf_ok {P : Program} {call : CallN} (hc : CallNOk P call) : CallOk P (oneOf call) where
  fn := by
    intro w0 e h w g args v h' q R xs hv
    obtain ⟨h1, h2⟩ := hc.fn (oneOf_some q) R xs hv
    refine ⟨h1, fun n => (h2 n).mono ?_⟩
    rintro en w' ⟨r, hr, hp⟩
    obtain rfl := List.mem_singleton.1 hr
    exact hp
  run := by
    intro w0 e h w g args v h' q R xs hv
    rcases hc.run (oneOf_some q) R xs hv with ⟨h1, h2⟩ | ⟨r, hr, e', x, w', h1, h0, h2, h3⟩
    · refine .inl ⟨h1, fun n => (h2 n).mono ?_⟩
      rintro en w' ⟨r, hr, hp⟩
      obtain rfl := List.mem_singleton.1 hr
      exact hp
    · obtain rfl := List.mem_singleton.1 hr
      exact .inr ⟨e', x, w', h1, h0, h2, h3⟩
  round := by
    intro w0 e h w l args v h' k q R hk xs hv
    obtain ⟨fn, tmps, as, body, h1, h2⟩ := hc.round (oneOf_some q) R hk xs hv
    refine ⟨fn, tmps, as, body, h1, fun n => (h2 n).mono ?_⟩
    rintro en w' ⟨r, hr, hp⟩
    obtain rfl := List.mem_singleton.1 hr
    exact hp
def callVN (call : CallN) (h : H) (f : V) (args : List V) : OutL (V × H) :=
  match f with
  | .func (.func g) first cap => call (.call g (first ++ args ++ cap)) h
  | .yield l => call (.round l args) h
  | _ => none
/-- Does an operation go several ways? -/
def manyB : Op → Bool
  | .next _ _ => true
  | .call c => (match c.callee with
    | .value _ => true
    | _ => false)
  | _ => false
def evOpN (P : Program) (call : CallN) (h : H) (tm : Tr V) (op : Op) : OutL (V × H) :=
  match op with
  | .next it false => (match evO tm it with
    | some v => nextN h v
    | none => none)
  | .call c => (match c.callee with
    | .value f => (match evL tm c.args.toList, evO tm f with
      | some args, some fv => callVN call h fv args
      | _, _ => none)
    | .builtin .append => (match evOp P (oneOf call) h tm (.call c) with
      | some r => some [r]
      | none => (match evL tm c.args.toList with
        | some [s, x] => appForkN P h c.argTypes s x
        | _ => none))
    | _ => oneL (evOp P (oneOf call) h tm (.call c)))
  | op => oneL (evOp P (oneOf call) h tm op)
def step1N (P : Program) (call : CallN) (ops : Array Oper) (n : Nat) (o : Oper) (s : St) : OutL St :=
  match wantV ops s.tm o with
  | some true => bindL (evOpN P call s.h s.tm o.op) (fun r => oneL (match putO n s.tm o.dst r.1 with
    | some tm => some ⟨tm, r.2⟩
    | none => none))
  | some false => (match putO n s.tm o.dst (.tuple []) with
    | some tm => some [⟨tm, s.h⟩]
    | none => none)
  | none => none
def evListN (P : Program) (call : CallN) (ops : Array Oper) (n : Nat) : List Oper → St → OutL St
  | [], s => some [s]
  | o :: l, s => bindL (step1N P call ops n o s) (evListN P call ops n l)
section
variable {P : Program} {w0 w : World} {e : E} {h : H} {tm : Tr V} {a : Act} {s : St}
theorem wp_evOpN {F : Fence} (hF : Open F) {n : Nat} {call : CallN} (hc : CallNOk P call) (R : Rel w0 e h w) {o : Oper} {rs : List (V × H)} {K : Act → World → Prop} {Q : Exit → Act → World → Prop} (hop : ∀ x ∈ o.op.operands.toList, ∀ v, evO tm x = some v → vrel e v (a.eval x))
    (q : evOpN P call h tm o.op = some rs) (hK : ∀ r ∈ rs, ∀ e' x w', e.le e' → vrel e' r.1 x → Rel w0 e' r.2 w' → K (a.put o.dst x) w') : o.wpIn F n P a w K Q := by
  have plainOne : oneL (evOp P (oneOf call) h tm o.op) = some rs → o.wpIn F n P a w K Q := by
    intro q
    obtain ⟨r, h1, rfl⟩ := oneL_some q
    exact wp_evOp hF (oneOf_ok hc) R hop h1 (hK r List.mem_cons_self)
  obtain ⟨dst, op, ty, pos, aft, gd⟩ := o
  cases op
  case next it isS =>
    cases isS with
    | true => exact plainOne q
    | false =>
      unfold evOpN at q
      dsimp only at q
      split at q
      · rename_i v hv
        obtain ⟨r, hr, w', z, h1, h2, h3⟩ := run_nextN (P := P) R ty (hop it (by simp [Op.operands]) _ hv) q
        refine ⟨fun f _ => hF.fn f, ?_⟩
        rw [Oper.semAt_eq _ _ _ (by intro c hd; cases hd)]
        have : (execOp a.eval ({ dst := dst, op := .next it false, type := ty, pos := pos, after := aft, guard := gd } : Oper)).run P w = .ok (.value z) w' := by simp [execOp, h1]
        rw [this]
        exact hK r hr e z w' (E.le.refl e) h2 h3
      · cases q
  case call c =>
    unfold evOpN at q
    dsimp only at q
    split at q
    · rename_i f hcl
      split at q
      · rename_i args fv hl hf
        have hopf := hop f (by simp [Op.operands, Call.operands, hcl])
        have r1 := evL_rel (e := e) (a := a) (l := c.args.toList) (fun y hy => hop y (by simp [Op.operands, Call.operands, hcl]; exact .inr (by simpa using hy))) hl
        have hfv := hopf _ hf
        have hdef : ∀ d, (Op.call c) ≠ .defer d := by intro d hd; cases hd
        refine ⟨fun f _ => hF.fn f, ?_⟩
        unfold callVN at q
        split at q
        · rename_i g first cap
          simp only [vrel] at hfv
          obtain ⟨fs, cs, hfe, hfs, hcs⟩ := hfv
          have hex : (execOp a.eval ({ dst := dst, op := .call c, type := ty, pos := pos, after := aft, guard := gd } : Oper)).run P w = (callFunc g ⟨fs ++ c.args.toList.map a.eval ++ cs⟩).run P w := by
            simp [execOp, resolve, hcl, hfe, Deferred.ofValue, invoke]
            congr 2
            apply Array.ext'
            simp
          rcases hc.run q R (fs ++ c.args.toList.map a.eval ++ cs) (vrels_append (vrels_append hfs r1) hcs) with ⟨⟨fn, g1, g2, g3⟩, g4⟩ | ⟨r, hr, e', x, w', g1, g0, g2, g3⟩
          · have hrun : (execOp a.eval ({ dst := dst, op := .call c, type := ty, pos := pos, after := aft, guard := gd } : Oper)).run P w = .ok (.enter g ⟨fs ++ c.args.toList.map a.eval ++ cs⟩) w := by
              have g3' : ¬ fn.name = "runtime.NumGoroutine" := by simpa using g3
              have g2' : ¬ fn.body = none := fun hh => by rw [hh] at g2; cases g2
              rw [hex]
              simp [callFunc, g1, g2', g3']
            rw [Oper.semAt_eq _ _ _ hdef, hrun, Oper.uponIn_enter]
            refine ⟨fun hd => ?_, hF.calls ((g4 (n - 1)).mono ?_)⟩
            · rw [hF.depth] at hd; cases hd
            · rintro en w' ⟨r, hr, e', x, rfl, p2, p3, p4⟩
              exact hK r hr e' x w' p2 p3 p4
          · rw [Oper.semAt_eq _ _ _ hdef, hex, g1]
            exact hK r hr e' x w' g0 g2 g3
        · rename_i l
          simp only [vrel] at hfv
          obtain ⟨k, hk, hfe⟩ := hfv
          obtain ⟨fn, tmps, as, body, g1, g2⟩ := hc.round q R hk _ r1
          have hrun : (execOp a.eval ({ dst := dst, op := .call c, type := ty, pos := pos, after := aft, guard := gd } : Oper)).run P w = .ok (.round k fn tmps as body) w := by
            have hargs : c.args.map a.eval = ⟨c.args.toList.map a.eval⟩ := by
              apply Array.ext'
              simp
            rw [← hargs] at g1
            simp [execOp, resolve, hcl, hfe, Deferred.ofValue, invoke, g1]
          rw [Oper.semAt_eq _ _ _ hdef, hrun, Oper.uponIn_round]
          refine ⟨fun hd => ?_, hF.rounds ((g2 (n - 1)).mono ?_)⟩
          · rw [hF.depth] at hd; cases hd
          · rintro en w' ⟨r, hr, e', x, rfl, p2, p3, p4⟩
            exact hK r hr e' x w' p2 p3 p4
        · cases q
      · cases q
    · rename_i hcl
      split at q
      · rename_i r hr
        cases q
        exact plainOne (by rw [hr]; rfl)
      · split at q
        · rename_i s x hl
          have r1 := evL_rel (e := e) (a := a) (l := c.args.toList) (fun y hy => hop y (by simp [Op.operands, Call.operands, hcl]; simpa using hy)) hl
          obtain ⟨s', r, h1, h2, h3⟩ := vrels_cons.1 r1
          obtain ⟨x', r', rfl, h4, h5⟩ := vrels_cons.1 h3
          obtain rfl := vrels_nil.1 h5
          have hargs : c.args.map a.eval = #[s', x'] := by
            apply Array.ext'
            simpa using h1
          obtain ⟨r, hr, e', w', z, p1, p2, p3, p4⟩ := run_appForkN (P := P) (ty := ty) R h2 h4 q
          refine ⟨fun f _ => hF.fn f, ?_⟩
          rw [Oper.semAt_eq _ _ _ (by intro d hd; cases hd)]
          have : (execOp a.eval ({ dst := dst, op := .call c, type := ty, pos := pos, after := aft, guard := gd } : Oper)).run P w = .ok (.value z) w' := by simp [execOp, resolve, hcl, invoke, builtin, hargs, p1]
          rw [this]
          exact hK r hr e' z w' p2 p3 p4
        · cases q
    · exact plainOne q
  all_goals exact plainOne q
theorem wp_step1N {F : Fence} (hF : Open F) {m n : Nat} {call : CallN} (hc : CallNOk P call) {ops : Array Oper} {o : Oper} {rs : List St} {K : Act → World → Prop} {Q : Exit → Act → World → Prop} (S : SRel w0 e n s a w) (q : step1N P call ops n o s = some rs)
    (hK : ∀ s' ∈ rs, ∀ e' a' w', e.le e' → SRel w0 e' n s' a' w' → a'.defers = a.defers → K a' w') :
    if Region.wanted o (yielded ops a.tmps) then o.wpIn F m P a w K Q else (∀ f, o.about P w a.eval = some f → F.fn f) ∧ K (a.put o.dst undef) w := by
  unfold step1N at q
  split at q
  · rename_i hw
    rw [wantV_ok (fun t v hv _ => S.t.2 t v hv) hw]
    rw [if_pos rfl]
    obtain ⟨l, hl, hall⟩ := bindL_some q
    refine wp_evOpN hF hc S.r (fun x _ v hv => evO_rel S.t hv) hl (fun r hr e' x w' h1 h2 h3 => ?_)
    obtain ⟨y, hy, hsub⟩ := hall r hr
    obtain ⟨s', hs', rfl⟩ := oneL_some hy
    split at hs'
    · rename_i tm hp
      cases hs'
      exact hK _ (hsub _ List.mem_cons_self) e' _ w' h1 ⟨putO_ok S.t h1 h2 hp, h3⟩ (put_defers _ _ _)
    · cases hs'
  · rename_i hw
    rw [wantV_ok (fun t v hv _ => S.t.2 t v hv) hw]
    rw [if_neg (by simp)]
    split at q
    · rename_i tm hp
      cases q
      exact ⟨fun f _ => hF.fn f, hK _ List.mem_cons_self e _ w (E.le.refl e) ⟨putO_ok S.t (E.le.refl e) (by simp only [vrel]; exact ⟨[], rfl, vrels_nil.2 rfl⟩) hp, S.r⟩ (put_defers _ _ _)⟩
    · cases q
  · cases q
theorem wp_evListN {F : Fence} (hF : Open F) {m n : Nat} {call : CallN} (hc : CallNOk P call) {ops : Array Oper} {Q : Exit → Act → World → Prop} : ∀ (l : List Oper) (k : Nat) (e : E) (s : St) (rs : List St) (a : Act) (w : World), (∀ j, l[j]? = ops[k + j]?) → SRel w0 e n s a w → evListN P call ops n l s = some rs →
    (∀ s' ∈ rs, ∀ e' a' w', e.le e' → SRel w0 e' n s' a' w' → a'.defers = a.defers → Q .normal a' w') → wpOpsIn F m P ops Q (List.range' k l.length) a w
  | [], k, e, s, rs, a, w, _, S, q, hQ => by
    cases q
    exact hQ _ List.mem_cons_self e a w (E.le.refl e) S rfl
  | o :: l, k, e, s, rs, a, w, hl, S, q, hQ => by
    unfold evListN at q
    obtain ⟨l1, h1, hall⟩ := bindL_some q
    rw [List.length_cons, List.range'_succ, wpOpsIn_cons]
    have ho : ops[k]? = some o := by have := hl 0; simpa using this.symm
    unfold wpOpIn
    simp only [ho]
    refine wp_step1N hF hc S h1 (fun s1 hs1 e1 a1 w1 h2 h3 h4 => ?_)
    obtain ⟨y, hy, hsub⟩ := hall s1 hs1
    exact wp_evListN hF hc l (k + 1) e1 s1 y a1 w1 (fun j => by have := hl (j + 1); simpa [Nat.add_assoc, Nat.add_comm 1 j] using this) h3 hy (fun s2 hs2 e2 a2 w2 h5 h6 h7 => hQ s2 (hsub s2 hs2) e2 a2 w2 (h2.trans h5) h6 (h7.trans h4))
theorem wp_regionNN {F : Fence} (hF : Open F) {m n : Nat} {call : CallN} (hc : CallNOk P call) {id : Nat} {ops : Array Oper} {rs : List St} {Q : Exit → Act → World → Prop} (S : SRel w0 e n s a w) (q : evListN P call ops n ops.toList s = some rs)
    (hQ : ∀ s' ∈ rs, ∀ e' a' w', e.le e' → SRel w0 e' n s' a' w' → a'.defers = a.defers → Q .normal a' w') : (Code.region id ops false).wpIn F m P Q a w := by
  refine wpIn_region ?_
  have := wp_evListN (m := m) hF hc ops.toList 0 e s rs a w (fun j => by simp) S q hQ
  rw [List.range_eq_range']
  simpa using this
end
def stepFN (P : Program) (call : CallN) (ops : Array Oper) (n : Nat) : List SI → List PI → St → OutL St
  | [], _, s => some [s]
  | .val it :: l, pend, s => (match freeS P ops n s it with
    | some (s', .val v) => stepFN P call ops n l (cond (memB it.o.op) (⟨it.i, it.o, .val v⟩ :: pend) pend) s'
    | some (s', .skip) => stepFN P call ops n l pend s'
    | _ => none)
  | .new it :: l, pend, s => (match freeS P ops n s it with
    | some (s', .new b ob v) => cond ((⟨it.i, it.o, .new b ob v⟩ :: pend).all fun p => !(memB p.o.op) || chk P ops n s' p) (stepFN P call ops n l (⟨it.i, it.o, .new b ob v⟩ :: pend) s') none
    | some (s', .skip) => stepFN P call ops n l pend s'
    | _ => none)
  | .eff it :: l, pend, s => bindL (step1N P call ops n it.o s) (fun s' => cond ((pend.filter fun p => !(it.m.testBit p.i)).all (chk P ops n s')) (stepFN P call ops n l (pend.filter fun p => !(it.m.testBit p.i)) s') none)
theorem step1N_tm {P : Program} {call : CallN} {ops : Array Oper} {n : Nat} {o : Oper} {s : St} {rs : List St} (q : step1N P call ops n o s = some rs) : ∀ s' ∈ rs, ∀ t, o.dst ≠ some t → s'.tm.get t = s.tm.get t := by
  intro s' hs' t ht
  unfold step1N at q
  split at q
  · obtain ⟨l, hl, _, r, hall⟩ := bindL_inv q s' hs'
    obtain ⟨st, h1, h2⟩ := oneL_some hall
    rw [h2] at hl
    obtain rfl := List.mem_singleton.1 hl
    split at h1
    · rename_i tm hp
      cases h1
      show tm.get t = s.tm.get t
      rw [putO_get hp t, if_neg ht]
    · cases h1
  · split at q
    · rename_i tm hp
      cases q
      obtain rfl := List.mem_singleton.1 hs'
      show tm.get t = s.tm.get t
      rw [putO_get hp t, if_neg ht]
    · cases q
  · cases q
section
variable {P : Program} {ops : Array Oper} {n m : Nat} {w0 w : World} {e0 e : E} {dfs : List Deferred} {listed : Array Bool} {done : Nat} {pend : List PI} {s : St} {a : Act} {F : Fence} {call : CallN} {Q : Exit → Act → World → Prop}
/-- One that waits for its turn comes up, and goes several ways. -/
theorem exec_effN (hF : Open F) (hcall : CallNOk P call) (hssa : ssaB ops (itemsGo 0 ops.toList []) = true) (I : Inv P ops n w0 e0 dfs listed done pend s e a w) {it : It} (hit : it ∈ itemsGo 0 ops.toList []) (hnd : done.testBit it.i = false) (hi : listed.getD it.i true = false)
    (hpre : ∀ ed ∈ it.o.after, Region.binds .any ed = true → listed.getD ed.on false = true) {rs : List St} (q : step1N P call ops n it.o s = some rs) (hchk : ∀ s1 ∈ rs, ((pend.filter fun p => !(it.m.testBit p.i)).all (Ev.chk P ops n s1)) = true) {K : Act → World → Prop}
    (hK : ∀ s1 ∈ rs, ∀ e' a' w', Inv P ops n w0 e0 dfs (listed.setIfInBounds it.i true) (done ||| 2 ^ it.i) (pend.filter fun p => !(it.m.testBit p.i)) s1 e' a' w' → K a' w') : wpOpIn F m P ops Q it.i K a w := by
  obtain ⟨k0, hk0, hk1⟩ := items_mem ops.toList 0 [] it hit
  have hoi : ops[it.i]? = some it.o := by rw [hk0]; simpa using hk1
  have T := I.temps hssa hit hpre
  unfold wpOpIn
  simp only [hoi]
  unfold step1N at q
  split at q
  · rename_i hw
    rw [wantV_look T.1 hw, if_pos rfl]
    obtain ⟨l, hl, hall⟩ := bindL_some q
    refine wp_evOpN hF hcall I.rel T.2 hl (fun r hr e' x w' h1 h2 h3 => ?_)
    obtain ⟨y, hy, hsub⟩ := hall r hr
    obtain ⟨s', hs', rfl⟩ := oneL_some hy
    split at hs'
    · rename_i tm hp
      cases hs'
      exact hK _ (hsub _ List.mem_cons_self) e' _ w' (I.came hssa hit hnd hi hpre (hchk _ (hsub _ List.mem_cons_self)) rfl hp h1 h2 h3)
    · cases hs'
  · rename_i hw
    rw [wantV_look T.1 hw, if_neg (by simp)]
    split at q
    · rename_i tm hp
      cases q
      exact ⟨fun f _ => hF.fn f, hK _ List.mem_cons_self e _ w (I.came hssa hit hnd hi hpre (hchk _ List.mem_cons_self) rfl hp (E.le.refl e) (by simp only [vrel]; exact ⟨[], rfl, vrels_nil.2 rfl⟩) I.rel)⟩
    · cases q
  · cases q
theorem drawFMN (hF : Open F) (hcall : CallNOk P call) (hssa : ssaB ops (itemsGo 0 ops.toList []) = true) (hlow : lowB (itemsGo 0 ops.toList []) = true) :
    ∀ (l : List SI) (done : Nat) (fr : List It) (pg pd : List PI) (s : St) (fc : Nat) (listed : Array Bool) (e : E) (a : Act) (w : World), Sched ops (itemsGo 0 ops.toList []) done fr l → Lk ops (itemsGo 0 ops.toList []) done fr pg pd →
      ∀ (rs : List St), stepFN P call ops n l pd s = some rs → (∀ s' ∈ rs, ∀ e' a' w', e0.le e' → SRel w0 e' n s' a' w' → a'.defers = dfs → Q .normal a' w') → Inv P ops n w0 e0 dfs listed done pg s e a w → cnt (List.range ops.size) listed ≤ fc → wpAnyIn F m P .any ops Q fc listed a w := by
  intro l done fr pg pd s fc listed e a w hs
  induction hs generalizing pg pd s fc listed e a w with
  | nil hall =>
    intro L rs q hQ I hc
    cases q
    refine sweep hF hssa hlow (fun listed e a w I hall => ?_) (fun fc listed e a w it' I hm' hnd' hr' h0 hpre hc => ?_) fc listed e a w I hc
    · refine hQ s List.mem_cons_self e a w I.le ⟨⟨I.tsz, fun t v ht => I.tr t v ht (fun p hp hu => ?_)⟩, I.rel⟩ I.dfs
      have hlt := (Array.getElem?_eq_some_iff.1 (I.mem p hp)).1
      have h1 := hall p.i hlt
      have : p.i < listed.size := by rw [I.size]; exact hlt
      have h2 : listed.getD p.i false = true := by simpa [this] using h1
      rw [hu] at h2
      cases h2
    · rw [hall it' hm'] at hnd'
      cases hnd'
  | @free done fr it l hm hr hne hsch ih =>
    intro L rs q hQ I hc
    obtain ⟨hnd, hmr⟩ := rdy_m hr
    have hmb := mready_bit hmr
    -- what is written now, no one looks at that came up ahead
    have hself : ∀ d, it.o.dst = some d → d ∉ it.o.looksAt ops := fun d hd hl => by
      have := hmb _ (ssa_look hssa hm hm (by rw [hne]; rfl) hd hl)
      rw [hnd] at this
      cases this
    have hpl : ∀ p ∈ pg, ∀ d, it.o.dst = some d → d ∉ p.o.looksAt ops ∧ p.o.dst ≠ some d := fun p hp d hd => by
      obtain ⟨itp, h1, h2, h3⟩ := L.a p hp
      have hneq : itp.i ≠ it.i := fun hh => by have := I.pdn p hp; rw [← h2, hh, hnd] at this; cases this
      refine ⟨fun hl => ?_, fun hpd => ?_⟩
      · have := (L.c itp h1).2 _ (ssa_look hssa hm (L.c itp h1).1 (by rw [hne]; rfl) hd (by rw [h3]; exact hl))
        rw [hnd] at this
        cases this
      · exact ssa_dst hssa hm (L.c itp h1).1 (Ne.symm hneq) (by rw [hne]; rfl) d (by rw [h3]; exact hpd) hd
    -- who came up ahead comes to the same
    have old : ∀ (tm : Tr V) (v : V) (h' : H) (p : PI), putO n s.tm it.o.dst v = some tm → p ∈ pg → (∀ v, p.k = .val v → pureOp P h' s.tm p.o.op = pureOp P s.h s.tm p.o.op) →
        (∀ b ob v, p.k = .new b ob v → allocOp P h' s.tm p.o.op = allocOp P s.h s.tm p.o.op ∧ h'.get b = s.h.get b) → chk P ops n ⟨tm, h'⟩ p = true := by
      intro tm v h' p hput hp h1 h2
      refine chk_of (s' := ⟨tm, h'⟩) (I.chk p hp) (fun t ht => ?_) (fun d hd => ?_) h1 h2
      · show tm.get t = s.tm.get t
        rw [putO_get hput t, if_neg (fun hd => (hpl p hp t hd).1 ht)]
      · show tm.get d = s.tm.get d
        rw [putO_get hput d, if_neg (fun hd' => (hpl p hp d hd').2 hd)]
    have tmg : ∀ (tm : Tr V) (v : V), putO n s.tm it.o.dst v = some tm → ∀ t ∈ it.o.looksAt ops, tm.get t = s.tm.get t := fun tm v hput t ht => by
      rw [putO_get hput t, if_neg (fun hd => hself t hd ht)]
    have fin : ∀ (s1 : St) (k : PK) (pd' : List PI), freeS P ops n s it = some (s1, k) → (∀ p ∈ (⟨it.i, it.o, k⟩ : PI) :: pg, chk P ops n s1 p = true) → (∀ p ∈ pd, p ∈ pd') → (stableK ⟨it.i, it.o, k⟩ = true ∨ (⟨it.i, it.o, k⟩ : PI) ∈ pd') →
        stepFN P call ops n l pd' s1 = some rs → wpAnyIn F m P .any ops Q fc listed a w := by
      intro s1 k pd' hfr hall hsub hnew hst
      obtain ⟨e', I'⟩ := I.free hm hnd hfr (List.all_eq_true.2 hall)
      refine ih _ pd' s1 fc listed e' a w ⟨fun p hp => ?_, fun p hp => ?_, fun q hq => ?_⟩ rs hst hQ I' hc
      · rcases List.mem_cons.1 hp with rfl | hp
        · exact ⟨it, List.mem_cons_self, rfl, rfl⟩
        · obtain ⟨itp, h1, h2⟩ := L.a p hp
          exact ⟨itp, List.mem_cons_of_mem _ h1, h2⟩
      · rcases List.mem_cons.1 hp with rfl | hp
        · exact hnew
        · rcases L.b p hp with h | h
          · exact .inl h
          · exact .inr (hsub p h)
      · rcases List.mem_cons.1 hq with rfl | hq
        · exact ⟨hm, fun j hj => or_bit.2 (.inl (hmb j hj))⟩
        · exact ⟨(L.c q hq).1, fun j hj => or_bit.2 (.inl ((L.c q hq).2 j hj))⟩
    -- what it comes to itself
    have selfv : ∀ (v : V) (tm : Tr V), cls it.o.op = .pure → wantV ops s.tm it.o = some true → pureOp P s.h s.tm it.o.op = some v → putO n s.tm it.o.dst v = some tm → chk P ops n ⟨tm, s.h⟩ ⟨it.i, it.o, .val v⟩ = true := by
      intro v tm hcl hw hv hput
      unfold chk
      rw [Bool.and_eq_true]
      refine ⟨putO_chk hput, ?_⟩
      simp only [hne, hcl]
      rw [wantV_tm (tmg tm v hput), hw, pureOp_tm (evO_tm (tmg tm v hput)), hv]
      simp [isTrue, sameV_rfl]
    have selfs : ∀ (tm : Tr V), wantV ops s.tm it.o = some false → putO n s.tm it.o.dst (.tuple []) = some tm → chk P ops n ⟨tm, s.h⟩ ⟨it.i, it.o, .skip⟩ = true := by
      intro tm hw hput
      unfold chk
      rw [Bool.and_eq_true]
      refine ⟨putO_chk hput, ?_⟩
      show isFalse (wantV ops tm it.o) = true
      rw [wantV_tm (tmg tm _ hput), hw]
      rfl
    have selfn : ∀ (ob : O) (mk : Nat → V) (tm : Tr V), cls it.o.op = .alloc → wantV ops s.tm it.o = some true → allocOp P s.h s.tm it.o.op = some (ob, mk) → memB it.o.op = false → putO n s.tm it.o.dst (mk s.h.nxt) = some tm → sameO ob ob = true → chk P ops n ⟨tm, s.h.new ob⟩ ⟨it.i, it.o, .new s.h.nxt ob (mk s.h.nxt)⟩ = true := by
      intro ob mk tm hcl hw hv hmm hput hso
      unfold chk
      rw [Bool.and_eq_true]
      refine ⟨putO_chk hput, ?_⟩
      simp only [hne, hcl]
      rw [wantV_tm (tmg tm _ hput), hw, allocOp_tm (evO_tm (tmg tm _ hput)), allocOp_mem (h := s.h) hmm, hv, H.get_new, if_pos rfl]
      simp [isTrue, sameV_rfl, hso]
    have skip : ∀ (tm : Tr V), wantV ops s.tm it.o = some false → putO n s.tm it.o.dst (.tuple []) = some tm → freeS P ops n s it = some (⟨tm, s.h⟩, .skip) → stepFN P call ops n l pd ⟨tm, s.h⟩ = some rs → wpAnyIn F m P .any ops Q fc listed a w := by
      intro tm hw hput hfr hst
      refine fin _ _ pd hfr (fun p hp => ?_) (fun p hp => hp) (.inl rfl) hst
      rcases List.mem_cons.1 hp with rfl | hp
      · exact selfs tm hw hput
      · exact old tm _ s.h p hput hp (fun _ _ => rfl) (fun _ _ _ _ => ⟨rfl, rfl⟩)
    unfold clsSI at q
    split at q
    · rename_i hcl
      unfold stepFN at q
      cases hfr : freeS P ops n s it with
      | none => rw [hfr] at q; cases q
      | some r =>
        obtain ⟨s1, k⟩ := r
        rw [hfr] at q
        rcases freeS_inv hfr with ⟨hw, rfl, tm, hput, rfl⟩ | ⟨_, hc2, _⟩ | ⟨hw, hc2, ob, mk, tm, hal, rfl, hput, rfl⟩
        · exact skip tm hw hput hfr q
        · rw [hcl] at hc2; cases hc2
        · simp only at q
          cases hch : ((⟨it.i, it.o, .new s.h.nxt ob (mk s.h.nxt)⟩ : PI) :: pd).all fun p => !(memB p.o.op) || chk P ops n ⟨tm, s.h.new ob⟩ p with
          | false => rw [hch] at q; cases q
          | true =>
            rw [hch] at q
            simp only [cond_true] at q
            have hch := List.all_eq_true.1 hch
            have dyn : ∀ p ∈ (⟨it.i, it.o, .new s.h.nxt ob (mk s.h.nxt)⟩ : PI) :: pd, memB p.o.op = true → chk P ops n ⟨tm, s.h.new ob⟩ p = true := fun p hp hmm => by
              have := hch p hp
              rw [hmm] at this
              simpa using this
            refine fin _ _ (⟨it.i, it.o, .new s.h.nxt ob (mk s.h.nxt)⟩ :: pd) hfr (fun p hp => ?_) (fun p hp => List.mem_cons_of_mem _ hp) (.inr List.mem_cons_self) q
            rcases List.mem_cons.1 hp with rfl | hp
            · cases hmm : memB it.o.op with
              | true => exact dyn _ List.mem_cons_self hmm
              | false => exact selfn ob mk tm hcl hw hal hmm hput (allocOp_same hal hmm)
            · cases hmm : memB p.o.op with
              | true =>
                rcases L.b p hp with hst | hin
                · cases hk : p.k with
                  | val v => unfold stableK at hst; rw [hk, hmm] at hst; cases hst
                  | new b ob v => unfold stableK at hst; rw [hk] at hst; cases hst
                  | skip => exact old tm _ _ p hput hp (fun v hk' => by rw [hk] at hk'; cases hk') (fun b ob v hk' => by rw [hk] at hk'; cases hk')
                · exact dyn p (List.mem_cons_of_mem _ hin) hmm
              | false =>
                refine old tm _ _ p hput hp (fun v hk => pureOp_mem hmm) (fun b ob' v hk => ⟨allocOp_mem hmm, ?_⟩)
                rw [H.get_new, if_neg]
                have := I.nlt p hp b ob' v hk
                omega
    · rename_i hcl
      unfold stepFN at q
      cases hfr : freeS P ops n s it with
      | none => rw [hfr] at q; cases q
      | some r =>
        obtain ⟨s1, k⟩ := r
        rw [hfr] at q
        rcases freeS_inv hfr with ⟨hw, rfl, tm, hput, rfl⟩ | ⟨hw, hc2, v, tm, hv, rfl, hput, rfl⟩ | ⟨_, hc2, _⟩
        · exact skip tm hw hput hfr q
        · refine fin _ _ _ hfr (fun p hp => ?_) (fun p hp => ?_) ?_ q
          · rcases List.mem_cons.1 hp with rfl | hp
            · exact selfv v tm hc2 hw hv hput
            · exact old tm _ s.h p hput hp (fun _ _ => rfl) (fun _ _ _ _ => ⟨rfl, rfl⟩)
          · cases memB it.o.op with
            | true => exact List.mem_cons_of_mem _ hp
            | false => exact hp
          · cases hmm : memB it.o.op with
            | true => exact .inr List.mem_cons_self
            | false => exact .inl (by unfold stableK; simp only [hmm]; rfl)
        · rw [hc2] at hcl; exact absurd rfl hcl
  | @eff done fr it l hm hr huniq hclean hsch ih =>
    intro L rs q hQ I hc
    obtain ⟨hnd, hmr⟩ := rdy_m hr
    have hmb := mready_bit hmr
    unfold stepFN at q
    obtain ⟨ls, hls, hall0⟩ := bindL_some q
    have hchkOf : ∀ s1 ∈ ls, ((pd.filter fun p => !(it.m.testBit p.i)).all (chk P ops n s1)) = true ∧ ∃ rs1, stepFN P call ops n l (pd.filter fun p => !(it.m.testBit p.i)) s1 = some rs1 ∧ ∀ r ∈ rs1, r ∈ rs := fun s1 hs1 => by
      obtain ⟨x, hx, hsub⟩ := hall0 s1 hs1
      cases hch : (pd.filter fun p => !(it.m.testBit p.i)).all (chk P ops n s1) with
      | false => rw [hch] at hx; cases hx
      | true => rw [hch] at hx; exact ⟨rfl, x, hx, hsub⟩
    obtain ⟨k0, hk0, hk1⟩ := items_mem ops.toList 0 [] it hm
    have hoi : ops[it.i]? = some it.o := by rw [hk0]; simpa using hk1
    have hlt := (Array.getElem?_eq_some_iff.1 hoi).1
    refine sweep hF hssa hlow (fun listed e a w I hall => ?_) (fun fc listed e a w it' I hm' hnd' hr' h0 hpre hc => ?_) fc listed e a w I hc
    · have h1 := hall it.i hlt
      have h2 : listed.getD it.i false = true := by
        have : it.i < listed.size := by rw [I.size]; exact hlt
        simpa [this] using h1
      rw [I.sub it.i h2] at hnd
      cases hnd
    · obtain rfl := huniq it' hm' hr'
      refine exec_effN hF hcall hssa I hm hnd h0 hpre hls (fun s1 hs1 => ?_) (fun s1 hs1 e' a' w' I' => ?_)
      · have hch := List.all_eq_true.1 (hchkOf s1 hs1).1
        have htm := step1N_tm hls s1 hs1
        refine List.all_eq_true.2 fun p hp => ?_
        obtain ⟨hpg, hpb⟩ := List.mem_filter.1 hp
        rcases L.b p hpg with hst | hin
        · obtain ⟨itp, h1, h2, h3⟩ := L.a p hpg
          have hneq : itp.i ≠ it'.i := fun hh => by have := I.pdn p hpg; rw [← h2, hh, hnd] at this; cases this
          refine chk_stable (I.chk p hpg) hst (fun t ht => htm t (fun hd => ?_)) (fun d hd => htm d (fun hd' => ?_))
          · unfold cleanB at hclean
            rw [hd] at hclean
            have := List.all_eq_true.1 hclean itp (List.mem_filter.2 ⟨h1, by rw [h2]; exact hpb⟩)
            rw [h3] at this
            have hcc : (p.o.looksAt ops).contains t = true := by simpa using ht
            rw [hcc] at this
            cases this
          · exact ssa_dst hssa (L.c itp h1).1 hm hneq (by rw [h3]; exact not_eff I hpg) d hd' (by rw [h3]; exact hd)
        · exact hch p (List.mem_filter.2 ⟨hin, hpb⟩)
      · obtain ⟨_, rs1, hst1, hsub1⟩ := hchkOf s1 hs1
        refine ih (pg.filter fun p => !(it'.m.testBit p.i)) (pd.filter fun p => !(it'.m.testBit p.i)) s1 fc _ e' a' w' ⟨fun p hp => ?_, fun p hp => ?_, fun q hq => ?_⟩ rs1 hst1 (fun s' hs' => hQ s' (hsub1 s' hs')) I' ?_
        · obtain ⟨hpg, hpb⟩ := List.mem_filter.1 hp
          obtain ⟨itp, h1, h2, h3⟩ := L.a p hpg
          exact ⟨itp, List.mem_filter.2 ⟨h1, by rw [h2]; exact hpb⟩, h2, h3⟩
        · obtain ⟨hpg, hpb⟩ := List.mem_filter.1 hp
          rcases L.b p hpg with h | h
          · exact .inl h
          · exact .inr (List.mem_filter.2 ⟨h, hpb⟩)
        · obtain ⟨hq1, _⟩ := List.mem_filter.1 hq
          exact ⟨(L.c q hq1).1, fun j hj => or_bit.2 (.inl ((L.c q hq1).2 j hj))⟩
        · have := cnt_lt h0 _ (List.mem_range.2 hlt)
          omega
end
/-- A region that draws, all ways. -/
noncomputable def drawFN (P : Program) (call : CallN) (ops : Array Oper) (n : Nat) (s : St) : OutL St :=
  cond (P.follows .mixedOrders) (match schedR ops with
  | some l => stepFN P call ops n l [] s
  | none => none) none
/-- The same, as the compiler runs it. -/
def drawFNC (P : Program) (call : CallN) (ops : Array Oper) (n : Nat) (s : St) : OutL St :=
  let its := itemsGo 0 ops.toList []
  cond (P.follows .mixedOrders) (match dstT its .leaf with
  | some T => cond (lowB its && its.all (ssaL ops T)) (match schN ops (ops.size + 1) its 0 [] with
    | some l => stepFN P call ops n l [] s
    | none => none) none
  | none => none) none
@[csimp] theorem drawFN_c : @drawFN = @drawFNC := by
  funext P call ops n s
  unfold drawFN drawFNC schedR
  have he : itemsR ops.toList 0 [] = itemsGo 0 ops.toList [] := itemsR_eq ops.toList []
  rw [he]
  dsimp only
  congr 1
  cases hT : dstT (itemsGo 0 ops.toList []) .leaf with
  | none => rfl
  | some T =>
    dsimp only
    rw [allR_eq, show ssaLR ops T = ssaL ops T from funext fun q => ssaLR_eq ops T q]
    cases lowB (itemsGo 0 ops.toList []) <;> cases (itemsGo 0 ops.toList []).all (ssaL ops T) <;> rfl
theorem drawFN_ok {P : Program} {call : CallN} (hcall : CallNOk P call) {F : Fence} (hF : Open F) {w0 : World} {e : E} {n : Nat} {s : St} {rs : List St} {a : Act} {w : World} {m id : Nat} {ops : Array Oper} {Q : Exit → Act → World → Prop} (S : SRel w0 e n s a w)
    (q : drawFN P call ops n s = some rs) (hQ : ∀ s' ∈ rs, ∀ e' a' w', e.le e' → SRel w0 e' n s' a' w' → a'.defers = a.defers → Q .normal a' w') : (Code.region id ops true).wpIn F m P Q a w := by
  unfold drawFN at q
  cases hm : P.follows .mixedOrders with
  | false => rw [hm] at q; cases q
  | true =>
  rw [hm] at q
  dsimp only [cond_true] at q
  split at q
  · rename_i l hl
    obtain ⟨hssa, hlow, hsch⟩ := sched_ok hl
    refine wpIn_region_any hm (drawFMN hF hcall hssa hlow (e0 := e) (dfs := a.defers) l 0 [] [] [] s ops.size _ e a _ hsch ⟨fun p hp => (by cases hp), fun p hp => (by cases hp), fun p hp => (by cases hp)⟩ rs q hQ ?_ ?_)
    · refine ⟨by simp, fun i h => ?_, fun i h1 h2 h3 => ?_, fun p hp => (by cases hp), fun p hp => (by cases hp), fun p hp => (by cases hp), fun i o ho h => ?_, S.t.1, fun t v ht _ => S.t.2 t v ht, S.r.drew, fun p hp => (by cases hp), fun p hp => (by cases hp), fun p hp => (by cases hp), E.le.refl e, rfl⟩
      · by_cases hi : i < ops.size <;> simp [hi] at h
      · simp at h2
      · by_cases hi : i < ops.size <;> simp [hi] at h
    · have := cnt_len (Array.replicate ops.size false) (List.range ops.size)
      simpa using this
  · cases q
end Go.Proofs.Ytdammjolkcjogaa.Ev

/-! The evaluator that goes all ways: rows, code, calls. -/
namespace Go.Proofs.Ytdammjolkcjogaa.Ev
open Go Go.RowKit
set_option linter.unusedVariables false
set_option linter.unusedSimpArgs false

abbrev ResN := OutL (Ex × St × List Nat)
def loopNN (step : St → List Nat → ResN) : Nat → St → List Nat → ResN
  | 0, _, _ => none
  | k + 1, s, mk => bindL (step s mk) (fun r => match r with
    | (.normal, s', mk') => loopNN step k s' mk'
    | (.exit id, s', mk') => some [(.exit id, s', mk')]
    | (.goto l, s', mk') => some [(.goto l, s', mk')]
    | (.ret, s', mk') => some [(.ret, s', mk')])
def jumpNN (f : Nat → St → List Nat → ResN) : Nat → Ex × St × List Nat → ResN
  | 0, _ => none
  | k + 1, (.goto l, s, mk) => bindL (f l s mk) (jumpNN f k)
  | _ + 1, (.normal, s, mk) => some [(.normal, s, mk)]
  | _ + 1, (.exit id, s, mk) => some [(.exit id, s, mk)]
  | _ + 1, (.ret, s, mk) => some [(.ret, s, mk)]
/-- A region that draws: one way, or all ways. -/
def draw2 (P : Program) (call : CallN) (draw : DrawT) (ops : Array Oper) (n : Nat) (s : St) : OutL St := match draw ops n s with
  | some s' => some [s']
  | none => drawFN P call ops n s
mutual
def evCN (P : Program) (call : CallN) (draw : DrawT) (n : Nat) (ro : Option Nat) : Code → St → List Nat → ResN
  | .skip, s, mk => some [(.normal, s, mk)]
  | .label _, s, mk => some [(.normal, s, mk)]
  | .region _ ops false, s, mk => bindL (evListN P call ops n ops.toList s) (fun s' => some [(.normal, s', mk)])
  | .region _ ops true, s, mk => bindL (draw2 P call draw ops n s) (fun s' => some [(.normal, s', mk)])
  | .seq x y, s, mk => bindL (evCN P call draw n ro x s mk) (fun r => match r with
    | (.normal, s', mk') => evCN P call draw n ro y s' mk'
    | (.exit id, s', mk') => some [(.exit id, s', mk')]
    | (.goto l, s', mk') => some [(.goto l, s', mk')]
    | (.ret, s', mk') => some [(.ret, s', mk')])
  | .cond c x y, s, mk => (match evO s.tm c with
    | some (.bool true) => evCN P call draw n ro x s mk
    | some (.bool false) => evCN P call draw n ro y s mk
    | _ => none)
  | .block id b, s, mk => bindL (evCN P call draw n ro b s mk) (fun r => match r with
    | (.exit id', s', mk') => cond (Nat.beq id' id) (some [(.normal, s', mk')]) (some [(.exit id', s', mk')])
    | (.normal, s', mk') => some [(.normal, s', mk')]
    | (.goto l, s', mk') => some [(.goto l, s', mk')]
    | (.ret, s', mk') => some [(.ret, s', mk')])
  | .loop b, s, mk => loopNN (evCN P call draw n ro b) 100000 s mk
  | .exit id, s, mk => some [(.exit id, s, mk)]
  | .goto l, s, mk => some [(.goto l, s, mk)]
  | .ret, s, mk => some [(.ret, s, mk)]
  | .rangeFunc g ps assign body, s, mk => (match evO s.tm g, enterV n ro ps assign body s mk with
    | some (.func (.func f) first cap), some (l, h1, mk') => bindL (call (.fn f (first ++ [.yield l] ++ cap)) h1) (fun r => oneL (match leaveV r.2 l with
        | some (ex, h3) => some (ex, ⟨s.tm, h3⟩, mk')
        | none => none))
    | _, _ => none)
  | .scope b, s, mk => bindL (evCN P call draw n ro b s mk) (jumpNN (evLabN P call draw n ro b) 10000)
  | .refuse _, _, _ => none
def evLabN (P : Program) (call : CallN) (draw : DrawT) (n : Nat) (ro : Option Nat) : Code → Nat → St → List Nat → ResN
  | .seq x y, l, s, mk => (match findLabel x l with
    | some _ => bindL (evLabN P call draw n ro x l s mk) (fun r => match r with
      | (.normal, s', mk') => evCN P call draw n ro y s' mk'
      | (.exit id, s', mk') => some [(.exit id, s', mk')]
      | (.goto l, s', mk') => some [(.goto l, s', mk')]
      | (.ret, s', mk') => some [(.ret, s', mk')])
    | none => evLabN P call draw n ro y l s mk)
  | .label l', l, s, mk => cond (l' == l) (some [(.normal, s, mk)]) none
  | _, _, _, _ => none
end
def CNOk (P : Program) (call : CallN) (draw : DrawT) (c : Code) : Prop := ∀ w0 e n ro F m s mk a w rs Q, FRel e ro F → SRel w0 e n s a w → drel e mk a.defers → evCN P call draw n ro c s mk = some rs →
  (∀ r ∈ rs, ∀ e' a' w', e.le e' → SRel w0 e' n r.2.1 a' w' → drel e' r.2.2 a'.defers → Q r.1.to a' w') → c.wpIn F m P Q a w
section
variable {P : Program} {F : Fence} {m : Nat}
theorem loopNN_ok {call : CallN} {draw : DrawT} {c : Code} (hC : CNOk P call draw c) {n : Nat} {ro : Option Nat} {w0 : World} {Q : Exit → Act → World → Prop} : ∀ (j : Nat) (e : E) (s : St) (mk : List Nat) (a : Act) (w : World) (rs : List (Ex × St × List Nat)), FRel e ro F → SRel w0 e n s a w → drel e mk a.defers →
    loopNN (evCN P call draw n ro c) j s mk = some rs → (∀ r ∈ rs, ∀ e' a' w', e.le e' → SRel w0 e' n r.2.1 a' w' → drel e' r.2.2 a'.defers → Q r.1.to a' w') → LoopAt F m P c Q a w
  | 0, _, _, _, _, _, _, _, _, _, q, _ => by cases q
  | j + 1, e, s, mk, a, w, rs, hF, S, D, q, hQ => by
    refine loop_step ?_
    unfold loopNN at q
    obtain ⟨l, hl, hall⟩ := bindL_some q
    refine hC _ _ _ _ _ _ _ _ _ _ _ _ hF S D hl (fun r hr e1 a1 w1 h1 h2 h3 => ?_)
    obtain ⟨x, hx, hsub⟩ := hall r hr
    obtain ⟨ex1, s1, mk1⟩ := r
    cases ex1 with
    | normal => exact loopNN_ok hC j e1 s1 mk1 a1 w1 x (hF.mono h1) h2 h3 hx (fun r2 hr2 e2 a2 w2 h4 h5 h6 => hQ r2 (hsub r2 hr2) e2 a2 w2 (h1.trans h4) h5 h6)
    | exit id => cases hx; exact hQ _ (hsub _ List.mem_cons_self) e1 a1 w1 h1 h2 h3
    | goto l => cases hx; exact hQ _ (hsub _ List.mem_cons_self) e1 a1 w1 h1 h2 h3
    | ret => cases hx; exact hQ _ (hsub _ List.mem_cons_self) e1 a1 w1 h1 h2 h3
def RunNOk (P : Program) (rest : Code) (run : Nat → Option Nat → St → List Nat → ResN) : Prop := ∀ w0 e n ro F m s mk a w rs Q, FRel e ro F → SRel w0 e n s a w → drel e mk a.defers → run n ro s mk = some rs →
  (∀ r ∈ rs, ∀ e' a' w', e.le e' → SRel w0 e' n r.2.1 a' w' → drel e' r.2.2 a'.defers → Q r.1.to a' w') → rest.wpIn F m P Q a w
theorem evLabN_label {call : CallN} {draw : DrawT} {n : Nat} {ro : Option Nat} : ∀ {c : Code} {l : Nat} {s : St} {mk : List Nat} {r : List (Ex × St × List Nat)}, evLabN P call draw n ro c l s mk = some r → ∃ rest, findLabel c l = some rest
  | .seq x y, l, s, mk, r, q => by
    simp only [evLabN] at q
    split at q
    · rename_i rx hx
      exact ⟨.seq rx y, by simp only [findLabel, hx]⟩
    · rename_i hx
      obtain ⟨rest, hr⟩ := evLabN_label q
      exact ⟨rest, by simp only [findLabel, hx, hr]⟩
  | .label l', l, s, mk, r, q => by
    simp only [evLabN] at q
    cases h : l' == l with
    | false => rw [h] at q; cases q
    | true => exact ⟨.skip, by simp only [findLabel, h, if_true]⟩
  | .skip, _, _, _, _, q | .exit _, _, _, _, _, q | .goto _, _, _, _, _, q | .ret, _, _, _, _, q | .scope _, _, _, _, _, q | .refuse _, _, _, _, _, q | .region _ _ _, _, _, _, _, q | .cond _ _ _, _, _, _, _, q | .block _ _, _, _, _, _, q | .loop _, _, _, _, _, q | .rangeFunc _ _ _ _, _, _, _, _, q => by simp only [evLabN] at q; cases q
theorem jumpNN_ok {call : CallN} {draw : DrawT} {c : Code} (hL : ∀ l rest, findLabel c l = some rest → RunNOk P rest (fun n ro => evLabN P call draw n ro c l)) {n : Nat} {ro : Option Nat} {w0 : World} {Q : Exit → Act → World → Prop} : ∀ (j : Nat) (e : E) (s : St) (mk : List Nat) (a : Act) (w : World) (rest : Code) (run : Nat → Option Nat → St → List Nat → ResN) (rs : List (Ex × St × List Nat)), RunNOk P rest run → FRel e ro F → SRel w0 e n s a w → drel e mk a.defers →
    bindL (run n ro s mk) (jumpNN (evLabN P call draw n ro c) j) = some rs → (∀ r ∈ rs, ∀ e' a' w', e.le e' → SRel w0 e' n r.2.1 a' w' → drel e' r.2.2 a'.defers → Q r.1.to a' w') → ScopeAt F m P c rest Q a w
  | j, e, s, mk, a, w, rest, run, rs, hrun, hF, S, D, q, hQ => by
    refine scope_step ?_
    obtain ⟨l, hl, hall⟩ := bindL_some q
    refine hrun _ _ _ _ _ _ _ _ _ _ _ _ hF S D hl (fun r hr e1 a1 w1 h1 h2 h3 => ?_)
    obtain ⟨x, hx, hsub⟩ := hall r hr
    obtain ⟨ex1, s1, mk1⟩ := r
    cases j with
    | zero => cases hx
    | succ j =>
      cases ex1 with
      | normal => cases hx; exact hQ _ (hsub _ List.mem_cons_self) e1 a1 w1 h1 h2 h3
      | exit id => cases hx; exact hQ _ (hsub _ List.mem_cons_self) e1 a1 w1 h1 h2 h3
      | ret => cases hx; exact hQ _ (hsub _ List.mem_cons_self) e1 a1 w1 h1 h2 h3
      | goto lb =>
        unfold jumpNN at hx
        obtain ⟨l2, hl2, _⟩ := bindL_some hx
        obtain ⟨rest', hf⟩ := evLabN_label hl2
        exact ⟨rest', hf, jumpNN_ok hL j e1 s1 mk1 a1 w1 rest' (fun n ro => evLabN P call draw n ro c lb) x (hL lb rest' hf) (hF.mono h1) h2 h3 hx (fun r2 hr2 e2 a2 w2 h4 h5 h6 => hQ r2 (hsub r2 hr2) e2 a2 w2 (h1.trans h4) h5 h6)⟩
mutual
theorem evCN_ok {call : CallN} {draw : DrawT} (hc : CallNOk P call) (hd : DrawOk P (oneOf call) draw) : ∀ (c : Code), CNOk P call draw c
  | .skip => fun w0 e n ro F m s mk a w rs Q hF S D q hQ => by cases q; exact wpIn_skip (hQ _ List.mem_cons_self _ _ _ (E.le.refl _) S D)
  | .label _ => fun w0 e n ro F m s mk a w rs Q hF S D q hQ => by cases q; exact wpIn_label (hQ _ List.mem_cons_self _ _ _ (E.le.refl _) S D)
  | .exit _ => fun w0 e n ro F m s mk a w rs Q hF S D q hQ => by cases q; exact wpIn_exit (hQ _ List.mem_cons_self _ _ _ (E.le.refl _) S D)
  | .goto _ => fun w0 e n ro F m s mk a w rs Q hF S D q hQ => by cases q; exact wpIn_goto (hQ _ List.mem_cons_self _ _ _ (E.le.refl _) S D)
  | .ret => fun w0 e n ro F m s mk a w rs Q hF S D q hQ => by cases q; exact wpIn_ret (hQ _ List.mem_cons_self _ _ _ (E.le.refl _) S D)
  | .scope b => fun w0 e n ro F m s mk a w rs Q hF S D q hQ => by
    simp only [evCN] at q
    exact scope_of (jumpNN_ok (fun l rest hf => evLabN_ok hc hd b l rest hf) _ e s mk a w b (fun n ro => evCN P call draw n ro b) rs (evCN_ok hc hd b) hF S D q hQ)
  | .refuse _ => fun w0 e n ro F m s mk a w rs Q hF S D q hQ => by cases q
  | .region id ops false => fun w0 e n ro F m s mk a w rs Q hF S D q hQ => by
    simp only [evCN] at q
    obtain ⟨l, hl, hall⟩ := bindL_some q
    refine wp_regionNN hF.open hc S hl (fun s' hs' e' a' w' h1 h2 h3 => ?_)
    obtain ⟨x, hx, hsub⟩ := hall s' hs'
    cases hx
    exact hQ _ (hsub _ List.mem_cons_self) e' a' w' h1 h2 (by rw [h3]; exact drel_mono h1 D)
  | .region id ops true => fun w0 e n ro F m s mk a w rs Q hF S D q hQ => by
    simp only [evCN] at q
    obtain ⟨l, hl, hall⟩ := bindL_some q
    unfold draw2 at hl
    split at hl
    · rename_i s' hs'
      cases hl
      obtain ⟨x, hx, hsub⟩ := hall s' List.mem_cons_self
      cases hx
      exact hd.ok hF.open S hs' (fun e' a' w' h1 h2 h3 => hQ _ (hsub _ List.mem_cons_self) e' a' w' h1 h2 (by rw [h3]; exact drel_mono h1 D))
    · refine drawFN_ok hc hF.open S hl (fun s' hs' e' a' w' h1 h2 h3 => ?_)
      obtain ⟨x, hx, hsub⟩ := hall s' hs'
      cases hx
      exact hQ _ (hsub _ List.mem_cons_self) e' a' w' h1 h2 (by rw [h3]; exact drel_mono h1 D)
  | .seq x y => fun w0 e n ro F m s mk a w rs Q hF S D q hQ => by
    simp only [evCN] at q
    refine wpIn_seq ?_
    obtain ⟨l, hl, hall⟩ := bindL_some q
    refine evCN_ok hc hd x _ _ _ _ _ _ _ _ _ _ _ _ hF S D hl (fun r hr e1 a1 w1 h2 h3 h4 => ?_)
    obtain ⟨z, hz, hsub⟩ := hall r hr
    obtain ⟨ex1, s1, mk1⟩ := r
    cases ex1 with
    | normal => exact evCN_ok hc hd y _ _ _ _ _ _ _ _ _ _ _ _ (hF.mono h2) h3 h4 hz (fun r2 hr2 e2 a2 w2 h5 h6 h7 => hQ r2 (hsub r2 hr2) e2 a2 w2 (h2.trans h5) h6 h7)
    | exit id => cases hz; exact hQ _ (hsub _ List.mem_cons_self) e1 a1 w1 h2 h3 h4
    | goto l => cases hz; exact hQ _ (hsub _ List.mem_cons_self) e1 a1 w1 h2 h3 h4
    | ret => cases hz; exact hQ _ (hsub _ List.mem_cons_self) e1 a1 w1 h2 h3 h4
  | .cond c x y => fun w0 e n ro F m s mk a w rs Q hF S D q hQ => by
    simp only [evCN] at q
    split at q
    · rename_i h1
      have := evO_rel S.t h1
      simp only [vrel] at this
      exact wpIn_cond_true this (evCN_ok hc hd x _ _ _ _ _ _ _ _ _ _ _ _ hF S D q hQ)
    · rename_i h1
      have := evO_rel S.t h1
      simp only [vrel] at this
      exact wpIn_cond_false this (evCN_ok hc hd y _ _ _ _ _ _ _ _ _ _ _ _ hF S D q hQ)
    · cases q
  | .block id b => fun w0 e n ro F m s mk a w rs Q hF S D q hQ => by
    simp only [evCN] at q
    refine wpIn_block ?_
    obtain ⟨l, hl, hall⟩ := bindL_some q
    refine evCN_ok hc hd b _ _ _ _ _ _ _ _ _ _ _ _ hF S D hl (fun r hr e1 a1 w1 h2 h3 h4 => ?_)
    obtain ⟨z, hz, hsub⟩ := hall r hr
    obtain ⟨ex1, s1, mk1⟩ := r
    cases ex1 with
    | normal => cases hz; exact hQ _ (hsub _ List.mem_cons_self) e1 a1 w1 h2 h3 h4
    | exit id' =>
      cases hb : Nat.beq id' id with
      | true =>
        simp only [hb, cond_true] at hz
        cases hz
        have := Nat.eq_of_beq_eq_true hb
        subst this
        show Exit.inBlock id' Q (.exit id') a1 w1
        simp only [Exit.inBlock, if_true]
        exact hQ _ (hsub _ List.mem_cons_self) e1 a1 w1 h2 h3 h4
      | false =>
        simp only [hb, cond_false] at hz
        cases hz
        have hne : ¬ id' = id := fun e2 => by subst e2; simp at hb
        show Exit.inBlock id Q (.exit id') a1 w1
        simp only [Exit.inBlock, hne, if_false]
        exact hQ _ (hsub _ List.mem_cons_self) e1 a1 w1 h2 h3 h4
    | goto l => cases hz; exact hQ _ (hsub _ List.mem_cons_self) e1 a1 w1 h2 h3 h4
    | ret => cases hz; exact hQ _ (hsub _ List.mem_cons_self) e1 a1 w1 h2 h3 h4
  | .loop b => fun w0 e n ro F m s mk a w rs Q hF S D q hQ => by
    simp only [evCN] at q
    exact loop_of (loopNN_ok (evCN_ok hc hd b) _ e s mk a w rs hF S D q hQ)
  | .rangeFunc g ps assign body => fun w0 e n ro F m s mk a w rs Q hF S D q hQ => by
    simp only [evCN] at q
    split at q
    · rename_i f first cap l h1 mk1 hg hent
      obtain ⟨ll, hl, hall⟩ := bindL_some q
      refine wpIn_rangeFunc (fun fn _ => ?_)
      obtain ⟨e1, k, mark, w1, r1, r2, r3, r4, r5⟩ := enter_ok (P := P) fn hF S D hent
      have hgv := evO_rel S.t hg
      simp only [vrel] at hgv
      obtain ⟨fs, cs, hge, hfs, hcs⟩ := hgv
      have hargs : vrels e1 (first ++ [.yield l] ++ cap) (fs ++ [.func (.yield k) #[] #[]] ++ cs) :=
        vrels_append (vrels_append (vrels_mono r2 _ _ hfs) (vrels_one (by simp only [vrel]; exact ⟨k, r3, rfl⟩))) (vrels_mono r2 _ _ hcs)
      obtain ⟨⟨fnc, g1, g2, g3⟩, g4⟩ := hc.fn hl r4 _ hargs
      have g3' : ¬ fnc.name = "runtime.NumGoroutine" := by simpa using g3
      have g2' : ¬ fnc.body = none := fun hh => by rw [hh] at g2; cases g2
      refine ⟨k, mark, w1, { target := .fn (.func f) ⟨cs⟩, args := ⟨fs⟩ ++ #[.func (.yield k) #[] #[]] }, w1, f, ⟨fs ++ [.func (.yield k) #[] #[]] ++ cs⟩, w1, r1, ?_, fun f' _ => hF.open.fn f', ?_, ?_, ?_⟩
      · have hev : ∀ v, a.eval (.const v) = v := fun _ => rfl
        simp [resolve, hge, Deferred.ofValue, hev]
      · have : (⟨fs⟩ : Array Value) ++ #[.func (.yield k) #[] #[]] ++ ⟨cs⟩ = ⟨fs ++ [.func (.yield k) #[] #[]] ++ cs⟩ := by
          apply Array.ext'
          simp
        simp only [invoke, this]
        simp [callFunc, g1, g2', g3']
      · intro hdp
        rw [hF.open.depth] at hdp
        cases hdp
      · refine hF.open.calls ((g4 (m - 1)).mono ?_)
        rintro en w2 ⟨r, hr, e2, x, rfl, p2, p3, p4⟩
        obtain ⟨z, hz, hsub⟩ := hall r hr
        obtain ⟨res, hres, rfl⟩ := oneL_some hz
        split at hres
        · rename_i ex3 h3 hlv
          cases hres
          obtain ⟨w3, t1, t2⟩ := leave_ok (P := P) p4 (p2.ρ _ _ r3) hlv
          refine ⟨ex3.jump, w3, t1, ?_⟩
          have fin := hQ _ (hsub _ List.mem_cons_self) e2 { a with defers := mark ++ a.defers } w3 (r2.trans p2) ⟨S.t.mono (r2.trans p2), t2⟩ (drel_mono p2 r5)
          cases ex3 with
          | normal => exact fin
          | exit id => exact wpIn_exit fin
          | goto l => exact wpIn_goto fin
          | ret => exact wpIn_ret fin
        · cases hres
    · cases q
theorem evLabN_ok {call : CallN} {draw : DrawT} (hc : CallNOk P call) (hd : DrawOk P (oneOf call) draw) : ∀ (c : Code) (l : Nat) (rest : Code), findLabel c l = some rest → RunNOk P rest (fun n ro => evLabN P call draw n ro c l)
  | .seq x y, l, rest, hf => fun w0 e n ro F m s mk a w rs Q hF S D q hQ => by
    simp only [evLabN] at q
    simp only [findLabel] at hf
    cases hx : findLabel x l with
    | none =>
      rw [hx] at q hf
      exact evLabN_ok hc hd y l rest hf _ _ _ _ _ _ _ _ _ _ _ _ hF S D q hQ
    | some rx =>
      rw [hx] at q hf
      cases hf
      dsimp only at q
      refine wpIn_seq ?_
      obtain ⟨l1, hl1, hall⟩ := bindL_some q
      refine evLabN_ok hc hd x l rx hx _ _ _ _ _ _ _ _ _ _ _ _ hF S D hl1 (fun r hr e1 a1 w1 h2 h3 h4 => ?_)
      obtain ⟨z, hz, hsub⟩ := hall r hr
      obtain ⟨ex1, s1, mk1⟩ := r
      cases ex1 with
      | normal => exact evCN_ok hc hd y _ _ _ _ _ _ _ _ _ _ _ _ (hF.mono h2) h3 h4 hz (fun r2 hr2 e2 a2 w2 h5 h6 h7 => hQ r2 (hsub r2 hr2) e2 a2 w2 (h2.trans h5) h6 h7)
      | exit id => cases hz; exact hQ _ (hsub _ List.mem_cons_self) e1 a1 w1 h2 h3 h4
      | goto l => cases hz; exact hQ _ (hsub _ List.mem_cons_self) e1 a1 w1 h2 h3 h4
      | ret => cases hz; exact hQ _ (hsub _ List.mem_cons_self) e1 a1 w1 h2 h3 h4
  | .label l', l, rest, hf => fun w0 e n ro F m s mk a w rs Q hF S D q hQ => by
    simp only [evLabN] at q
    simp only [findLabel] at hf
    cases h : l' == l with
    | false => rw [h] at q; cases q
    | true =>
      rw [h] at q hf
      cases q
      cases hf
      exact wpIn_skip (hQ _ List.mem_cons_self _ _ _ (E.le.refl _) S D)
  | .skip, _, _, hf | .exit _, _, _, hf | .goto _, _, _, hf | .ret, _, _, hf | .scope _, _, _, hf | .refuse _, _, _, hf | .region _ _ _, _, _, hf | .cond _ _ _, _, _, hf | .block _ _, _, _, hf | .loop _, _, _, hf | .rangeFunc _ _ _ _, _, _, hf => by cases hf
end
end
end Go.Proofs.Ytdammjolkcjogaa.Ev

/-! The evaluator that goes all ways: calls; and the join: a function that comes to the same whichever way it goes. -/
namespace Go.Proofs.Ytdammjolkcjogaa.Ev
open Go Go.RowKit
set_option linter.unusedVariables false
set_option linter.unusedSimpArgs false

def evFnN (P : Program) (spec : SpecT) (call : CallN) (draw : DrawT) (g : FuncId) (args : List V) (h : H) : OutL (V × H) :=
  match spec g with
  | some f => oneL (f h args)
  | none => match (funcT P).get g with
    | some fn => (match fn.body with
      | some c => cond (Nat.ble args.length fn.ntmps) (bindL (evCN P call draw fn.ntmps none c ⟨argTm 0 args .leaf, h⟩ []) (fun r => match r with
        | (.normal, s, mk) => oneL (evEnd P fn s mk)
        | (.ret, s, mk) => oneL (evEnd P fn s mk)
        | _ => none)) none
      | none => none)
    | none => none
def roundEndN (l : Nat) (r : Ex × St × List Nat) : OutL (V × H) := match r.2.1.h.getW l with
  | some (.loop r2) => some [(.bool r.1.jump.isNone, r.2.1.h.set l (some (.loop { r2 with state := if r.1.jump.isNone then .ready else .done, pending := r.1.jump })))]
  | _ => none
def evRoundN (P : Program) (call : CallN) (draw : DrawT) (l : Nat) (args : List V) (h : H) : OutL (V × H) :=
  match h.get l with
  | some (.loop r) => (match foldPut r.ntm r.tmps r.params args with
    | some tm => bindL (evCN P call draw r.ntm (some l) r.assign ⟨tm, h⟩ []) (fun q => match q with
      | (.normal, s1, mk1) => (match s1.h.getW l with
        | some (.loop r1) => cond (isReady r1.state) (bindL (evCN P call draw r.ntm (some l) r.body ⟨s1.tm, s1.h.set l (some (.loop { r1 with state := .busy }))⟩ mk1) (roundEndN l)) none
        | _ => none)
      | _ => none)
    | none => none)
  | _ => none
def evCallN (P : Program) (ext : ExtT) (spec : SpecT) (draw : CallT → DrawT) : Nat → CallN
  | 0 => fun _ _ => none
  | d + 1 => fun task h => match task with
    | .fn g args => evFnN P spec (evCallN P ext spec draw d) (draw (oneOf (evCallN P ext spec draw d))) g args h
    | .call g args => (match ext g with
      | some f => oneL (f h args)
      | none => evFnN P spec (evCallN P ext spec draw d) (draw (oneOf (evCallN P ext spec draw d))) g args h)
    | .round l args => evRoundN P (evCallN P ext spec draw d) (draw (oneOf (evCallN P ext spec draw d))) l args h
section
variable {P : Program} {w0 w w' : World} {e : E} {h : H}
theorem evFnN_ok {spec : SpecT} {call : CallN} {draw : DrawT} (hnm : ∀ (g : FuncId) (fn : Func), P.funcs[g]? = some fn → (fn.name == "runtime.NumGoroutine") = false) (hsp : SpecOk P spec) (hc : CallNOk P call) (hd : DrawOk P (oneOf call) draw) {g : FuncId} {args : List V} {rs : List (V × H)} (q : evFnN P spec call draw g args h = some rs) (R : Rel w0 e h w) (xs : List Value) (hv : vrels e args xs) :
    (∃ fn, P.funcs[g]? = some fn ∧ fn.body.isNone = false ∧ (fn.name == "runtime.NumGoroutine") = false) ∧ ∀ n, CallsIn Fence.wide n P g ⟨xs⟩ w (fun en w' => ∃ r ∈ rs, CallPost w0 e r.1 r.2 en w') := by
  unfold evFnN at q
  split at q
  · rename_i f hf
    obtain ⟨r, hr, rfl⟩ := oneL_some q
    obtain ⟨⟨fn, g1, g2⟩, g3⟩ := hsp g f hf
    exact ⟨⟨fn, g1, g2, hnm g fn g1⟩, fun n => (g3 w0 e h w args r.1 r.2 hr R xs hv n).mono fun en w' hp => ⟨r, List.mem_cons_self, hp⟩⟩
  · split at q
    · rename_i fn hfn
      have hfn := (funcT_get P g).symm.trans hfn
      split at q
      · rename_i c hb
        cases hle : Nat.ble args.length fn.ntmps with
        | false => rw [hle] at q; cases q
        | true =>
          rw [hle] at q
          simp only [cond_true] at q
          have hle := Nat.le_of_ble_eq_true hle
          refine ⟨⟨fn, hfn, by rw [hb]; rfl, hnm g fn hfn⟩, fun m => ?_⟩
          have T := args_trel hv hle
          obtain ⟨l, hl, hall⟩ := bindL_some q
          refine callsIn_of_wp_marks hfn hb trivial ?_
          refine evCN_ok hc hd c _ _ _ _ _ _ _ _ _ _ _ _ (show FRel e none Fence.wide from rfl) (⟨T, R⟩ : SRel w0 e fn.ntmps ⟨argTm 0 args .leaf, h⟩ _ w) (show drel e [] [] from rfl) hl (fun r hr e' a' w' h1 h2 h3 => ?_)
          obtain ⟨x, hx, hsub⟩ := hall r hr
          obtain ⟨ex, s, mk⟩ := r
          have leave : ∀ v h', evEnd P fn s mk = some (v, h') → (v, h') ∈ rs → LeavesInM Fence.wide m P fn a'.tmps (fun en w' => ∃ r ∈ rs, CallPost w0 e r.1 r.2 en w') a'.defers .returning w' := by
            intro v h' hq hmem
            unfold evEnd at hq
            split at hq
            · rename_i h2' hcl
              split at hq
              · rename_i vs hrs
                cases hq
                refine close_ok mk _ _ _ h3 h2.r hcl (fun w2 R2 => ?_)
                obtain ⟨x, r1, r2⟩ := run_results (P := P) (s := ⟨s.tm, h'⟩) R2 h2.t hrs
                exact ⟨x, r1, _, hmem, e', x, rfl, h1, r2, R2⟩
              · cases hq
            · cases hq
          cases ex with
          | normal =>
            obtain ⟨r, hr, rfl⟩ := oneL_some hx
            exact leave r.1 r.2 hr (hsub _ List.mem_cons_self)
          | ret =>
            obtain ⟨r, hr, rfl⟩ := oneL_some hx
            exact leave r.1 r.2 hr (hsub _ List.mem_cons_self)
          | exit id => cases hx
          | goto l => cases hx
      · cases q
    · cases q
theorem evRoundN_ok {call : CallN} {draw : DrawT} (hc : CallNOk P call) (hd : DrawOk P (oneOf call) draw) {l k : Nat} {args : List V} {rs : List (V × H)} (q : evRoundN P call draw l args h = some rs) (R : Rel w0 e h w) (hk : e.ρ l = some k) (xs : List Value) (hv : vrels e args xs) :
    ∃ fn tmps assign body, (Instr.yield k ⟨xs⟩).run P w = .ok (.round k fn tmps assign body) w ∧ ∀ n, RoundIn Fence.wide n P k fn tmps assign body w (fun en w' => ∃ r ∈ rs, CallPost w0 e r.1 r.2 en w') := by
  unfold evRoundN at q
  split at q
  · rename_i r hg
    obtain ⟨fn, tmps, dk, g1, g2, g3⟩ := R.heap l _ k hg hk
    split at q
    · rename_i tm hfp
      obtain ⟨hlen, T⟩ := foldPut_ok r.params args xs r.tmps tm tmps g2 hv hfp
      have hy := run_yield (P := P) (args := ⟨xs⟩) g1 (by have := vrels_len hv; simp; omega)
      refine ⟨fn, _, _, _, hy, fun m => ?_⟩
      have T' : trel e tm r.ntm (((⟨r.params⟩ : Array Tmp).zip ⟨xs⟩).foldl (fun tmps (t, a) => tmps.setIfInBounds t a) tmps) := by
        rw [← Array.foldl_toList]
        simpa using T
      refine roundIn_of_wpIn trivial ?_
      obtain ⟨l1, hl1, hall1⟩ := bindL_some q
      refine evCN_ok hc hd r.assign _ _ _ _ _ _ _ _ _ _ _ _ (show FRel e (some l) (Fence.wide.inRound k) from ⟨k, hk, rfl⟩) (⟨T', R⟩ : SRel w0 e r.ntm ⟨tm, h⟩ _ w) (show drel e [] [] from rfl) hl1 (fun q1 hq1 e1 a1 w1 h1 h2 h3 => ?_)
      obtain ⟨x1, hx1, hsub1⟩ := hall1 q1 hq1
      obtain ⟨ex1, s1, mk1⟩ := q1
      cases ex1 with
      | exit id => cases hx1
      | goto l => cases hx1
      | ret => cases hx1
      | normal =>
        dsimp only at hx1
        split at hx1
        · rename_i r1 hg1
          obtain ⟨hf1, hg1⟩ := H.getW_some hg1
          cases hrd : isReady r1.state with
          | false => rw [hrd] at hx1; cases hx1
          | true =>
            rw [hrd] at hx1
            simp only [cond_true] at hx1
            have hk1 := h1.ρ _ _ hk
            obtain ⟨fn1, tmps1, dk1, p1, p2, p3⟩ := h2.r.heap l _ k hg1 hk1
            have hst : r1.state = .ready := by cases hh : r1.state <;> rw [hh] at hrd <;> first | rfl | cases hrd
            refine ⟨_, run_beginRound (P := P) p1 hst, ?_⟩
            have R2 : Rel w0 e1 (s1.h.set l (some (.loop { r1 with state := .busy }))) (w1.putObj k _) := h2.r.upd hk1 hf1 hg1 (grownBy_putObj' _ _ _) (by rw [World.putObj_heap_same (h2.r.new _ _ hk1).2]; exact ⟨fn1, tmps1, dk1, rfl, p2, p3⟩)
            obtain ⟨l2, hl2, hall2⟩ := bindL_some hx1
            refine evCN_ok hc hd r.body _ _ _ _ _ _ _ _ _ _ _ _ (show FRel e1 (some l) (Fence.wide.inRound k) from ⟨k, hk1, rfl⟩) (⟨h2.t, R2⟩ : SRel w0 e1 r.ntm ⟨s1.tm, s1.h.set l (some (.loop { r1 with state := .busy }))⟩ a1 _) h3 hl2 (fun q2 hq2 e2 a2 w2 h4 h5 h6 => ?_)
            obtain ⟨x2, hx2, hsub2⟩ := hall2 q2 hq2
            obtain ⟨ex, s2, mk2⟩ := q2
            unfold roundEndN at hx2
            dsimp only at hx2
            split at hx2
            · rename_i r2 hg2
              obtain ⟨hf2, hg2⟩ := H.getW_some hg2
              cases hx2
              have hk2 := h4.ρ _ _ hk1
              obtain ⟨fn2, tmps2, dk2, t1, t2, t3⟩ := h5.r.heap l _ k hg2 hk2
              have hend := run_endRound (P := P) ex.jump t1
              have R3 : Rel w0 e2 (s2.h.set l (some (.loop { r2 with state := if ex.jump.isNone then .ready else .done, pending := ex.jump }))) (w2.putObj k _) := h5.r.upd hk2 hf2 hg2 (grownBy_putObj' _ _ _) (by rw [World.putObj_heap_same (h5.r.new _ _ hk2).2]; exact ⟨fn2, tmps2, dk2, rfl, t2, t3⟩)
              have fin : ∃ r ∈ rs, CallPost w0 e r.1 r.2 (.returned (.bool ex.jump.isNone)) (w2.putObj k _) := ⟨_, hsub1 _ (hsub2 _ List.mem_cons_self), e2, _, rfl, h1.trans h4, by simp only [vrel], R3⟩
              cases ex with
              | normal => exact ⟨_, _, hend, fin⟩
              | exit id => exact ⟨_, _, hend, fin⟩
              | goto l => exact ⟨_, _, hend, fin⟩
              | ret => exact ⟨_, _, hend, fin⟩
            · cases hx2
        · cases hx1
    · cases q
  · cases q
theorem evCallN_ok {ext : ExtT} {spec : SpecT} {draw : CallT → DrawT} (hnm : ∀ (g : FuncId) (fn : Func), P.funcs[g]? = some fn → (fn.name == "runtime.NumGoroutine") = false) (hex : ExtOk P ext) (hsp : SpecOk P spec) (hdr : ∀ call, CallOk P call → DrawOk P call (draw call)) : ∀ d, CallNOk P (evCallN P ext spec draw d)
  | 0 => ⟨fun q => by simp [evCallN] at q, fun q => by simp [evCallN] at q, fun q => by simp [evCallN] at q⟩
  | d + 1 => by
    have hc := evCallN_ok hnm hex hsp hdr d
    have hd := hdr _ (oneOf_ok hc)
    constructor
    · intro w0 e h w g args rs q R xs hv
      exact evFnN_ok hnm hsp hc hd q R xs hv
    · intro w0 e h w g args rs q R xs hv
      simp only [evCallN] at q
      split at q
      · rename_i f hf
        obtain ⟨r, hr, rfl⟩ := oneL_some q
        obtain ⟨e', x, w', h1, h2, h3, h4⟩ := hex g f hf w0 e h w args r.1 r.2 hr R xs hv
        exact .inr ⟨_, List.mem_cons_self, e', x, w', h1, h2, h3, h4⟩
      · exact .inl (evFnN_ok hnm hsp hc hd q R xs hv)
    · intro w0 e h w l args rs k q R hk xs hv
      exact evRoundN_ok hc hd q R hk xs hv
end
/-! The join. -/
mutual
/-- A value that names no block. -/
def flatV : V → Bool
  | .bool _ => true
  | .int _ _ => true
  | .str _ => true
  | .ptr none => true
  | .slice none _ (.exact _) => true
  | .map none => true
  | .nilFunc => true
  | .nilIface => true
  | .iface _ v => flatV v
  | .agg l => flatVs l
  | .tuple l => flatVs l
  | _ => false
def flatVs : List V → Bool
  | [] => true
  | v :: l => flatV v && flatVs l
end
mutual
theorem flatV_rel {e e' : E} : ∀ (v : V) (x : Value), flatV v = true → vrel e v x → vrel e' v x
  | .bool _, _, _, q | .int _ _, _, _, q | .str _, _, _, q | .ptr none, _, _, q | .map none, _, _, q | .nilFunc, _, _, q | .nilIface, _, _, q => by simp only [vrel] at q ⊢ <;> exact q
  | .slice none _ (.exact _), _, _, q => by simp only [vrel] at q ⊢ <;> exact q
  | .iface t v, _, hf, q => by
    simp only [flatV] at hf
    simp only [vrel] at q ⊢
    obtain ⟨y, h1, h2⟩ := q
    exact ⟨y, h1, flatV_rel v y hf h2⟩
  | .agg l, _, hf, q => by
    simp only [flatV] at hf
    simp only [vrel] at q ⊢
    obtain ⟨y, h1, h2⟩ := q
    exact ⟨y, h1, flatVs_rel l y hf h2⟩
  | .tuple l, _, hf, q => by
    simp only [flatV] at hf
    simp only [vrel] at q ⊢
    obtain ⟨y, h1, h2⟩ := q
    exact ⟨y, h1, flatVs_rel l y hf h2⟩
theorem flatVs_rel {e e' : E} : ∀ (l : List V) (xs : List Value), flatVs l = true → vrels e l xs → vrels e' l xs
  | [], _, _, q => by simpa only [vrels] using q
  | v :: l, _, hf, q => by
    simp only [flatVs, Bool.and_eq_true] at hf
    simp only [vrels] at q ⊢
    obtain ⟨x, r, h1, h2, h3⟩ := q
    exact ⟨x, r, h1, flatV_rel v x hf.1 h2, flatVs_rel l r hf.2 h3⟩
end
section
variable {P : Program} {w0 w w' : World} {e : E} {h : H}
/-- What was, in a later world. -/
theorem Rel.later (R : Rel w0 e h w) (hb : Below w.heap.size w w') : Rel w0 e h w' :=
  ⟨fun b o k h1 h2 => by rw [hb.block k (R.new _ _ h2).2]; exact R.heap b o k h1 h2, R.lt, R.klt, R.inj, fun b k q => ⟨(R.new b k q).1, Nat.lt_of_lt_of_le (R.new b k q).2 hb.size⟩,
    ⟨hb.os.trans R.bel.os, hb.tape.trans R.bel.tape, hb.output.trans R.bel.output, Nat.le_trans R.bel.size hb.size, fun k hk hn => (hb.block k (Nat.lt_of_lt_of_le hk R.bel.size)).trans (R.bel.block k hk hn)⟩, R.fresh, R.lim⟩
/-- Nothing of what was may be written. -/
def H.frozen (h : H) : H := ⟨h.heap, h.nxt, h.nxt, []⟩
theorem Rel.frozen (R : Rel w0 e h w) : Rel w e h.frozen w :=
  ⟨R.heap, R.lt, R.klt, R.inj, fun b k q => ⟨fun hle => absurd (R.lt b k q) (Nat.not_lt.2 hle), (R.new b k q).2⟩, ⟨rfl, rfl, rfl, Nat.le_refl _, fun _ _ _ => rfl⟩, R.fresh, R.lim⟩
end
/-- A slice that was made: what stands in its block. -/
def madeL (h : H) (r : V × H) : Option (Nat × List V × TypeId × Nat) := match r.1 with
  | .slice (some (b, 0)) n (.upto 0 mm) => cond (Nat.ble h.nxt b && Nat.beq r.2.frz h.nxt && r.2.log.isEmpty) (match r.2.get b with
    | some (.cells l t (some s)) => cond (flatVs l) (some (n, l, t, s)) none
    | _ => none) none
  | _ => none
def sameM : Nat × List V × TypeId × Nat → Option (Nat × List V × TypeId × Nat) → Bool
  | (n, l, t, s), some (n', l', t', s') => Nat.beq n n' && sameVs l l' && Nat.beq t t' && Nat.beq s s'
  | _, none => false
def joinV (h : H) (rs : List (V × H)) : Option (V × H) :=
  match rs with
  | [] => none
  | r :: _ => match flatV r.1 with
    | true => cond (rs.all fun q => sameV r.1 q.1 && q.2.log.isEmpty) (some (r.1, h)) none
    | false => (match madeL h r with
      | some (n, l, t, s) => cond (rs.all fun q => sameM (n, l, t, s) (madeL h q)) (some (.slice (some (h.nxt, 0)) n (.upto 0 n), h.new (.cells l t (some s)))) none
      | none => none)
section
variable {P : Program} {w0 w w' : World} {e e' : E} {h h' : H}
theorem madeL_some {r : V × H} {n : Nat} {l : List V} {t : TypeId} {s : Nat} (q : madeL h r = some (n, l, t, s)) : ∃ b mm, r.1 = .slice (some (b, 0)) n (.upto 0 mm) ∧ h.nxt ≤ b ∧ r.2.get b = some (.cells l t (some s)) ∧ flatVs l = true ∧ r.2.frz = h.nxt ∧ r.2.log = [] := by
  unfold madeL at q
  split at q
  · rename_i b n' mm hv
    cases hb : (Nat.ble h.nxt b && Nat.beq r.2.frz h.nxt && r.2.log.isEmpty) with
    | false => rw [hb] at q; cases q
    | true =>
      rw [hb] at q
      simp only [cond_true] at q
      simp only [Bool.and_eq_true] at hb
      split at q
      · rename_i l' t' s' hg
        cases hf : flatVs l' with
        | false => rw [hf] at q; cases q
        | true => rw [hf] at q; cases q; exact ⟨b, mm, hv, Nat.le_of_ble_eq_true hb.1.1, hg, hf, Nat.eq_of_beq_eq_true hb.1.2, List.isEmpty_iff.1 hb.2⟩
      · cases q
  · cases q
theorem joinV_ok (R : Rel w0 e h w) {rs : List (V × H)} {v : V} {h1 : H} (q : joinV h rs = some (v, h1)) {r : V × H} (hr : r ∈ rs) {x : Value} (hle : e.le e') (hx : vrel e' r.1 x) (R' : Rel w e' r.2 w') : ∃ e'', e.le e'' ∧ vrel e'' v x ∧ Rel w0 e'' h1 w' := by
  have L := fun hl : r.2.log = [] => R.later (R'.bel.below fun k hk => by obtain ⟨b, hb, _⟩ := hk; rw [hl] at hb; cases hb)
  unfold joinV at q
  split at q
  · cases q
  · rename_i r0 rest
    split at q
    · rename_i hflat
      cases ha : (r0 :: rest).all fun q => sameV r0.1 q.1 && q.2.log.isEmpty with
      | false => rw [ha] at q; cases q
      | true =>
        rw [ha] at q
        cases q
        have hall := List.all_eq_true.1 ha r hr
        simp only [Bool.and_eq_true] at hall
        have := sameV_eq _ _ hall.1
        rw [← this] at hx
        exact ⟨e, E.le.refl e, flatV_rel _ _ hflat hx, L (List.isEmpty_iff.1 hall.2)⟩
    · split at q
      · rename_i n l t s hm
        cases ha : (r0 :: rest).all fun q => sameM (n, l, t, s) (madeL h q) with
        | false => rw [ha] at q; cases q
        | true =>
          rw [ha] at q
          cases q
          have h2 := List.all_eq_true.1 ha r hr
          cases hmr : madeL h r with
          | none => rw [hmr] at h2; cases h2
          | some p =>
            obtain ⟨n', l', t', s'⟩ := p
            rw [hmr] at h2
            simp only [sameM, Bool.and_eq_true] at h2
            obtain ⟨⟨⟨e1, e2⟩, e3⟩, e4⟩ := h2
            have e1 := Nat.eq_of_beq_eq_true e1
            have e2 := sameVs_eq _ _ e2
            have e3 := Nat.eq_of_beq_eq_true e3
            have e4 := Nat.eq_of_beq_eq_true e4
            subst e1 e2 e3 e4
            obtain ⟨b, mm, hv, hb, hg, hf, hfz, hlog⟩ := madeL_some hmr
            rw [hv] at hx
            simp only [vrel] at hx
            obtain ⟨k, c, hk, hc, ⟨hcm, hsl⟩, rfl⟩ := hx
            obtain ⟨vs, tail, c', g1, g2, g3, g4⟩ := R'.heap b _ k hg hk
            rw [hc] at g3
            cases g3
            have hnew := R'.new b k hk
            have hk0 : w.heap.size ≤ k := (hnew.1 (by rw [hfz]; exact hb)).resolve_right (fun hk => by obtain ⟨b, hb, _⟩ := hk; rw [hlog] at hb; cases hb)
            have hle2 : e.le (e.bind h.nxt (some k) (some c)) := E.bind_le R.rn R.kn R.ll
            refine ⟨e.bind h.nxt (some k) (some c), hle2, ?_, ?_⟩
            · simp only [vrel]
              exact ⟨k, c, E.bind_ρ _ _ _ _, E.bind_κ _ _ _ _, ⟨by omega, Nat.le_refl _⟩, rfl⟩
            · rw [← E.up_bind (some k) (some c) R.lim]
              refine ((L hlog).add (.cells l t (some s))).bind (row := none) (by rw [H.get_new]; exact if_pos rfl) R.rn R.kn (Nat.lt_succ_self _) ⟨rfl, rfl, rfl, Nat.le_refl _, fun _ _ _ => rfl⟩ (fun j e1 => by cases e1) ?_ ?_ hnew.2 ?_
              · intro b' o' hb' hk'
                have := (R.new b' k hk').2
                omega
              · exact .inl (Nat.le_trans R.bel.size hk0)
              · exact ⟨vs, tail, c, g1, flatVs_rel l vs hf g2, E.bind_κ _ _ _ _, g4⟩
      · cases q
end
/-- A function, run all ways. -/
def joinS (P : Program) (ext : ExtT) (spec : SpecT) (draw : CallT → DrawT) (d : Nat) (g : FuncId) : H → List V → Option (V × H) := fun h args => match evCallN P ext spec draw d (.fn g args) h.frozen with
  | some rs => joinV h rs
  | none => none
def joinSpec (P : Program) (ext : ExtT) (spec : SpecT) (draw : CallT → DrawT) (d : Nat) (l : List FuncId) : SpecT := fun g => cond (l.any (Nat.beq g)) (some (joinS P ext spec draw d g)) none
/-- All of these functions have a body. -/
def bodiesB (P : Program) (l : List FuncId) : Bool := l.all fun g => match P.funcs[g]? with
  | some fn => !fn.body.isNone
  | none => false
theorem joinSpec_ok {P : Program} {ext : ExtT} {spec : SpecT} {draw : CallT → DrawT} {d : Nat} {l : List FuncId} (hnm : ∀ (g : FuncId) (fn : Func), P.funcs[g]? = some fn → (fn.name == "runtime.NumGoroutine") = false) (hex : ExtOk P ext) (hsp : SpecOk P spec) (hdr : ∀ call, CallOk P call → DrawOk P call (draw call))
    (hb : bodiesB P l = true) : SpecOk P (joinSpec P ext spec draw d l) := by
  intro g f hf
  unfold joinSpec at hf
  cases ha : l.any (Nat.beq g) with
  | false => rw [ha] at hf; cases hf
  | true =>
    rw [ha] at hf
    cases hf
    obtain ⟨g', hg', hgg⟩ := List.any_eq_true.1 ha
    have := Nat.eq_of_beq_eq_true hgg
    subst this
    have hbody := List.all_eq_true.1 hb g hg'
    refine ⟨?_, fun w0 e h w args v h' q R xs hv n => ?_⟩
    · split at hbody
      · rename_i fn hfn
        exact ⟨fn, hfn, by simpa using hbody⟩
      · cases hbody
    · unfold joinS at q
      split at q
      · rename_i rs hrs
        have hc := evCallN_ok hnm hex hsp hdr d
        refine ((hc.fn hrs R.frozen xs hv).2 n).mono ?_
        rintro en w' ⟨r, hr, e', x, rfl, h1, h2, h3⟩
        obtain ⟨e'', t1, t2, t3⟩ := joinV_ok R q hr h1 h2 h3
        exact ⟨e'', x, rfl, t1, t2, t3⟩
      · cases q
end Go.Proofs.Ytdammjolkcjogaa.Ev

/-! The join by renaming: outcomes that differ by the names of their new blocks, and by the row of a map's entries. -/
namespace Go.Proofs.Ytdammjolkcjogaa.Ev
open Go Go.RowKit
set_option linter.unusedVariables false
set_option linter.unusedSimpArgs false

/-- New numbers for those of an outcome: 'm' from old to new, 'g' from new to old, 'gh' for a map's clock. -/
structure Ren where
  base : Nat
  top : Nat
  m : Tr Nat
  g : Tr Nat
  gh : Tr Nat
def isB : Option Nat → Nat → Bool
  | some a, b => Nat.beq a b
  | none, _ => false
theorem isB_eq {a : Option Nat} {b : Nat} (h : isB a b = true) : a = some b := by
  cases a with
  | none => cases h
  | some a => rw [Nat.eq_of_beq_eq_true h]
def Ren.src (r : Ren) (n : Nat) : Option Nat := cond (Nat.blt n r.base) (some n) (cond (Nat.blt n r.top) (match r.g.get n with
  | some b => cond (Nat.ble r.base b) (some b) none
  | none => none) none)
def Ren.f (r : Ren) (b : Nat) : Option Nat := cond (Nat.blt b r.base) (some b) (match r.m.get b with
  | some n => cond (isB (r.src n) b) (some n) none
  | none => none)
theorem bltT {a b : Nat} : Nat.blt a b = true ↔ a < b := ⟨fun h => Nat.le_of_ble_eq_true h, fun h => Nat.ble_eq_true_of_le h⟩
theorem bltF {a b : Nat} : Nat.blt a b = false ↔ b ≤ a := by
  rw [← Bool.not_eq_true, bltT]; omega
theorem Ren.src_old {r : Ren} {n : Nat} (h : n < r.base) : r.src n = some n := by
  unfold Ren.src; rw [bltT.2 h]; rfl
theorem Ren.src_new {r : Ren} {n b : Nat} (h : r.base ≤ n) (q : r.src n = some b) : n < r.top ∧ r.g.get n = some b ∧ r.base ≤ b := by
  unfold Ren.src at q
  rw [bltF.2 h] at q
  simp only [cond_false] at q
  cases ht : Nat.blt n r.top with
  | false => rw [ht] at q; cases q
  | true =>
    rw [ht] at q
    simp only [cond_true] at q
    split at q
    · rename_i b' hb
      cases hc : Nat.ble r.base b' with
      | false => rw [hc] at q; cases q
      | true => rw [hc] at q; cases q; exact ⟨bltT.1 ht, hb, Nat.le_of_ble_eq_true hc⟩
    · cases q
theorem Ren.f_ok {r : Ren} {b n : Nat} (q : r.f b = some n) : r.src n = some b := by
  unfold Ren.f at q
  cases hb : Nat.blt b r.base with
  | true => rw [hb] at q; cases q; exact Ren.src_old (bltT.1 hb)
  | false =>
    rw [hb] at q
    simp only [cond_false] at q
    split at q
    · rename_i n' hm
      cases hc : isB (r.src n') b with
      | false => rw [hc] at q; cases q
      | true => rw [hc] at q; cases q; exact isB_eq hc
    · cases q
def Ren.env (r : Ren) (e : E) : E := ⟨fun n => (r.src n).bind e.ρ, fun n => (r.src n).bind e.κ, r.top⟩
theorem Ren.env_ρ {r : Ren} {e : E} {n b : Nat} (q : r.src n = some b) : (r.env e).ρ n = e.ρ b := by
  show (r.src n).bind e.ρ = _
  rw [q]; rfl
theorem Ren.env_κ {r : Ren} {e : E} {n b : Nat} (q : r.src n = some b) : (r.env e).κ n = e.κ b := by
  show (r.src n).bind e.κ = _
  rw [q]; rfl
mutual
def renV (r : Ren) : V → Option V
  | .bool b => some (.bool b)
  | .int k n => some (.int k n)
  | .str s => some (.str s)
  | .ptr none => some (.ptr none)
  | .ptr (some p) => (match r.f p.1 with
    | some n => some (.ptr (some (n, p.2)))
    | none => none)
  | .slice none n c => some (.slice none n c)
  | .slice (some p) n c => (match r.f p.1 with
    | some b => some (.slice (some (b, p.2)) n c)
    | none => none)
  | .map none => some (.map none)
  | .map (some b) => (match r.f b with
    | some n => some (.map (some n))
    | none => none)
  | .func fn f c => (match renVs r f, renVs r c with
    | some f', some c' => some (.func fn f' c')
    | _, _ => none)
  | .yield _ => none
  | .nilFunc => some .nilFunc
  | .iface t v => (match renV r v with
    | some v' => some (.iface t v')
    | none => none)
  | .nilIface => some .nilIface
  | .agg l => (match renVs r l with
    | some l' => some (.agg l')
    | none => none)
  | .tuple l => (match renVs r l with
    | some l' => some (.tuple l')
    | none => none)
  | .stamp b => (match r.f b with
    | some n => some (.stamp n)
    | none => none)
  | .junk => some .junk
def renVs (r : Ren) : List V → Option (List V)
  | [] => some []
  | v :: l => (match renV r v, renVs r l with
    | some v', some l' => some (v' :: l')
    | _, _ => none)
end
mutual
theorem renV_ok {r : Ren} {e : E} : ∀ (v v' : V) (x : Value), renV r v = some v' → vrel e v x → vrel (r.env e) v' x
  | .bool _, _, _, q, h | .int _ _, _, _, q, h | .str _, _, _, q, h | .ptr none, _, _, q, h | .map none, _, _, q, h | .nilFunc, _, _, q, h | .nilIface, _, _, q, h | .junk, _, _, q, h => by
    simp only [renV] at q
    cases q
    simp only [vrel] at h ⊢ <;> exact h
  | .slice none _ (.exact _), _, _, q, h | .slice none _ (.upto _ _), _, _, q, h => by
    simp only [renV] at q
    cases q
    simp only [vrel] at h ⊢ <;> exact h
  | .slice none _ (.tail _), _, _, q, h => by simp only [vrel] at h
  | .slice (some (b, o)) n (.tail c), _, _, q, h => by
    simp only [renV] at q
    split at q
    · rename_i n' hn
      cases q
      simp only [vrel] at h ⊢
      obtain ⟨h0, k, c', a, h1, h2, h3⟩ := h
      exact ⟨h0, k, c', a, (Ren.env_ρ (Ren.f_ok hn)).trans h1, (Ren.env_κ (Ren.f_ok hn)).trans h2, h3⟩
    · cases q
  | .yield _, _, _, q, _ => by simp only [renV] at q; cases q
  | .ptr (some (b, o)), _, _, q, h => by
    simp only [renV] at q
    split at q
    · rename_i n hn
      cases q
      simp only [vrel] at h ⊢
      obtain ⟨k, h1, h2⟩ := h
      exact ⟨k, (Ren.env_ρ (Ren.f_ok hn)).trans h1, h2⟩
    · cases q
  | .slice (some (b, o)) n (.exact c), _, _, q, h => by
    simp only [renV] at q
    split at q
    · rename_i n' hn
      cases q
      simp only [vrel] at h ⊢
      obtain ⟨k, h1, h2⟩ := h
      exact ⟨k, (Ren.env_ρ (Ren.f_ok hn)).trans h1, h2⟩
    · cases q
  | .slice (some (b, o)) n (.upto c m), _, _, q, h => by
    simp only [renV] at q
    split at q
    · rename_i n' hn
      cases q
      simp only [vrel] at h ⊢
      obtain ⟨k, c', h1, h2, h3⟩ := h
      exact ⟨k, c', (Ren.env_ρ (Ren.f_ok hn)).trans h1, (Ren.env_κ (Ren.f_ok hn)).trans h2, h3⟩
    · cases q
  | .map (some b), _, _, q, h => by
    simp only [renV] at q
    split at q
    · rename_i n hn
      cases q
      simp only [vrel] at h ⊢
      obtain ⟨k, h1, h2⟩ := h
      exact ⟨k, (Ren.env_ρ (Ren.f_ok hn)).trans h1, h2⟩
    · cases q
  | .stamp b, _, _, q, h => by
    simp only [renV] at q
    split at q
    · rename_i n hn
      cases q
      simp only [vrel] at h ⊢
      obtain ⟨k, h1, h2⟩ := h
      exact ⟨k, (Ren.env_κ (Ren.f_ok hn)).trans h1, h2⟩
    · cases q
  | .func fn f c, _, _, q, h => by
    simp only [renV] at q
    split at q
    · rename_i f' c' hf hc
      cases q
      simp only [vrel] at h ⊢
      obtain ⟨fs, cs, h1, h2, h3⟩ := h
      exact ⟨fs, cs, h1, renVs_ok f f' fs hf h2, renVs_ok c c' cs hc h3⟩
    · cases q
  | .iface t v, _, _, q, h => by
    simp only [renV] at q
    split at q
    · rename_i v' hv
      cases q
      simp only [vrel] at h ⊢
      obtain ⟨y, h1, h2⟩ := h
      exact ⟨y, h1, renV_ok v v' y hv h2⟩
    · cases q
  | .agg l, _, _, q, h => by
    simp only [renV] at q
    split at q
    · rename_i l' hl
      cases q
      simp only [vrel] at h ⊢
      obtain ⟨y, h1, h2⟩ := h
      exact ⟨y, h1, renVs_ok l l' y hl h2⟩
    · cases q
  | .tuple l, _, _, q, h => by
    simp only [renV] at q
    split at q
    · rename_i l' hl
      cases q
      simp only [vrel] at h ⊢
      obtain ⟨y, h1, h2⟩ := h
      exact ⟨y, h1, renVs_ok l l' y hl h2⟩
    · cases q
theorem renVs_ok {r : Ren} {e : E} : ∀ (l l' : List V) (xs : List Value), renVs r l = some l' → vrels e l xs → vrels (r.env e) l' xs
  | [], _, _, q, h => by
    simp only [renVs] at q
    cases q
    simp only [vrels] at h ⊢
    exact h
  | v :: l, _, _, q, h => by
    simp only [renVs] at q
    split at q
    · rename_i v' l' hv hl
      cases q
      simp only [vrels] at h ⊢
      obtain ⟨x, rr, h1, h2, h3⟩ := h
      exact ⟨x, rr, h1, renV_ok v v' x hv h2, renVs_ok l l' rr hl h3⟩
    · cases q
end
/-! Entries, in the row of their keys. -/
def cmpN (a b : Nat) : Nat := cond (Nat.blt a b) 0 (cond (Nat.beq a b) 1 2)
def cmpB : List UInt8 → List UInt8 → Nat
  | [], [] => 1
  | [], _ :: _ => 0
  | _ :: _, [] => 2
  | a :: l, b :: r => (match cmpN a.toNat b.toNat with
    | 1 => cmpB l r
    | c => c)
mutual
def cmpV : V → V → Nat
  | .int _ a, .int _ b => cond (decide (a < b)) 0 (cond (decide (a = b)) 1 2)
  | .str a, .str b => cmpB a b
  | .bool a, .bool b => cmpN a.toNat b.toNat
  | .agg a, .agg b => cmpVs a b
  | _, _ => 1
def cmpVs : List V → List V → Nat
  | a :: l, b :: r => (match cmpV a b with
    | 1 => cmpVs l r
    | c => c)
  | _, _ => 1
end
def ltV (a b : V) : Bool := Nat.beq (cmpV a b) 0
def insE (p : V × V × Nat) : List (V × V × Nat) → List (V × V × Nat)
  | [] => [p]
  | q :: l => cond (ltV q.1 p.1) (q :: insE p l) (p :: q :: l)
def sortE : List (V × V × Nat) → List (V × V × Nat)
  | [] => []
  | p :: l => insE p (sortE l)
theorem insE_perm (p : V × V × Nat) : ∀ l, (insE p l).Perm (p :: l)
  | [] => List.Perm.refl _
  | q :: l => by
    unfold insE
    cases ltV q.1 p.1
    · exact List.Perm.refl _
    · exact ((insE_perm p l).cons q).trans (List.Perm.swap p q l)
theorem sortE_perm : ∀ l, (sortE l).Perm l
  | [] => List.Perm.refl _
  | p :: l => (insE_perm p (sortE l)).trans ((sortE_perm l).cons p)
def renE (r : Ren) : List (V × V × Nat) → Option (List (V × V × Nat))
  | [] => some []
  | p :: l => (match renV r p.1, renV r p.2.1, r.f p.2.2, renE r l with
    | some k, some v, some s, some l' => some ((k, v, s) :: l')
    | _, _, _, _ => none)
theorem renE_cons {r : Ren} {p : V × V × Nat} {l l' : List (V × V × Nat)} (q : renE r (p :: l) = some l') : ∃ k v s l2, renV r p.1 = some k ∧ renV r p.2.1 = some v ∧ r.f p.2.2 = some s ∧ renE r l = some l2 ∧ l' = (k, v, s) :: l2 := by
  unfold renE at q
  split at q
  · rename_i k v s l2 h1 h2 h3 h4
    cases q
    exact ⟨k, v, s, l2, h1, h2, h3, h4, rfl⟩
  · cases q
theorem renE_mk {r : Ren} {p : V × V × Nat} {l l2 : List (V × V × Nat)} {k v : V} {s : Nat} (h1 : renV r p.1 = some k) (h2 : renV r p.2.1 = some v) (h3 : r.f p.2.2 = some s) (h4 : renE r l = some l2) : renE r (p :: l) = some ((k, v, s) :: l2) := by
  unfold renE
  rw [h1, h2, h3, h4]
theorem renE_perm {r : Ren} {l m : List (V × V × Nat)} (h : l.Perm m) : ∀ l', renE r l = some l' → ∃ m', renE r m = some m' ∧ l'.Perm m' := by
  induction h with
  | nil => intro l' q; exact ⟨l', q, List.Perm.refl _⟩
  | cons p _ ih =>
    intro l' q
    obtain ⟨k, v, s, l2, h1, h2, h3, h4, rfl⟩ := renE_cons q
    obtain ⟨m', g1, g2⟩ := ih l2 h4
    exact ⟨_, renE_mk h1 h2 h3 g1, g2.cons _⟩
  | swap p q' l =>
    intro l' q
    obtain ⟨k, v, s, l2, h1, h2, h3, h4, rfl⟩ := renE_cons q
    obtain ⟨k', v', s', l3, g1, g2, g3, g4, rfl⟩ := renE_cons h4
    exact ⟨_, renE_mk g1 g2 g3 (renE_mk h1 h2 h3 g4), List.Perm.swap _ _ _⟩
  | trans _ _ ih1 ih2 =>
    intro l' q
    obtain ⟨m1, g1, g2⟩ := ih1 l' q
    obtain ⟨m2, g3, g4⟩ := ih2 m1 g1
    exact ⟨m2, g3, g2.trans g4⟩
theorem renE_ok {r : Ren} {e : E} : ∀ {l l' : List (V × V × Nat)} {xs : List MapEntry}, renE r l = some l' → mrel e l xs → mrel (r.env e) l' xs
  | [], _, _, q, h => by
    unfold renE at q
    cases q
    exact h
  | (k0, v0, s0) :: l, _, _, q, ⟨x, rr, h1, h2, h3, h4, h5⟩ => by
    obtain ⟨k, v, s, l2, g1, g2, g3, g4, rfl⟩ := renE_cons q
    exact ⟨x, rr, h1, renV_ok _ _ _ g1 h2, renV_ok _ _ _ g2 h3, (Ren.env_κ (Ren.f_ok g3)).trans h4, renE_ok g4 h5⟩
def renLs (r : Ren) (b : Nat) : Option Nat → Option (Option Nat)
  | none => some none
  | some s => cond (Nat.blt s r.base) (some (some s)) (match r.gh.get b with
    | some n => cond (isB (r.src n) s) (some (some n)) none
    | none => none)
theorem renLs_ok {r : Ren} {e : E} {b : Nat} {ls ls' : Option Nat} {c : Nat} (q : renLs r b ls = some ls') (h : crel e ls c) : crel (r.env e) ls' c := by
  cases ls with
  | none => cases q; exact h
  | some s =>
    obtain ⟨n, h1, h2⟩ := h
    unfold renLs at q
    dsimp only at q
    cases hb : Nat.blt s r.base with
    | true =>
      rw [hb] at q
      cases q
      exact ⟨n, (Ren.env_κ (Ren.src_old (bltT.1 hb))).trans h1, h2⟩
    | false =>
      rw [hb] at q
      simp only [cond_false] at q
      split at q
      · rename_i i hi
        cases hc : isB (r.src i) s with
        | false => rw [hc] at q; cases q
        | true => rw [hc] at q; cases q; exact ⟨n, (Ren.env_κ (isB_eq hc)).trans h1, h2⟩
      · cases q
def renO (r : Ren) (b : Nat) : O → Option O
  | .cells l t opn => (match renVs r l with
    | some l' => some (.cells l' t opn)
    | none => none)
  | .map es ls => (match renE r (sortE es), renLs r b ls with
    | some es', some ls' => some (.map es' ls')
    | _, _ => none)
  | _ => none
theorem renO_ok {r : Ren} {e : E} {b n : Nat} (hn : r.src n = some b) : ∀ {o o' : O} {ob : Option Obj}, renO r b o = some o' → orel e b o ob → orel (r.env e) n o' ob
  | .cells l t none, _, _, q, ⟨vs, h1, h2⟩ => by
    simp only [renO] at q
    split at q
    · rename_i l' hl
      cases q
      exact ⟨vs, h1, renVs_ok _ _ _ hl h2⟩
    · cases q
  | .cells l t (some s), _, _, q, ⟨vs, rest, c, h1, h2, h3, h4⟩ => by
    simp only [renO] at q
    split at q
    · rename_i l' hl
      cases q
      exact ⟨vs, rest, c, h1, renVs_ok _ _ _ hl h2, (Ren.env_κ hn).trans h3, h4⟩
    · cases q
  | .map es ls, _, _, q, ⟨l, clk, es', h1, hp, h2, h3, h4, h5⟩ => by
    simp only [renO] at q
    split at q
    · rename_i es2 ls2 hes hls
      cases q
      obtain ⟨m', g1, g2⟩ := renE_perm ((sortE_perm es).trans hp) es2 hes
      exact ⟨l, clk, m', h1, g2, renE_ok g1 h2, h3, h4, renLs_ok hls h5⟩
    · cases q
  | .iter _ _ _ _, _, _, q, _ => by simp only [renO] at q; cases q
  | .loop _, _, _, q, _ => by simp only [renO] at q; cases q
  | .mark, _, _, q, _ => by simp only [renO] at q; cases q
end Go.Proofs.Ytdammjolkcjogaa.Ev

/-! The join by renaming: the new names found, the outcomes held against each other; sound. -/
namespace Go.Proofs.Ytdammjolkcjogaa.Ev
open Go Go.RowKit
set_option linter.unusedVariables false
set_option linter.unusedSimpArgs false

structure Tv where
  n : Nat
  m : Tr Nat
  g : Tr Nat
  gh : Tr Nat
def flatE : List (V × V × Nat) → List V → List V
  | [], l => l
  | p :: es, l => p.1 :: p.2.1 :: .stamp p.2.2 :: flatE es l
def contO (o : O) (todo : List V) : List V := match o with
  | .cells l _ _ => l ++ todo
  | .map es _ => flatE (sortE es) todo
  | _ => todo
def clockT (base b : Nat) (o : O) (s : Tv) : Tv := match o with
  | .map _ (some k) => cond (Nat.blt k base) s ⟨s.n + 1, s.m, s.g.set s.n (some k), s.gh.set b (some s.n)⟩
  | _ => s
def visit (h : H) (base b : Nat) (todo : List V) (s : Tv) : List V × Tv := cond (Nat.blt b base) (todo, s) (match s.m.get b with
  | some _ => (todo, s)
  | none => match h.get b with
    | some o => (contO o todo, clockT base b o ⟨s.n + 1, s.m.set b (some s.n), s.g.set s.n (some b), s.gh⟩)
    | none => (todo, ⟨s.n + 1, s.m.set b (some s.n), s.g.set s.n (some b), s.gh⟩))
def trav (h : H) (base : Nat) : Nat → List V → Tv → Tv
  | 0, _, s => s
  | _ + 1, [], s => s
  | k + 1, v :: todo, s => match v with
    | .ptr (some p) => (match visit h base p.1 todo s with
      | (t, s') => trav h base k t s')
    | .slice (some p) _ _ => (match visit h base p.1 todo s with
      | (t, s') => trav h base k t s')
    | .map (some b) => (match visit h base b todo s with
      | (t, s') => trav h base k t s')
    | .stamp b => (match visit h base b todo s with
      | (t, s') => trav h base k t s')
    | .func _ f c => trav h base k (f ++ (c ++ todo)) s
    | .iface _ x => trav h base k (x :: todo) s
    | .agg l => trav h base k (l ++ todo) s
    | .tuple l => trav h base k (l ++ todo) s
    | _ => trav h base k todo s
def startA (h : H) (base : Nat) : List Nat → List V → Tv → List V × Tv
  | [], todo, s => (todo, s)
  | b :: A, todo, s => match h.get b with
    | some o => startA h base A (contO o todo) (clockT base b o s)
    | none => startA h base A todo s
def renOf (h : H) (base : Nat) (A : List Nat) (v : V) : Ren := match startA h base A [v] ⟨base, .leaf, .leaf, .leaf⟩ with
  | (todo, s) => match trav h base 1000000 todo s with
    | ⟨n, m, g, gh⟩ => ⟨base, base + (n - base), m, g, gh⟩
theorem renOf_base (h : H) (base : Nat) (A : List Nat) (v : V) : (renOf h base A v).base = base := rfl
theorem renOf_top (h : H) (base : Nat) (A : List Nat) (v : V) : (renOf h base A v).top = base + ((renOf h base A v).top - base) := by
  have : base ≤ (renOf h base A v).top := Nat.le_add_right _ _
  omega
def objA (r : Ren) (h : H) (b : Nat) : Option O := match h.get b with
  | some o => renO r b o
  | none => none
def objN (r : Ren) (h : H) (n : Nat) : Option O := match r.src n with
  | some b => cond (isB (r.m.get b) n) (objA r h b) none
  | none => none
def newsO (r : Ren) (h : H) : Nat → Nat → List (Option O)
  | _, 0 => []
  | n, c + 1 => objN r h n :: newsO r h (n + 1) c
theorem newsO_len (r : Ren) (h : H) : ∀ (c n : Nat), (newsO r h n c).length = c
  | 0, _ => rfl
  | c + 1, n => by simp [newsO, newsO_len r h c]
def putA : List Nat → List (Option O) → Tr O → Tr O
  | b :: A, o :: os, t => putA A os (t.set b o)
  | _, _, t => t
def putN : Nat → List (Option O) → Tr O → Tr O
  | _, [], t => t
  | n, o :: os, t => putN (n + 1) os (t.set n o)
theorem putA_get (F : Nat → Option O) : ∀ (A : List Nat) (t : Tr O) (b : Nat), (putA A (A.map F) t).get b = if b ∈ A then F b else t.get b
  | [], t, b => by simp [putA]
  | a :: A, t, b => by
    rw [List.map_cons, putA, putA_get F A, Tr.get_set]
    by_cases h1 : b ∈ A
    · simp [h1]
    · by_cases h2 : b = a
      · subst h2; simp
      · simp [h1, h2]
theorem putN_get (r : Ren) (h : H) : ∀ (c n : Nat) (t : Tr O) (b : Nat), (putN n (newsO r h n c) t).get b = if n ≤ b ∧ b < n + c then objN r h b else t.get b
  | 0, n, t, b => by
    rw [if_neg (by omega)]; rfl
  | c + 1, n, t, b => by
    rw [newsO, putN, putN_get r h c, Tr.get_set]
    by_cases h1 : b = n
    · subst h1
      rw [if_neg (by omega), if_pos rfl, if_pos (by omega)]
    · by_cases h2 : n ≤ b ∧ b < n + (c + 1)
      · rw [if_pos (by omega), if_pos h2]
      · rw [if_neg (by omega), if_neg h1, if_neg h2]
def sameOb : O → O → Bool
  | .cells l t o, .cells l' t' o' => Nat.beq t t' && sameLs o o' && sameVs l l'
  | .map es ls, .map es' ls' => sameLs ls ls' && sameEs es es'
  | _, _ => false
where sameEs : List (V × V × Nat) → List (V × V × Nat) → Bool
  | [], [] => true
  | p :: l, q :: r => Nat.beq p.2.2 q.2.2 && sameV p.1 q.1 && sameV p.2.1 q.2.1 && sameEs l r
  | _, _ => false
theorem sameEs_eq : ∀ (l r : List (V × V × Nat)), sameOb.sameEs l r = true → l = r
  | [], [], _ => rfl
  | [], _ :: _, h => by simp [sameOb.sameEs] at h
  | _ :: _, [], h => by simp [sameOb.sameEs] at h
  | (a, b, c) :: l, (a', b', c') :: r, h => by
    simp only [sameOb.sameEs, Bool.and_eq_true] at h
    rw [Nat.eq_of_beq_eq_true h.1.1.1, sameV_eq _ _ h.1.1.2, sameV_eq _ _ h.1.2, sameEs_eq l r h.2]
theorem sameOb_eq : ∀ (a b : O), sameOb a b = true → a = b := by
  intro a b h
  unfold sameOb at h
  split at h
  · simp only [Bool.and_eq_true] at h
    rw [Nat.eq_of_beq_eq_true h.1.1, sameLs_eq h.1.2, sameVs_eq _ _ h.2]
  · simp only [Bool.and_eq_true] at h
    rw [sameLs_eq h.1, sameEs_eq _ _ h.2]
  · cases h
def sameObs : List (Option O) → List (Option O) → Bool
  | [], [] => true
  | none :: l, none :: r => sameObs l r
  | some a :: l, some b :: r => sameOb a b && sameObs l r
  | _, _ => false
theorem sameObs_eq : ∀ (l r : List (Option O)), sameObs l r = true → l = r
  | [], [], _ => rfl
  | none :: l, none :: r, h => by simp only [sameObs] at h; rw [sameObs_eq l r h]
  | some a :: l, some b :: r, h => by
    simp only [sameObs, Bool.and_eq_true] at h
    rw [sameOb_eq a b h.1, sameObs_eq l r h.2]
  | [], _ :: _, h => by simp [sameObs] at h
  | none :: _, [], h => by simp [sameObs] at h
  | some _ :: _, [], h => by simp [sameObs] at h
  | none :: _, some _ :: _, h => by simp [sameObs] at h
  | some _ :: _, none :: _, h => by simp [sameObs] at h
/-- One outcome, in new names. -/
structure Can where
  v : V
  news : List (Option O)
  olds : List (Option O)
def canOf (base : Nat) (A : List Nat) (r : V × H) (R : Ren) : Option Can := match renV R r.1 with
  | some v => some ⟨v, newsO R r.2 base (R.top - base), A.map (objA R r.2)⟩
  | none => none
def isoOne (h0 : H) (A : List Nat) (r : V × H) : Option Can :=
  cond (Nat.beq r.2.frz h0.nxt && r.2.log.all fun b => A.any (Nat.beq b)) (canOf h0.nxt A r (renOf r.2 h0.nxt A r.1)) none
def mkH (h0 : H) (A : List Nat) (c : Can) : H := ⟨putN h0.nxt c.news (putA A c.olds h0.heap), h0.nxt + c.news.length, h0.frz, (A.filter fun b => Nat.blt b h0.frz) ++ h0.log⟩
def sameCan : Can → Option Can → Bool
  | c, some d => sameV c.v d.v && sameObs c.news d.news && sameObs c.olds d.olds
  | _, none => false
theorem sameCan_eq {c : Can} {d : Option Can} (h : sameCan c d = true) : d = some c := by
  cases d with
  | none => cases h
  | some d =>
    simp only [sameCan, Bool.and_eq_true] at h
    obtain ⟨⟨h1, h2⟩, h3⟩ := h
    cases c; cases d
    dsimp only at h1 h2 h3
    rw [sameV_eq _ _ h1, sameObs_eq _ _ h2, sameObs_eq _ _ h3]
def addA : List Nat → List Nat → List Nat
  | [], A => A
  | b :: l, A => cond (A.any (Nat.beq b)) (addA l A) (addA l (b :: A))
def logsA : List (V × H) → List Nat → List Nat
  | [], A => A
  | r :: l, A => logsA l (addA r.2.log A)
def isoGo (h0 : H) (A : List Nat) (rest : List (V × H)) : Option Can → Option (V × H)
  | some c => cond (rest.all fun q => sameCan c (isoOne h0 A q)) (some (c.v, mkH h0 A c)) none
  | none => none
def isoA (h0 : H) (r : V × H) (rest : List (V × H)) (A : List Nat) : Option (V × H) :=
  cond (A.all fun b => Nat.blt b h0.nxt && (h0.get b).isSome) (isoGo h0 A rest (isoOne h0 A r)) none
def isoV (h0 : H) : List (V × H) → Option (V × H)
  | [] => none
  | r :: rest => isoA h0 r rest (logsA (r :: rest) [])
section
variable {P : Program} {w0 w w' : World} {e e1 : E} {h0 : H}
theorem canon_ok (R : Rel w0 e h0 w) {A : List Nat} {r : V × H} {c : Can} (hA : ∀ b ∈ A, b < h0.nxt ∧ (h0.get b).isSome = true) (q : isoOne h0 A r = some c) {x : Value} (hle : e.le e1) (hx : vrel e1 r.1 x) (R' : Rel w e1 r.2 w') :
    ∃ e2, e.le e2 ∧ vrel e2 c.v x ∧ Rel w0 e2 (mkH h0 A c) w' := by
  unfold isoOne at q
  cases hc : (Nat.beq r.2.frz h0.nxt && r.2.log.all fun b => A.any (Nat.beq b)) with
  | false => rw [hc] at q; cases q
  | true =>
    rw [hc] at q
    simp only [cond_true] at q
    simp only [Bool.and_eq_true] at hc
    have hfz := Nat.eq_of_beq_eq_true hc.1
    have hlog : ∀ b ∈ r.2.log, b ∈ A := fun b hb => by
      obtain ⟨b', h1, h2⟩ := List.any_eq_true.1 (List.all_eq_true.1 hc.2 b hb)
      rw [Nat.eq_of_beq_eq_true h2]; exact h1
    unfold canOf at q
    split at q
    · rename_i v hv
      cases q
      have hb : (renOf r.2 h0.nxt A r.1).base = h0.nxt := renOf_base _ _ _ _
      have ht := renOf_top r.2 h0.nxt A r.1
      generalize renOf r.2 h0.nxt A r.1 = N at hv hb ht
      have back : ∀ b k, b < h0.nxt → e1.ρ b = some k → e.ρ b = some k := fun b k hlt hk => by
        cases he : e.ρ b with
        | none => rw [hle.old b (by rw [R.lim]; exact hlt) he] at hk; cases hk
        | some k' => rw [hle.ρ _ _ he] at hk; exact hk
      have oldρ : ∀ n, n < h0.nxt → (N.env e1).ρ n = e1.ρ n := fun n hn => Ren.env_ρ (Ren.src_old (by rw [hb]; exact hn))
      have oldκ : ∀ n, n < h0.nxt → (N.env e1).κ n = e1.κ n := fun n hn => Ren.env_κ (Ren.src_old (by rw [hb]; exact hn))
      have newρ : ∀ n k, h0.nxt ≤ n → (N.env e1).ρ n = some k → ∃ b, N.src n = some b ∧ n < N.top ∧ h0.nxt ≤ b ∧ e1.ρ b = some k := fun n k hn hk => by
        cases hs : N.src n with
        | none => have hk : (N.src n).bind e1.ρ = some k := hk; rw [hs] at hk; cases hk
        | some b =>
          rw [Ren.env_ρ hs] at hk
          have := Ren.src_new (by rw [hb]; exact hn) hs
          exact ⟨b, rfl, this.1, by rw [← hb]; exact this.2.2, hk⟩
      have le2 : e.le (N.env e1) := by
        refine ⟨fun b k hk => ?_, fun b k hk => ?_, ?_, fun b hlt hk => ?_, fun b hlt hk => ?_⟩
        · rw [oldρ b (R.lt _ _ hk)]; exact hle.ρ _ _ hk
        · rw [oldκ b (R.klt _ _ hk)]; exact hle.κ _ _ hk
        · rw [R.lim]; show h0.nxt ≤ N.top; omega
        · rw [R.lim] at hlt; rw [oldρ b hlt]; exact hle.old b (by rw [R.lim]; exact hlt) hk
        · rw [R.lim] at hlt; rw [oldκ b hlt]; exact hle.kold b (by rw [R.lim]; exact hlt) hk
      have hlen := newsO_len N r.2 (N.top - h0.nxt) h0.nxt
      have hnx : (mkH h0 A ⟨v, newsO N r.2 h0.nxt (N.top - h0.nxt), A.map (objA N r.2)⟩).nxt = N.top := by
        show h0.nxt + (newsO N r.2 h0.nxt (N.top - h0.nxt)).length = N.top
        rw [hlen]; omega
      have hget : ∀ n, (mkH h0 A ⟨v, newsO N r.2 h0.nxt (N.top - h0.nxt), A.map (objA N r.2)⟩).get n = if h0.nxt ≤ n ∧ n < N.top then objN N r.2 n else if n ∈ A then objA N r.2 n else h0.get n := fun n => by
        show (putN h0.nxt (newsO N r.2 h0.nxt (N.top - h0.nxt)) (putA A (A.map (objA N r.2)) h0.heap)).get n = _
        rw [putN_get, putA_get]
        have e3 : h0.nxt + (N.top - h0.nxt) = N.top := by omega
        rw [e3]; rfl
      have src : ∀ n o k, (mkH h0 A ⟨v, newsO N r.2 h0.nxt (N.top - h0.nxt), A.map (objA N r.2)⟩).get n = some o → (N.env e1).ρ n = some k →
          (∃ b o1, N.src n = some b ∧ e1.ρ b = some k ∧ r.2.get b = some o1 ∧ renO N b o1 = some o ∧ (h0.nxt ≤ n → h0.nxt ≤ b ∧ N.m.get b = some n) ∧ (n < h0.nxt → b = n ∧ n ∈ A)) ∨
          (n < h0.nxt ∧ n ∉ A ∧ h0.get n = some o ∧ e.ρ n = some k) := fun n o k hg hk => by
        rw [hget] at hg
        by_cases hn : h0.nxt ≤ n
        · obtain ⟨b, s1, s2, s3, s4⟩ := newρ n k hn hk
          rw [if_pos ⟨hn, s2⟩] at hg
          unfold objN at hg
          rw [s1] at hg
          dsimp only at hg
          cases hm : isB (N.m.get b) n with
          | false => rw [hm] at hg; cases hg
          | true =>
            rw [hm] at hg
            simp only [cond_true] at hg
            unfold objA at hg
            split at hg
            · rename_i o1 ho1
              exact .inl ⟨b, o1, s1, s4, ho1, hg, fun _ => ⟨s3, isB_eq hm⟩, fun hlt => absurd hlt (Nat.not_lt.2 hn)⟩
            · cases hg
        · have hlt : n < h0.nxt := Nat.lt_of_not_le hn
          rw [if_neg (fun hh => hn hh.1)] at hg
          rw [oldρ n hlt] at hk
          by_cases hA' : n ∈ A
          · rw [if_pos hA'] at hg
            unfold objA at hg
            split at hg
            · rename_i o1 ho1
              exact .inl ⟨n, o1, Ren.src_old (by rw [hb]; exact hlt), hk, ho1, hg, fun hh => absurd hh hn, fun _ => ⟨rfl, hA'⟩⟩
            · cases hg
          · rw [if_neg hA'] at hg
            exact .inr ⟨hlt, hA', hg, back n k hlt hk⟩
      -- an older block that was written is one of A
      have logA : ∀ k, logged e1 r.2.log k → ∃ b ∈ A, b < h0.nxt ∧ e.ρ b = some k ∧ (h0.get b).isSome = true := fun k hk => by
        obtain ⟨b, h1, h2⟩ := hk
        have h3 := hlog b h1
        exact ⟨b, h3, (hA b h3).1, back b k (hA b h3).1 h2, (hA b h3).2⟩
      have notA : ∀ n o k, n ∉ A → h0.get n = some o → e.ρ n = some k → ¬ logged e1 r.2.log k := fun n o k hnA hg hk hl => by
        obtain ⟨b, h1, h2, h3, h4⟩ := logA k hl
        obtain ⟨ob, hob⟩ := Option.isSome_iff_exists.1 h4
        exact hnA (R.inj b n k ob o h3 hk hob hg ▸ h1)
      have hl2 : ∀ k, logged e h0.log k → logged (N.env e1) (mkH h0 A ⟨v, newsO N r.2 h0.nxt (N.top - h0.nxt), A.map (objA N r.2)⟩).log k := fun k hk => hk.mono le2.ρ fun b hb => List.mem_append.2 (.inr hb)
      have hl3 : ∀ k, logged e1 r.2.log k → w0.heap.size ≤ k ∨ logged (N.env e1) (mkH h0 A ⟨v, newsO N r.2 h0.nxt (N.top - h0.nxt), A.map (objA N r.2)⟩).log k := fun k hk => by
        obtain ⟨b, h1, h2, h3, h4⟩ := logA k hk
        by_cases hf : b < h0.frz
        · exact .inr ⟨b, List.mem_append.2 (.inl (List.mem_filter.2 ⟨h1, bltT.2 hf⟩)), le2.ρ _ _ h3⟩
        · exact ((R.new b k h3).1 (Nat.le_of_not_lt hf)).imp id (hl2 k)
      refine ⟨N.env e1, le2, renV_ok _ _ _ hv hx, ?_⟩
      refine ⟨fun n o k hg hk => ?_, fun n k hk => ?_, fun n k hk => ?_, fun n n' k o o' hk hk' hg hg' => ?_, fun n k hk => ?_, ?_, fun n hn => ?_, hnx.symm⟩
      · rcases src n o k hg hk with ⟨b, o1, s1, s2, s3, s4, _, _⟩ | ⟨s1, s2, s3, s4⟩
        · exact renO_ok s1 s4 (R'.heap b o1 k s3 s2)
        · rw [R'.bel.block k (R.new n k s4).2 (notA n o k s2 s3 s4)]
          exact orel_mono le2 (R.heap n o k s3 s4)
      · rw [hnx]
        by_cases hn : h0.nxt ≤ n
        · obtain ⟨_, _, s2, _⟩ := newρ n k hn hk; exact s2
        · omega
      · rw [hnx]
        by_cases hn : h0.nxt ≤ n
        · cases hs : N.src n with
          | none => have hk : (N.src n).bind e1.κ = some k := hk; rw [hs] at hk; cases hk
          | some b => exact (Ren.src_new (by rw [hb]; exact hn) hs).1
        · omega
      · rcases src n o k hg hk with ⟨b, o1, s1, s2, s3, s4, s5, s6⟩ | ⟨s1, s2, s3, s4⟩
        · rcases src n' o' k hg' hk' with ⟨b', o1', t1, t2, t3, t4, t5, t6⟩ | ⟨t1, t2, t3, t4⟩
          · have hbb := R'.inj b b' k o1 o1' s2 t2 s3 t3
            subst hbb
            by_cases hn : h0.nxt ≤ n <;> by_cases hn' : h0.nxt ≤ n'
            · have h1 := (s5 hn).2
              have h2 := (t5 hn').2
              rw [h1] at h2
              exact Option.some.inj h2
            · have h1 := (s5 hn).1
              have h2 := (t6 (Nat.lt_of_not_le hn')).1
              omega
            · have h1 := (t5 hn').1
              have h2 := (s6 (Nat.lt_of_not_le hn)).1
              omega
            · have h1 := (s6 (Nat.lt_of_not_le hn)).1
              have h2 := (t6 (Nat.lt_of_not_le hn')).1
              omega
          · exfalso
            by_cases hn : h0.nxt ≤ n
            · rcases (R'.new b k s2).1 (by rw [hfz]; exact (s5 hn).1) with h1 | h1
              · have := (R.new n' k t4).2; omega
              · exact notA n' o' k t2 t3 t4 h1
            · obtain ⟨h1, h2⟩ := s6 (Nat.lt_of_not_le hn)
              subst h1
              obtain ⟨ob, hob⟩ := Option.isSome_iff_exists.1 (hA b h2).2
              exact t2 (R.inj b n' k ob o' (back b k (hA b h2).1 s2) t4 hob t3 ▸ h2)
        · rcases src n' o' k hg' hk' with ⟨b', o1', t1, t2, t3, t4, t5, t6⟩ | ⟨t1, t2, t3, t4⟩
          · exfalso
            by_cases hn : h0.nxt ≤ n'
            · rcases (R'.new b' k t2).1 (by rw [hfz]; exact (t5 hn).1) with h1 | h1
              · have := (R.new n k s4).2; omega
              · exact notA n o k s2 s3 s4 h1
            · obtain ⟨h1, h2⟩ := t6 (Nat.lt_of_not_le hn)
              subst h1
              obtain ⟨ob, hob⟩ := Option.isSome_iff_exists.1 (hA b' h2).2
              exact s2 (R.inj b' n k ob o (back b' k (hA b' h2).1 t2) s4 hob s3 ▸ h2)
          · exact R.inj n n' k o o' s4 t4 s3 t3
      · by_cases hn : h0.nxt ≤ n
        · obtain ⟨b, s1, s2, s3, s4⟩ := newρ n k hn hk
          refine ⟨fun _ => ?_, (R'.new b k s4).2⟩
          rcases (R'.new b k s4).1 (by rw [hfz]; exact s3) with h1 | h1
          · exact .inl (Nat.le_trans R.bel.size h1)
          · exact hl3 k h1
        · have hlt := Nat.lt_of_not_le hn
          rw [oldρ n hlt] at hk
          have hk := back n k hlt hk
          exact ⟨fun hf => ((R.new n k hk).1 hf).imp id (hl2 k), Nat.lt_of_lt_of_le (R.new n k hk).2 R'.bel.size⟩
      · refine ⟨R'.bel.os.trans R.bel.os, R'.bel.tape.trans R.bel.tape, R'.bel.output.trans R.bel.output, Nat.le_trans R.bel.size R'.bel.size, fun k hk hn => ?_⟩
        rw [R'.bel.block k (Nat.lt_of_lt_of_le hk R.bel.size) (fun hl => ?_)]
        · exact R.bel.block k hk (fun hl => hn (hl2 k hl))
        · rcases hl3 k hl with h1 | h1
          · omega
          · exact hn h1
      · rw [hnx] at hn
        have htop : h0.nxt ≤ N.top := by omega
        rw [hget, if_neg (fun hh => by omega), if_neg (fun hh => by have := (hA n hh).1; omega)]
        exact R.fresh n (Nat.le_trans htop hn)
    · cases q
theorem isoV_ok (R : Rel w0 e h0 w) {rs : List (V × H)} {v : V} {h1 : H} (q : isoV h0 rs = some (v, h1)) {r : V × H} (hr : r ∈ rs) {x : Value} (hle : e.le e1) (hx : vrel e1 r.1 x) (R' : Rel w e1 r.2 w') :
    ∃ e2, e.le e2 ∧ vrel e2 v x ∧ Rel w0 e2 h1 w' := by
  unfold isoV at q
  split at q
  · cases q
  · rename_i r0 rest
    unfold isoA at q
    generalize logsA (r0 :: rest) [] = A at q
    cases hA : A.all fun b => Nat.blt b h0.nxt && (h0.get b).isSome with
    | false => rw [hA] at q; cases q
    | true =>
      rw [hA] at q
      simp only [cond_true] at q
      have hA' : ∀ b ∈ A, b < h0.nxt ∧ (h0.get b).isSome = true := fun b hb => by
        have := List.all_eq_true.1 hA b hb
        simp only [Bool.and_eq_true] at this
        exact ⟨bltT.1 this.1, this.2⟩
      cases hc : isoOne h0 A r0 with
      | none => rw [hc] at q; cases q
      | some c =>
        rw [hc] at q
        unfold isoGo at q
        dsimp only at q
        cases ha : rest.all fun q => sameCan c (isoOne h0 A q) with
        | false => rw [ha] at q; cases q
        | true =>
          rw [ha] at q
          cases q
          have hone : isoOne h0 A r = some c := by
            rcases List.mem_cons.1 hr with rfl | hr
            · exact hc
            · exact sameCan_eq (List.all_eq_true.1 ha r hr)
          exact canon_ok R hA' hone hle hx R'
end
/-- A function, run all ways; joined flat, or by renaming. -/
def joinR (P : Program) (ext : ExtT) (spec : SpecT) (draw : CallT → DrawT) (d : Nat) (g : FuncId) : H → List V → Option (V × H) := fun h args => match evCallN P ext spec draw d (.fn g args) h.frozen with
  | some rs => isoV h rs
  | none => none
def renSpec (P : Program) (ext : ExtT) (spec : SpecT) (draw : CallT → DrawT) (d : Nat) (l : List FuncId) : SpecT := fun g => cond (l.any (Nat.beq g)) (some (joinR P ext spec draw d g)) (spec g)
theorem renSpec_ok {P : Program} {ext : ExtT} {spec : SpecT} {draw : CallT → DrawT} {d : Nat} {l : List FuncId} (hnm : ∀ (g : FuncId) (fn : Func), P.funcs[g]? = some fn → (fn.name == "runtime.NumGoroutine") = false) (hex : ExtOk P ext) (hsp : SpecOk P spec) (hdr : ∀ call, CallOk P call → DrawOk P call (draw call))
    (hb : bodiesB P l = true) : SpecOk P (renSpec P ext spec draw d l) := by
  intro g f hf
  unfold renSpec at hf
  cases ha : l.any (Nat.beq g) with
  | false => rw [ha] at hf; exact hsp g f hf
  | true =>
    rw [ha] at hf
    cases hf
    obtain ⟨g', hg', hgg⟩ := List.any_eq_true.1 ha
    have := Nat.eq_of_beq_eq_true hgg
    subst this
    have hbody := List.all_eq_true.1 hb g hg'
    refine ⟨?_, fun w0 e h w args v h' q R xs hv n => ?_⟩
    · split at hbody
      · rename_i fn hfn
        exact ⟨fn, hfn, by simpa using hbody⟩
      · cases hbody
    · unfold joinR at q
      split at q
      · rename_i rs hrs
        have hc := evCallN_ok hnm hex hsp hdr d
        refine ((hc.fn hrs R.frozen xs hv).2 n).mono ?_
        rintro en w' ⟨r, hr, e', x, rfl, h1, h2, h3⟩
        obtain ⟨e'', t1, t2, t3⟩ := isoV_ok R q hr h1 h2 h3
        exact ⟨e'', x, rfl, t1, t2, t3⟩
      · cases q
end Go.Proofs.Ytdammjolkcjogaa.Ev

/-! A function without arguments, run in parts: from one place of its body to another, with a state that is told. -/
namespace Go.Proofs.Ytdammjolkcjogaa.Ev
open Go Go.RowKit
set_option linter.unusedVariables false
set_option linter.unusedSimpArgs false

inductive D where | l | r | t | e | b
  deriving DecidableEq
inductive Fr where
  | seq (y : Code)
  | blk (id : Nat)
/-- The code at a place (the last way first), and what comes behind it. -/
def cfgOf (c0 : Code) : List D → Option (List Fr × Code)
  | [] => some ([], c0)
  | d :: p => match cfgOf c0 p, d with
    | some (k, .seq x y), .l => some (.seq y :: k, x)
    | some (k, .seq x y), .r => some (k, y)
    | some (k, .cond _ x y), .t => some (k, x)
    | some (k, .cond _ x y), .e => some (k, y)
    | some (k, .block id b), .b => some (.blk id :: k, b)
    | _, _ => none
inductive Up where
  | at (p : List D)
  | done (ex : Ex)
def upP (c0 : Code) : Ex → List D → Option Up
  | ex, [] => some (.done ex)
  | .normal, .l :: p => some (.at (.r :: p))
  | .normal, .r :: p => upP c0 .normal p
  | .normal, .t :: p => upP c0 .normal p
  | .normal, .e :: p => upP c0 .normal p
  | .normal, .b :: p => upP c0 .normal p
  | .exit id, .b :: p => (match cfgOf c0 p with
    | some (_, .block id' _) => cond (Nat.beq id id') (upP c0 .normal p) (upP c0 (.exit id) p)
    | _ => none)
  | .exit id, .l :: p => upP c0 (.exit id) p
  | .exit id, .r :: p => upP c0 (.exit id) p
  | .exit id, .t :: p => upP c0 (.exit id) p
  | .exit id, .e :: p => upP c0 (.exit id) p
  | .ret, _ :: p => upP c0 .ret p
  | .goto _, _ :: _ => none
abbrev LeafT := Code → St → List Nat → Res
def stepP (c0 : Code) (leaf : LeafT) (p : List D) (s : St) (mk : List Nat) : Option (Up × St × List Nat) :=
  match cfgOf c0 p with
  | some (_, .seq _ _) => some (.at (.l :: p), s, mk)
  | some (_, .block _ _) => some (.at (.b :: p), s, mk)
  | some (_, .cond c _ _) => (match evO s.tm c with
    | some (.bool true) => some (.at (.t :: p), s, mk)
    | some (.bool false) => some (.at (.e :: p), s, mk)
    | _ => none)
  | some (_, c) => (match leaf c s mk with
    | some (ex, s', mk') => (match upP c0 ex p with
      | some u => some (u, s', mk')
      | none => none)
    | none => none)
  | none => none
def runP (c0 : Code) (leaf : LeafT) : Nat → List D → St → List Nat → Option (Up × St × List Nat)
  | 0, p, s, mk => some (.at p, s, mk)
  | k + 1, p, s, mk => match stepP c0 leaf p s mk with
    | some (.at p', s', mk') => runP c0 leaf k p' s' mk'
    | some (.done ex, s', mk') => some (.done ex, s', mk')
    | none => none
section
variable {P : Program} {m : Nat}
def postK (F : Fence) (m : Nat) (P : Program) : List Fr → (Exit → Act → World → Prop) → Exit → Act → World → Prop
  | [], Q => Q
  | .seq y :: k, Q => Exit.then (fun a w => y.wpIn F m P (postK F m P k Q) a w) (postK F m P k Q)
  | .blk id :: k, Q => Exit.inBlock id (postK F m P k Q)
def UpOk (F : Fence) (m : Nat) (P : Program) (c0 : Code) (Q : Exit → Act → World → Prop) : Up → Act → World → Prop
  | .at p, a, w => ∃ k c, cfgOf c0 p = some (k, c) ∧ c.wpIn F m P (postK F m P k Q) a w
  | .done ex, a, w => Q ex.to a w
theorem cfgOf_cons {c0 : Code} {d : D} {p : List D} {k : List Fr} {c : Code} (h : cfgOf c0 (d :: p) = some (k, c)) :
    (∃ y, d = .l ∧ ∃ k0, k = .seq y :: k0 ∧ cfgOf c0 p = some (k0, .seq c y)) ∨ (∃ x, d = .r ∧ cfgOf c0 p = some (k, .seq x c)) ∨ (∃ o y, d = .t ∧ cfgOf c0 p = some (k, .cond o c y)) ∨ (∃ o x, d = .e ∧ cfgOf c0 p = some (k, .cond o x c)) ∨
      (∃ id k0, d = .b ∧ k = .blk id :: k0 ∧ cfgOf c0 p = some (k0, .block id c)) := by
  unfold cfgOf at h
  split at h
  · rename_i k0 x y hp
    cases h
    exact .inl ⟨y, rfl, k0, rfl, hp⟩
  · rename_i k0 x y hp
    cases h
    exact .inr (.inl ⟨x, rfl, hp⟩)
  · rename_i k0 o x y hp
    cases h
    exact .inr (.inr (.inl ⟨o, y, rfl, hp⟩))
  · rename_i k0 o x y hp
    cases h
    exact .inr (.inr (.inr (.inl ⟨o, x, rfl, hp⟩)))
  · rename_i k0 id b hp
    cases h
    exact .inr (.inr (.inr (.inr ⟨id, k0, rfl, rfl, hp⟩)))
  · cases h
theorem upP_ok {F : Fence} {c0 : Code} {Q : Exit → Act → World → Prop} {a : Act} {w : World} {u : Up} : ∀ (p : List D) (ex : Ex) (k : List Fr) (c : Code), cfgOf c0 p = some (k, c) → upP c0 ex p = some u → UpOk F m P c0 Q u a w → postK F m P k Q ex.to a w
  | [], ex, k, c, h, q, hu => by
    cases h
    have : u = .done ex := by cases ex <;> (unfold upP at q; cases q; rfl)
    subst this
    exact hu
  | d :: p, ex, k, c, h, q, hu => by
    rcases cfgOf_cons h with ⟨y, rfl, k0, rfl, hp⟩ | ⟨x, rfl, hp⟩ | ⟨o, y, rfl, hp⟩ | ⟨o, x, rfl, hp⟩ | ⟨id, k0, rfl, rfl, hp⟩
    · cases ex with
      | normal =>
        unfold upP at q
        cases q
        obtain ⟨k', c', g1, g2⟩ := hu
        unfold cfgOf at g1
        rw [hp] at g1
        cases g1
        exact g2
      | exit id => exact upP_ok p (.exit id) k0 _ hp (by unfold upP at q; exact q) hu
      | ret => exact upP_ok p .ret k0 _ hp (by unfold upP at q; exact q) hu
      | goto l => unfold upP at q; cases q
    · cases ex with
      | normal => exact upP_ok p .normal k _ hp (by unfold upP at q; exact q) hu
      | exit id => exact upP_ok p (.exit id) k _ hp (by unfold upP at q; exact q) hu
      | ret => exact upP_ok p .ret k _ hp (by unfold upP at q; exact q) hu
      | goto l => unfold upP at q; cases q
    · cases ex with
      | normal => exact upP_ok p .normal k _ hp (by unfold upP at q; exact q) hu
      | exit id => exact upP_ok p (.exit id) k _ hp (by unfold upP at q; exact q) hu
      | ret => exact upP_ok p .ret k _ hp (by unfold upP at q; exact q) hu
      | goto l => unfold upP at q; cases q
    · cases ex with
      | normal => exact upP_ok p .normal k _ hp (by unfold upP at q; exact q) hu
      | exit id => exact upP_ok p (.exit id) k _ hp (by unfold upP at q; exact q) hu
      | ret => exact upP_ok p .ret k _ hp (by unfold upP at q; exact q) hu
      | goto l => unfold upP at q; cases q
    · cases ex with
      | normal => exact upP_ok p .normal k0 _ hp (by unfold upP at q; exact q) hu
      | exit id' =>
        unfold upP at q
        rw [hp] at q
        dsimp only at q
        show Exit.inBlock id (postK F m P k0 Q) (.exit id') a w
        cases hb : Nat.beq id' id with
        | true =>
          rw [hb] at q
          have := Nat.eq_of_beq_eq_true hb
          subst this
          simp only [Exit.inBlock, if_true]
          exact upP_ok p .normal k0 _ hp q hu
        | false =>
          rw [hb] at q
          have hne : ¬ id' = id := fun e2 => by subst e2; simp at hb
          simp only [Exit.inBlock, hne, if_false]
          exact upP_ok p (.exit id') k0 _ hp q hu
      | ret => exact upP_ok p .ret k0 _ hp (by unfold upP at q; exact q) hu
      | goto l => unfold upP at q; cases q
/-- Leaves are run as they are. -/
def LeafOk (P : Program) (n : Nat) (leaf : LeafT) : Prop := ∀ c w0 e m s mk a w ex s' mk' Q, SRel w0 e n s a w → drel e mk a.defers → leaf c s mk = some (ex, s', mk') →
  (∀ e' a' w', e.le e' → SRel w0 e' n s' a' w' → drel e' mk' a'.defers → Q ex.to a' w') → c.wpIn Fence.wide m P Q a w
theorem stepP_ok {n : Nat} {leaf : LeafT} (hl : LeafOk P n leaf) {c0 : Code} {p : List D} {s s' : St} {mk mk' : List Nat} {u : Up} {w0 w : World} {e : E} {a : Act} {Q : Exit → Act → World → Prop} (S : SRel w0 e n s a w) (Dr : drel e mk a.defers)
    (q : stepP c0 leaf p s mk = some (u, s', mk')) (hQ : ∀ e' a' w', e.le e' → SRel w0 e' n s' a' w' → drel e' mk' a'.defers → UpOk Fence.wide m P c0 Q u a' w') : UpOk Fence.wide m P c0 Q (.at p) a w := by
  unfold stepP at q
  have go : ∀ k c, cfgOf c0 p = some (k, c) → (match leaf c s mk with
    | some (ex, s', mk') => (match upP c0 ex p with
      | some u => some (u, s', mk')
      | none => none)
    | none => none) = some (u, s', mk') → UpOk Fence.wide m P c0 Q (.at p) a w := by
    intro k c hc q
    split at q
    · rename_i ex s1 mk1 hlf
      split at q
      · rename_i u' hu
        cases q
        exact ⟨k, c, hc, hl c _ _ _ _ _ _ _ _ _ _ _ S Dr hlf (fun e' a' w' h1 h2 h3 => upP_ok p ex k c hc hu (hQ e' a' w' h1 h2 h3))⟩
      · cases q
    · cases q
  split at q
  · rename_i k x y hc
    cases q
    obtain ⟨k', c', g1, g2⟩ := hQ e a w (E.le.refl e) S Dr
    unfold cfgOf at g1
    rw [hc] at g1
    cases g1
    exact ⟨k, _, hc, wpIn_seq g2⟩
  · rename_i k id b hc
    cases q
    obtain ⟨k', c', g1, g2⟩ := hQ e a w (E.le.refl e) S Dr
    unfold cfgOf at g1
    rw [hc] at g1
    cases g1
    exact ⟨k, _, hc, wpIn_block g2⟩
  · rename_i k o x y hc
    split at q
    · rename_i h1
      have := evO_rel S.t h1
      simp only [vrel] at this
      cases q
      obtain ⟨k', c', g1, g2⟩ := hQ e a w (E.le.refl e) S Dr
      unfold cfgOf at g1
      rw [hc] at g1
      cases g1
      exact ⟨k, _, hc, wpIn_cond_true this g2⟩
    · rename_i h1
      have := evO_rel S.t h1
      simp only [vrel] at this
      cases q
      obtain ⟨k', c', g1, g2⟩ := hQ e a w (E.le.refl e) S Dr
      unfold cfgOf at g1
      rw [hc] at g1
      cases g1
      exact ⟨k, _, hc, wpIn_cond_false this g2⟩
    · cases q
  · rename_i k c _ _ _ hc
    exact go k c hc q
  · cases q
theorem runP_ok {n : Nat} {leaf : LeafT} (hl : LeafOk P n leaf) {c0 : Code} {w0 : World} {Q : Exit → Act → World → Prop} {u : Up} {s' : St} {mk' : List Nat} : ∀ (j : Nat) (p : List D) (s : St) (mk : List Nat) (e : E) (a : Act) (w : World), SRel w0 e n s a w → drel e mk a.defers →
    runP c0 leaf j p s mk = some (u, s', mk') → (∀ e' a' w', e.le e' → SRel w0 e' n s' a' w' → drel e' mk' a'.defers → UpOk Fence.wide m P c0 Q u a' w') → UpOk Fence.wide m P c0 Q (.at p) a w
  | 0, p, s, mk, e, a, w, S, Dr, q, hQ => by cases q; exact hQ e a w (E.le.refl e) S Dr
  | j + 1, p, s, mk, e, a, w, S, Dr, q, hQ => by
    unfold runP at q
    split at q
    · rename_i p1 s1 mk1 hs
      exact stepP_ok hl S Dr hs (fun e1 a1 w1 h1 h2 h3 => runP_ok hl j p1 s1 mk1 e1 a1 w1 h2 h3 q (fun e2 a2 w2 h4 h5 h6 => hQ e2 a2 w2 (h1.trans h4) h5 h6))
    · rename_i ex s1 mk1 hs
      cases q
      exact stepP_ok hl S Dr hs hQ
    · cases q
end
/-! A state that is told: less than what there is. -/
def putL {α : Type} : List (Nat × α) → Tr α → Tr α
  | [], t => t
  | p :: l, t => putL l (t.set p.1 (some p.2))
theorem putL_get {α : Type} : ∀ (l : List (Nat × α)) (t : Tr α) (n : Nat) (v : α), (putL l t).get n = some v → (n, v) ∈ l ∨ t.get n = some v
  | [], t, n, v, h => .inr h
  | p :: l, t, n, v, h => by
    rcases putL_get l (t.set p.1 (some p.2)) n v h with h1 | h1
    · exact .inl (List.mem_cons_of_mem _ h1)
    · rw [Tr.get_set] at h1
      by_cases e1 : n = p.1
      · rw [if_pos e1] at h1
        have e2 := Option.some.inj h1
        refine .inl (List.mem_cons.2 (.inl ?_))
        rw [e1, ← e2]
      · rw [if_neg e1] at h1
        exact .inr h1
def mkSt (tm : List (Nat × V)) (hp : List (Nat × O)) (nxt : Nat) : St := ⟨putL tm .leaf, ⟨putL hp .leaf, nxt, 0, []⟩⟩
def isV : Option V → V → Bool
  | some a, b => sameV a b
  | none, _ => false
def isO : Option O → O → Bool
  | some a, b => sameOb a b
  | none, _ => false
def weakB (s : St) (tm : List (Nat × V)) (hp : List (Nat × O)) (nxt : Nat) : Bool := (tm.all fun p => isV (s.tm.get p.1) p.2) && (hp.all fun p => isO (s.h.get p.1) p.2) && Nat.beq s.h.nxt nxt && Nat.beq s.h.frz 0 && s.h.log.isEmpty
theorem weak_ok {w0 : World} {e : E} {n : Nat} {s : St} {a : Act} {w : World} {tm : List (Nat × V)} {hp : List (Nat × O)} {nxt : Nat} (S : SRel w0 e n s a w) (q : weakB s tm hp nxt = true) : SRel w0 e n (mkSt tm hp nxt) a w := by
  unfold weakB at q
  simp only [Bool.and_eq_true] at q
  obtain ⟨⟨⟨⟨q1, q2⟩, q3⟩, q4⟩, q5⟩ := q
  have q3 := Nat.eq_of_beq_eq_true q3
  have q4 := Nat.eq_of_beq_eq_true q4
  have q5 := List.isEmpty_iff.1 q5
  have hv : ∀ t v, (putL tm .leaf).get t = some v → s.tm.get t = some v := fun t v h => by
    rcases putL_get _ _ _ _ h with h | h
    · have h1 := List.all_eq_true.1 q1 _ h
      dsimp only at h1
      cases hg : s.tm.get t with
      | none => rw [hg] at h1; cases h1
      | some v' => rw [hg] at h1; rw [sameV_eq _ _ h1]
    · rw [Tr.get_leaf] at h; cases h
  have ho : ∀ t v, (putL hp .leaf).get t = some v → s.h.get t = some v := fun t v h => by
    rcases putL_get _ _ _ _ h with h | h
    · have h1 := List.all_eq_true.1 q2 _ h
      dsimp only at h1
      cases hg : s.h.get t with
      | none => rw [hg] at h1; cases h1
      | some v' => rw [hg] at h1; rw [sameOb_eq _ _ h1]
    · rw [Tr.get_leaf] at h; cases h
  have R := S.r
  refine ⟨⟨S.t.1, fun t v h => S.t.2 t v (hv t v h)⟩, ?_⟩
  refine ⟨fun b o k h1 h2 => R.heap b o k (ho b o h1) h2, fun b k h => ?_, fun b k h => ?_, fun b b' k o o' h1 h2 h3 h4 => R.inj b b' k o o' h1 h2 (ho _ _ h3) (ho _ _ h4), fun b k h => ?_, ?_, fun b hb => ?_, ?_⟩
  · show b < nxt; rw [← q3]; exact R.lt b k h
  · show b < nxt; rw [← q3]; exact R.klt b k h
  · have := R.new b k h
    rw [q4, q5] at this
    exact this
  · have := R.bel
    rw [q5] at this
    exact this
  · have hb : nxt ≤ b := hb
    cases hg : (putL hp .leaf).get b with
    | none => exact hg
    | some o =>
      have h1 := ho b o hg
      rw [R.fresh b (by rw [q3]; exact hb)] at h1
      cases h1
  · show e.lim = nxt; rw [← q3]; exact R.lim
/-- A part: from a place and a state to another place, with a state that is told. -/
def cutB (c0 : Code) (leaf : LeafT) (j : Nat) (p : List D) (s : St) (p' : List D) (tm : List (Nat × V)) (hp : List (Nat × O)) (nxt : Nat) : Bool :=
  match runP c0 leaf j p s [] with
  | some (.at q, s', []) => decide (q = p') && weakB s' tm hp nxt
  | _ => false
/-- The last part. -/
def endB (P : Program) (fn : Func) (c0 : Code) (leaf : LeafT) (j : Nat) (p : List D) (s : St) : Bool :=
  match runP c0 leaf j p s [] with
  | some (.done .normal, s', mk') => isTrueV (evEnd P fn s' mk')
  | some (.done .ret, s', mk') => isTrueV (evEnd P fn s' mk')
  | _ => false
/-- From there on it ends, and says true. -/
def Ends (P : Program) (fn : Func) (c0 : Code) (p : List D) (s : St) : Prop := ∀ (w0 : World) (e : E) (m : Nat) (a : Act) (w : World), SRel w0 e fn.ntmps s a w → drel e [] a.defers →
  UpOk Fence.wide m P c0 (bodyPostM Fence.wide m P fn (fun en w' => en = .returned (.bool true) ∧ Below w0.heap.size w0 w')) (.at p) a w
theorem cut_ok {P : Program} {fn : Func} {c0 : Code} {leaf : LeafT} (hl : LeafOk P fn.ntmps leaf) {j : Nat} {p p' : List D} {s : St} {tm : List (Nat × V)} {hp : List (Nat × O)} {nxt : Nat} (q : cutB c0 leaf j p s p' tm hp nxt = true) (h : Ends P fn c0 p' (mkSt tm hp nxt)) : Ends P fn c0 p s := by
  intro w0 e m a w S Dr
  unfold cutB at q
  split at q
  · rename_i q' s' hr
    simp only [Bool.and_eq_true, decide_eq_true_eq] at q
    obtain ⟨rfl, q2⟩ := q
    exact runP_ok hl j p s [] e a w S Dr hr (fun e' a' w' h1 h2 h3 => h w0 e' m a' w' (weak_ok h2 q2) h3)
  · cases q
theorem end_ok {P : Program} {fn : Func} {c0 : Code} {leaf : LeafT} (hl : LeafOk P fn.ntmps leaf) {j : Nat} {p : List D} {s : St} (q : endB P fn c0 leaf j p s = true) : Ends P fn c0 p s := by
  intro w0 e m a w S Dr
  have fin : ∀ (s' : St) (mk' : List Nat), isTrueV (evEnd P fn s' mk') = true → ∀ e' a' w', SRel w0 e' fn.ntmps s' a' w' → drel e' mk' a'.defers →
      LeavesInM Fence.wide m P fn a'.tmps (fun en w' => en = .returned (.bool true) ∧ Below w0.heap.size w0 w') a'.defers .returning w' := by
    intro s' mk' hv e' a' w' h2 h3
    unfold isTrueV at hv
    split at hv
    · rename_i h4 hq
      have hlog := List.isEmpty_iff.1 hv
      unfold evEnd at hq
      split at hq
      · rename_i h2' hcl
        split at hq
        · rename_i vs hrs
          simp only [Option.some.injEq, Prod.mk.injEq] at hq
          obtain ⟨hres, rfl⟩ := hq
          refine close_ok mk' _ _ _ h3 h2.r hcl (fun w2 R2 => ?_)
          obtain ⟨x, r1, r2⟩ := run_results (P := P) (s := ⟨s'.tm, _⟩) R2 h2.t hrs
          rw [hres] at r2
          simp only [vrel] at r2
          subst r2
          exact ⟨_, r1, rfl, R2.bel.below (fun k hk => by obtain ⟨b, hb, _⟩ := hk; rw [hlog] at hb; cases hb)⟩
        · cases hq
      · cases hq
    · cases hv
  unfold endB at q
  split at q
  · rename_i s' mk' hr
    exact runP_ok hl j p s [] e a w S Dr hr (fun e' a' w' h1 h2 h3 => fin s' mk' q e' a' w' h2 h3)
  · rename_i s' mk' hr
    exact runP_ok hl j p s [] e a w S Dr hr (fun e' a' w' h1 h2 h3 => fin s' mk' q e' a' w' h2 h3)
  · cases q
theorem closed_of {P : Program} {g : FuncId} {fn : Func} {c0 : Code} (hf : P.funcs[g]? = some fn) (hb : fn.body = some c0) (h : Ends P fn c0 [] ⟨.leaf, ⟨.leaf, 0, 0, []⟩⟩) (W : World) (m : Nat) :
    CallsIn Fence.wide m P g #[] W fun en W' => en = .returned (.bool true) ∧ Below W.heap.size W W' := by
  have R : Rel W ⟨fun _ => none, fun _ => none, 0⟩ ⟨.leaf, 0, 0, []⟩ W :=
    ⟨fun b o k _ hk => (by cases hk), fun b k hk => (by cases hk), fun b k hk => (by cases hk), fun b b' k o o' hk => (by cases hk), fun b k hk => (by cases hk), ⟨rfl, rfl, rfl, Nat.le_refl _, fun _ _ _ => rfl⟩, fun b _ => Tr.get_leaf b, rfl⟩
  refine callsIn_of_wp_marks hf hb trivial ?_
  have T := args_trel (e := ⟨fun _ => none, fun _ => none, 0⟩) (args := []) (xs := []) (n := fn.ntmps) (vrels_nil.2 rfl) (Nat.zero_le _)
  obtain ⟨k, c, h1, h2⟩ := h W ⟨fun _ => none, fun _ => none, 0⟩ m { tmps := (#[] : Array Value) ++ Array.replicate (fn.ntmps - (#[] : Array Value).size) undef, defers := [] } W ⟨T, R⟩ (show drel _ [] [] from rfl)
  cases h1
  exact h2
theorem leafE_ok {P : Program} {call : CallT} {draw : DrawT} {n : Nat} (hc : CallOk P call) (hd : DrawOk P call draw) : LeafOk P n (fun c s mk => evC P call draw n none c s mk) :=
  fun c w0 e m s mk a w ex s' mk' Q S Dr q hQ => evC_ok hc hd c _ _ _ _ _ _ _ _ _ _ _ _ _ _ (show FRel e none Fence.wide from rfl) S Dr q hQ
/-- As the kernel runs it. -/
noncomputable def leafK (P : Program) (ext : ExtT) (spec : SpecT) (d n : Nat) : LeafT := fun c s mk => evKC c P (evCallK P ext spec (drawK P) d) (drawK P (evCallK P ext spec (drawK P) d)) n none s mk
theorem leafK_ok {P : Program} {ext : ExtT} {spec : SpecT} {d n : Nat} (hm : P.follows .mixedOrders = true) (hnm : ∀ (g : FuncId) (fn : Func), P.funcs[g]? = some fn → (fn.name == "runtime.NumGoroutine") = false) (hex : ExtOk P ext) (hsp : SpecOk P spec) : LeafOk P n (leafK P ext spec d n) := by
  have e1 : evCallK P ext spec (drawK P) d = evCall P ext spec (drawF P) d := by rw [evCallK_eq, show drawK P = drawF P from funext fun call => drawK_eq P call]
  have hc := evCall_ok hnm hex hsp (fun call hc => drawF_ok hm hc) d
  have e2 : leafK P ext spec d n = fun c s mk => evC P (evCall P ext spec (drawF P) d) (drawF P (evCall P ext spec (drawF P) d)) n none c s mk := by
    funext c s mk
    unfold leafK
    rw [e1, evKC_eq, evR_op, drawK_eq]
  rw [e2]
  exact leafE_ok hc (drawF_ok hm hc)
/-- Closed functions that are known to say true. -/
def closedSpec (spec : SpecT) (l : List FuncId) : SpecT := fun g => cond (l.any (Nat.beq g)) (some fun h args => match args with
  | [] => some (.bool true, h)
  | _ => none) (spec g)
theorem closedSpec_ok {P : Program} {spec : SpecT} {l : List FuncId} (hsp : SpecOk P spec) (h : ∀ g ∈ l, (∃ fn, P.funcs[g]? = some fn ∧ fn.body.isNone = false) ∧ ∀ W m, CallsIn Fence.wide m P g #[] W fun en W' => en = .returned (.bool true) ∧ Below W.heap.size W W') : SpecOk P (closedSpec spec l) := by
  intro g f hf
  unfold closedSpec at hf
  cases ha : l.any (Nat.beq g) with
  | false => rw [ha] at hf; exact hsp g f hf
  | true =>
    rw [ha] at hf
    cases hf
    obtain ⟨g', hg', hgg⟩ := List.any_eq_true.1 ha
    have := Nat.eq_of_beq_eq_true hgg
    subst this
    obtain ⟨h1, h2⟩ := h g hg'
    refine ⟨h1, fun w0 e hh w args v h' q R xs hv n => ?_⟩
    dsimp only at q
    split at q
    · cases q
      obtain rfl := vrels_nil.1 hv
      refine (h2 w n).mono ?_
      rintro en w' ⟨rfl, hb⟩
      exact ⟨e, _, rfl, E.le.refl e, by simp only [vrel], R.later hb⟩
    · cases q
end Go.Proofs.Ytdammjolkcjogaa.Ev

/-! Calls that were run by themselves ('memos'): what of the heap they look at, what they come to. -/
namespace Go.Proofs.Ytdammjolkcjogaa.Ev
open Go Go.RowKit
set_option linter.unusedVariables false
set_option linter.unusedSimpArgs false

structure Memo where
  nxt : Nat
  args : List V
  hp : List (Nat × O)
  wr : List Nat
  v : V
  out : List (Nat × O)
  nxt' : Nat
def keyB (l : List (Nat × O)) (b : Nat) : Bool := l.any fun p => Nat.beq p.1 b
theorem keyB_mem {l : List (Nat × O)} {b : Nat} (h : keyB l b = true) : ∃ o, (b, o) ∈ l := by
  obtain ⟨p, h1, h2⟩ := List.any_eq_true.1 h
  have := Nat.eq_of_beq_eq_true h2
  subst this
  exact ⟨p.2, h1⟩
def inN (l : List Nat) (b : Nat) : Bool := l.any (Nat.beq b)
theorem inN_mem {l : List Nat} {b : Nat} (h : inN l b = true) : b ∈ l := by
  obtain ⟨p, h1, h2⟩ := List.any_eq_true.1 h
  rw [Nat.eq_of_beq_eq_true h2]; exact h1
theorem inN_of {l : List Nat} {b : Nat} (h : b ∈ l) : inN l b = true := List.any_eq_true.2 ⟨b, h, Nat.beq_refl b⟩
def Memo.inH (m : Memo) : H := ⟨putL m.hp .leaf, m.nxt, m.nxt, []⟩
def memoIn (m : Memo) (h : H) (args : List V) : Bool := Nat.beq h.nxt m.nxt && (sameVs args m.args && m.hp.all fun p => isO (h.get p.1) p.2)
def delL : List Nat → Tr O → Tr O
  | [], t => t
  | p :: l, t => delL l (t.set p none)
theorem delL_get : ∀ (l : List Nat) (t : Tr O) (n : Nat) (o : O), (delL l t).get n = some o → t.get n = some o ∧ inN l n = false
  | [], t, n, o, h => ⟨h, rfl⟩
  | p :: l, t, n, o, h => by
    obtain ⟨h1, h2⟩ := delL_get l _ n o h
    rw [Tr.get_set] at h1
    by_cases e1 : n = p
    · rw [if_pos e1] at h1; cases h1
    · rw [if_neg e1] at h1
      refine ⟨h1, ?_⟩
      unfold inN at h2 ⊢
      rw [List.any_cons, h2, Bool.or_false]
      cases hh : Nat.beq n p with
      | false => rfl
      | true => exact absurd (Nat.eq_of_beq_eq_true hh) e1
def memoOut (m : Memo) (h : H) : H := ⟨putL m.out (delL m.wr h.heap), m.nxt', h.frz, (m.wr.filter fun b => Nat.blt b h.frz) ++ h.log⟩
/-- What the call was seen to come to. -/
def memoR (m : Memo) : Option (V × H) → Bool
  | some (v, h') => sameV v m.v && (m.out.all fun p => isO (h'.get p.1) p.2 && (Nat.ble m.nxt p.1 || inN m.wr p.1)) && Nat.beq h'.nxt m.nxt' && Nat.beq h'.frz m.nxt && (h'.log.all (inN m.wr) && m.wr.all (keyB m.hp))
  | none => false
def memoF (ms : List Memo) (h : H) (args : List V) : Option (V × H) := match ms with
  | [] => none
  | m :: l => cond (memoIn m h args) (some (m.v, memoOut m h)) (memoF l h args)
section
variable {P : Program} {w0 w w' : World} {e e' : E} {h : H}
/-- Less of a heap. -/
theorem Rel.less (R : Rel w0 e h w) {h2 : H} (hs : ∀ b o, h2.get b = some o → h.get b = some o) (h1 : h2.nxt = h.nxt) (hf : h2.frz = h.frz) (hl : h2.log = h.log) : Rel w0 e h2 w := by
  refine ⟨fun b o k q1 q2 => R.heap b o k (hs b o q1) q2, fun b k q => ?_, fun b k q => ?_, fun b b' k o o' q1 q2 q3 q4 => R.inj b b' k o o' q1 q2 (hs _ _ q3) (hs _ _ q4), fun b k q => ?_, ?_, fun b hb => ?_, ?_⟩
  · rw [h1]; exact R.lt b k q
  · rw [h1]; exact R.klt b k q
  · rw [hf, hl]; exact R.new b k q
  · rw [hl]; exact R.bel
  · cases hg : h2.get b with
    | none => rfl
    | some o => have q := hs b o hg; rw [R.fresh b (by rw [← h1]; exact hb)] at q; cases q
  · rw [h1]; exact R.lim
theorem isO_eq {a : Option O} {b : O} (h : isO a b = true) : a = some b := by
  cases a with
  | none => cases h
  | some a => rw [sameOb_eq _ _ h]
theorem memo_in (R : Rel w0 e h w) {m : Memo} {args : List V} (q : memoIn m h args = true) : Rel w e m.inH w ∧ args = m.args ∧ h.nxt = m.nxt ∧ ∀ b o, (b, o) ∈ m.hp → h.get b = some o := by
  unfold memoIn at q
  simp only [Bool.and_eq_true] at q
  obtain ⟨q1, q2, q3⟩ := q
  have q1 := Nat.eq_of_beq_eq_true q1
  have hin : ∀ b o, (b, o) ∈ m.hp → h.get b = some o := fun b o hm => isO_eq (List.all_eq_true.1 q3 _ hm)
  refine ⟨R.frozen.less (fun b o hg => ?_) q1.symm q1.symm rfl, sameVs_eq _ _ q2, q1, hin⟩
  rcases putL_get m.hp .leaf b o hg with hh | hh
  · exact hin b o hh
  · rw [Tr.get_leaf] at hh; cases hh
theorem memo_out (R : Rel w0 e h w) {m : Memo} (hn : h.nxt = m.nxt) (hin : ∀ b o, (b, o) ∈ m.hp → h.get b = some o) {v : V} {h' : H} (q : memoR m (some (v, h')) = true) (hle : e.le e') (R' : Rel w e' h' w') : v = m.v ∧ Rel w0 e' (memoOut m h) w' := by
  unfold memoR at q
  simp only [Bool.and_eq_true] at q
  obtain ⟨⟨⟨⟨q1, q2⟩, q3⟩, q4⟩, q5⟩ := q
  have q3 := Nat.eq_of_beq_eq_true q3
  have q4 := Nat.eq_of_beq_eq_true q4
  refine ⟨sameV_eq _ _ q1, ?_⟩
  have hlog : ∀ b ∈ h'.log, b ∈ m.wr := fun b hb => inN_mem (List.all_eq_true.1 q5.1 b hb)
  have hwr : ∀ b ∈ m.wr, ∃ o, h.get b = some o := fun b hb => by
    obtain ⟨o, ho⟩ := keyB_mem (List.all_eq_true.1 q5.2 b hb)
    exact ⟨o, hin b o ho⟩
  have hout : ∀ b o, (b, o) ∈ m.out → h'.get b = some o ∧ (m.nxt ≤ b ∨ b ∈ m.wr) := fun b o hm => by
    have := List.all_eq_true.1 q2 _ hm
    simp only [Bool.and_eq_true, Bool.or_eq_true] at this
    exact ⟨isO_eq this.1, this.2.imp Nat.le_of_ble_eq_true inN_mem⟩
  have hnn : h.nxt ≤ h'.nxt := by rw [← R.lim, ← R'.lim]; exact hle.lim
  have back : ∀ b k, b < h.nxt → e'.ρ b = some k → e.ρ b = some k := fun b k hlt hk => by
    cases he : e.ρ b with
    | none => rw [hle.old b (by rw [R.lim]; exact hlt) he] at hk; cases hk
    | some k' => rw [hle.ρ _ _ he] at hk; exact hk
  have inlt : ∀ b o, h.get b = some o → b < h.nxt := fun b o hg => Nat.lt_of_not_le fun hh => by rw [R.fresh b hh] at hg; cases hg
  have logA : ∀ k, logged e' h'.log k → ∃ b o, b ∈ m.wr ∧ h.get b = some o ∧ e.ρ b = some k := fun k hk => by
    obtain ⟨b, h1, h2⟩ := hk
    have h3 := hlog b h1
    obtain ⟨o, h4⟩ := hwr b h3
    exact ⟨b, o, h3, h4, back b k (inlt b o h4) h2⟩
  have notA : ∀ n o k, inN m.wr n = false → h.get n = some o → e.ρ n = some k → ¬ logged e' h'.log k := fun n o k hnA hg hk hl => by
    obtain ⟨b, ob, h1, h2, h3⟩ := logA k hl
    have := R.inj b n k ob o h3 hk h2 hg
    subst this
    rw [inN_of h1] at hnA
    cases hnA
  have hl2 : ∀ k, logged e h.log k → logged e' (memoOut m h).log k := fun k hk => hk.mono hle.ρ fun b hb => List.mem_append.2 (.inr hb)
  have hl3 : ∀ k, logged e' h'.log k → w0.heap.size ≤ k ∨ logged e' (memoOut m h).log k := fun k hk => by
    obtain ⟨b, ob, h1, h2, h3⟩ := logA k hk
    by_cases hf : b < h.frz
    · exact .inr ⟨b, List.mem_append.2 (.inl (List.mem_filter.2 ⟨h1, bltT.2 hf⟩)), hle.ρ _ _ h3⟩
    · exact ((R.new b k h3).1 (Nat.le_of_not_lt hf)).imp id (hl2 k)
  have src : ∀ n o, (memoOut m h).get n = some o → (h'.get n = some o ∧ (m.nxt ≤ n ∨ n ∈ m.wr)) ∨ (h.get n = some o ∧ inN m.wr n = false) := fun n o hg => by
    rcases putL_get m.out (delL m.wr h.heap) n o hg with hh | hh
    · exact .inl (hout n o hh)
    · exact .inr (delL_get _ _ _ _ hh)
  have cross : ∀ n o n' o' k, h'.get n = some o → (m.nxt ≤ n ∨ n ∈ m.wr) → e'.ρ n = some k → h.get n' = some o' → inN m.wr n' = false → e'.ρ n' = some k → False := fun n o n' o' k g1 g2 g3 g4 g5 g6 => by
    have g7 := back n' k (inlt n' o' g4) g6
    rcases g2 with g2 | g2
    · rcases (R'.new n k g3).1 (by rw [q4]; exact g2) with h1 | h1
      · have := (R.new n' k g7).2; omega
      · exact notA n' o' k g5 g4 g7 h1
    · obtain ⟨ob, h2⟩ := hwr n g2
      have := R.inj n n' k ob o' (back n k (inlt n ob h2) g3) g7 h2 g4
      subst this
      rw [inN_of g2] at g5
      cases g5
  refine ⟨fun n o k hg hk => ?_, fun n k hk => ?_, fun n k hk => ?_, fun n n' k o o' hk hk' hg hg' => ?_, fun n k hk => ?_, ?_, fun n hh => ?_, ?_⟩
  · rcases src n o hg with ⟨g1, _⟩ | ⟨g1, g2⟩
    · exact R'.heap n o k g1 hk
    · have g3 := back n k (inlt n o g1) hk
      rw [R'.bel.block k (R.new n k g3).2 (notA n o k g2 g1 g3)]
      exact orel_mono hle (R.heap n o k g1 g3)
  · show n < m.nxt'; rw [← q3]; exact R'.lt n k hk
  · show n < m.nxt'; rw [← q3]; exact R'.klt n k hk
  · rcases src n o hg with ⟨g1, g2⟩ | ⟨g1, g2⟩ <;> rcases src n' o' hg' with ⟨g3, g4⟩ | ⟨g3, g4⟩
    · exact R'.inj n n' k o o' hk hk' g1 g3
    · exact (cross n o n' o' k g1 g2 hk g3 g4 hk').elim
    · exact (cross n' o' n o k g3 g4 hk' g1 g2 hk).elim
    · exact R.inj n n' k o o' (back n k (inlt n o g1) hk) (back n' k (inlt n' o' g3) hk') g1 g3
  · by_cases hlt : n < h.nxt
    · have g1 := back n k hlt hk
      exact ⟨fun hf => ((R.new n k g1).1 hf).imp id (hl2 k), Nat.lt_of_lt_of_le (R.new n k g1).2 R'.bel.size⟩
    · refine ⟨fun _ => ?_, (R'.new n k hk).2⟩
      rcases (R'.new n k hk).1 (by rw [q4, ← hn]; exact Nat.le_of_not_lt hlt) with h1 | h1
      · exact .inl (Nat.le_trans R.bel.size h1)
      · exact hl3 k h1
  · refine ⟨R'.bel.os.trans R.bel.os, R'.bel.tape.trans R.bel.tape, R'.bel.output.trans R.bel.output, Nat.le_trans R.bel.size R'.bel.size, fun k hk hnl => ?_⟩
    rw [R'.bel.block k (Nat.lt_of_lt_of_le hk R.bel.size) (fun hl => ?_)]
    · exact R.bel.block k hk (fun hl => hnl (hl2 k hl))
    · rcases hl3 k hl with h1 | h1
      · omega
      · exact hnl h1
  · have hh : m.nxt' ≤ n := hh
    cases hg : (memoOut m h).get n with
    | none => rfl
    | some o =>
      rcases src n o hg with ⟨g1, _⟩ | ⟨g1, _⟩
      · rw [R'.fresh n (by rw [q3]; exact hh)] at g1; cases g1
      · have := inlt n o g1; omega
  · show e'.lim = m.nxt'; rw [← q3]; exact R'.lim
theorem memoF_some {args : List V} {v : V} {h1 : H} : ∀ {ms : List Memo}, memoF ms h args = some (v, h1) → ∃ m ∈ ms, memoIn m h args = true ∧ v = m.v ∧ h1 = memoOut m h
  | [], q => by cases q
  | m :: l, q => by
    unfold memoF at q
    cases hc : memoIn m h args with
    | true => rw [hc] at q; cases q; exact ⟨m, List.mem_cons_self, hc, rfl, rfl⟩
    | false =>
      rw [hc] at q
      obtain ⟨m', h1, h2⟩ := memoF_some q
      exact ⟨m', List.mem_cons_of_mem _ h1, h2⟩
end
/-- Some functions by their memos. -/
def memoSpec (spec : SpecT) : List (FuncId × List Memo) → SpecT
  | [], g => spec g
  | p :: l, g => cond (Nat.beq g p.1) (some (memoF p.2)) (memoSpec spec l g)
def memoB (call : CallT) (g : FuncId) (m : Memo) : Bool := memoR m (call (.fn g m.args) m.inH)
theorem memoSpec_ok {P : Program} {spec : SpecT} {call : CallT} (hsp : SpecOk P spec) (hc : CallOk P call) : ∀ (l : List (FuncId × List Memo)), (∀ p ∈ l, (∃ fn, P.funcs[p.1]? = some fn ∧ fn.body.isNone = false) ∧ ∀ m ∈ p.2, memoB call p.1 m = true) → SpecOk P (memoSpec spec l)
  | [], _ => hsp
  | p :: l, hl => by
    intro g f hf
    unfold memoSpec at hf
    cases hb : Nat.beq g p.1 with
    | false => rw [hb] at hf; exact memoSpec_ok hsp hc l (fun p hp => hl p (List.mem_cons_of_mem _ hp)) g f hf
    | true =>
      rw [hb] at hf
      cases hf
      have := Nat.eq_of_beq_eq_true hb
      subst this
      obtain ⟨h1, h2⟩ := hl p List.mem_cons_self
      refine ⟨h1, fun w0 e h w args v h' q R xs hv n => ?_⟩
      obtain ⟨m, hm, hin, rfl, rfl⟩ := memoF_some q
      have hB := h2 m hm
      obtain ⟨Rm, rfl, hn, hhp⟩ := memo_in R hin
      unfold memoB at hB
      cases hq : call (.fn p.1 m.args) m.inH with
      | none => rw [hq] at hB; cases hB
      | some r =>
        obtain ⟨v1, h1'⟩ := r
        rw [hq] at hB
        refine ((hc.fn hq Rm xs hv).2 n).mono ?_
        rintro en w' ⟨e', x, rfl, g1, g2, g3⟩
        obtain ⟨rfl, g4⟩ := memo_out R hn hhp hB g1 g3
        exact ⟨e', x, rfl, g1, g2, g4⟩
theorem callK_ok {P : Program} {ext : ExtT} {spec : SpecT} {d : Nat} (hm : P.follows .mixedOrders = true) (hnm : ∀ (g : FuncId) (fn : Func), P.funcs[g]? = some fn → (fn.name == "runtime.NumGoroutine") = false) (hex : ExtOk P ext) (hsp : SpecOk P spec) : CallOk P (evCallK P ext spec (drawK P) d) := by
  have e1 : evCallK P ext spec (drawK P) d = evCall P ext spec (drawF P) d := by rw [evCallK_eq, show drawK P = drawF P from funext fun call => drawK_eq P call]
  rw [e1]
  exact evCall_ok hnm hex hsp (fun call hc => drawF_ok hm hc) d
theorem bodies_mem {P : Program} {l : List FuncId} (hb : bodiesB P l = true) {g : FuncId} (hg : g ∈ l) : ∃ fn, P.funcs[g]? = some fn ∧ fn.body.isNone = false := by
  have hbody := List.all_eq_true.1 hb g hg
  split at hbody
  · rename_i fn hfn
    exact ⟨fn, hfn, by simpa using hbody⟩
  · cases hbody
/-- A function without arguments that says true. -/
theorem closed_true {P : Program} {ext : ExtT} {spec : SpecT} {d : Nat} {g : FuncId} (hm : P.follows .mixedOrders = true) (hnm : ∀ (g : FuncId) (fn : Func), P.funcs[g]? = some fn → (fn.name == "runtime.NumGoroutine") = false) (hex : ExtOk P ext) (hsp : SpecOk P spec) (hb : bodiesB P [g] = true) (h : runK P ext spec d g = true) :
    (∃ fn, P.funcs[g]? = some fn ∧ fn.body.isNone = false) ∧ ∀ W m, CallsIn Fence.wide m P g #[] W fun e W' => e = .returned (.bool true) ∧ Below W.heap.size W W' := by
  unfold runK at h
  cases hq : evCallK P ext spec (drawK P) d (.fn g []) ⟨.leaf, 0, 0, []⟩ with
  | none => rw [hq] at h; cases h
  | some r =>
    obtain ⟨v, h'⟩ := r
    rw [hq] at h
    have hv : v = .bool true ∧ h'.log = [] := by
      unfold isTrueV at h
      split at h
      · rename_i hh; cases hh; exact ⟨rfl, List.isEmpty_iff.1 h⟩
      · cases h
    obtain ⟨rfl, hlog⟩ := hv
    have hc := callK_ok (d := d) hm hnm hex hsp
    have R : ∀ W, Rel W ⟨fun _ => none, fun _ => none, 0⟩ ⟨.leaf, 0, 0, []⟩ W := fun W =>
      ⟨fun b o k _ hk => (by cases hk), fun b k hk => (by cases hk), fun b k hk => (by cases hk), fun b b' k o o' hk => (by cases hk), fun b k hk => (by cases hk), ⟨rfl, rfl, rfl, Nat.le_refl _, fun _ _ _ => rfl⟩, fun b _ => Tr.get_leaf b, rfl⟩
    refine ⟨?_, fun W m => ?_⟩
    · exact bodies_mem hb List.mem_cons_self
    · refine ((hc.fn hq (R W) [] (vrels_nil.2 rfl)).2 m).mono ?_
      rintro en w' ⟨e', x, rfl, h1, h2, h3⟩
      simp only [vrel] at h2
      subst h2
      exact ⟨rfl, h3.bel.below (fun k hk => by obtain ⟨b, hb, _⟩ := hk; rw [hlog] at hb; cases hb)⟩
/-- The memos of a function, one by one. -/
theorem memos_nil {call : CallT} {g : FuncId} : ∀ m ∈ ([] : List Memo), memoB call g m = true := fun _ h => by cases h
theorem memos_cons {call : CallT} {g : FuncId} {m : Memo} {l : List Memo} (h : memoB call g m = true) (hl : ∀ m ∈ l, memoB call g m = true) : ∀ m' ∈ m :: l, memoB call g m' = true := fun m' hm => by
  rcases List.mem_cons.1 hm with rfl | hm
  · exact h
  · exact hl m' hm
end Go.Proofs.Ytdammjolkcjogaa.Ev

import Derived.Test.YtjngkcnanhnopaaGreatDoorKy
import Derived.Maps.RangeRun
/-! The evaluator that goes all ways: whichever entry of a map comes next. Rows and code. -/
namespace Go.Proofs.YtjngkcnanhnopaaGreatDoor.Ev
open Go Go.RowKit
set_option linter.unusedVariables false
set_option linter.unusedSimpArgs false

/-- All that may come; none: not known. -/
abbrev OutL (α : Type) := Option (List α)
def goL {α β : Type} (f : α → OutL β) : List α → OutL β
  | [] => some []
  | a :: l => match f a, goL f l with
    | some x, some y => some (x ++ y)
    | _, _ => none
def bindL {α β : Type} (o : OutL α) (f : α → OutL β) : OutL β := match o with
  | some l => goL f l
  | none => none
def oneL {α : Type} (o : Option α) : OutL α := match o with
  | some a => some [a]
  | none => none
theorem goL_mem {α β : Type} {f : α → OutL β} : ∀ {l : List α} {rs : List β}, goL f l = some rs → ∀ a ∈ l, ∃ x, f a = some x ∧ ∀ r ∈ x, r ∈ rs
  | [], rs, _, a, ha => by cases ha
  | b :: l, rs, h, a, ha => by
    unfold goL at h
    split at h
    · rename_i x y hx hy
      cases h
      rcases List.mem_cons.1 ha with rfl | ha
      · exact ⟨x, hx, fun r hr => List.mem_append.2 (.inl hr)⟩
      · obtain ⟨z, hz, hz2⟩ := goL_mem hy a ha
        exact ⟨z, hz, fun r hr => List.mem_append.2 (.inr (hz2 r hr))⟩
    · cases h
theorem bindL_some {α β : Type} {o : OutL α} {f : α → OutL β} {rs : List β} (h : bindL o f = some rs) : ∃ l, o = some l ∧ ∀ a ∈ l, ∃ x, f a = some x ∧ ∀ r ∈ x, r ∈ rs := by
  unfold bindL at h
  split at h
  · rename_i l
    exact ⟨l, rfl, goL_mem h⟩
  · cases h
theorem oneL_some {α : Type} {o : Option α} {rs : List α} (h : oneL o = some rs) : ∃ a, o = some a ∧ rs = [a] := by
  cases o with
  | none => cases h
  | some a => cases h; exact ⟨a, rfl, rfl⟩
def nextN (h : H) (it : V) : OutL (V × H) :=
  match it with
  | .ptr (some (b, 0)) => (match h.getW b with
    | some (.iter none _ _ _) => some [(.tuple [.bool false], h)]
    | some (.iter (some m) olds seen ls) => (match h.get m with
      | some (.map es ls') => cond (sameLs ls ls' && es.all fun e => olds.contains e.2.2) (match es.filter (fun e => !(seen.contains e.2.2)) with
        | [] => some [(.tuple [.bool false], h)]
        | l => some (l.map fun p => (.tuple [.bool true, p.1, p.2.1], h.set b (some (.iter (some m) olds (seen ++ [p.2.2]) ls'))))) none
      | _ => none)
    | _ => none)
  | _ => none
section
variable {P : Program} {w0 w : World} {e : E} {h : H}
theorem mrel_mem : ∀ {es : List (V × V × Nat)} {l : List MapEntry}, mrel e es l → ∀ x ∈ l, ∃ p ∈ es, vrel e p.1 x.key ∧ vrel e p.2.1 x.val ∧ e.κ p.2.2 = some x.born
  | [], _, hm, x, hx => by have hm : _ = [] := hm; subst hm; cases hx
  | (k, v, s) :: es, _, ⟨y, r, q1, q2, q3, q4, q5⟩, x, hx => by
    subst q1
    rcases List.mem_cons.1 hx with rfl | hx
    · exact ⟨_, List.mem_cons_self, q2, q3, q4⟩
    · obtain ⟨p, hp, h1⟩ := mrel_mem q5 x hx
      exact ⟨p, List.mem_cons_of_mem _ hp, h1⟩
theorem run_nextN (R : Rel w0 e h w) {it : V} {it' : Value} {rs : List (V × H)} (ty : TypeId) (hi : vrel e it it') (q : nextN h it = some rs) :
    ∃ r ∈ rs, ∃ w' z, (Instr.next it' false ty).run P w = .ok z w' ∧ vrel e r.1 z ∧ Rel w0 e r.2 w' := by
  unfold nextN at q
  split at q
  · rename_i b
    simp only [vrel] at hi
    obtain ⟨kb, hkb, rfl⟩ := hi
    split at q
    · rename_i hg
      obtain ⟨hfz, hg⟩ := H.getW_some hg
      cases q
      obtain ⟨m', since, seen', last, r1, r2, _⟩ := R.heap b _ kb hg hkb
      have r2 := r2 rfl
      subst r2
      have hgo : (getObj kb).run P w = .ok (.mapIter none since ⟨seen'⟩ last) w := by simp [getObj, Sem.run, r1]
      refine ⟨_, List.mem_cons_self, w, .tuple #[.bool false], by simp [Instr.next, hgo], ?_, R⟩
      simp only [vrel]
      exact ⟨_, rfl, vrels_one (by simp only [vrel])⟩
    · rename_i m olds seen ls hg
      obtain ⟨hfz, hg⟩ := H.getW_some hg
      split at q
      · rename_i es ls' hgm
        cases hall0 : (sameLs ls ls' && es.all fun e => olds.contains e.2.2) with
        | false => rw [hall0] at q; cases q
        | true =>
          rw [hall0] at q
          simp only [cond_true] at q
          obtain ⟨hls, hall⟩ := (Bool.and_eq_true _ _).mp hall0
          have hls := sameLs_eq hls
          subst hls
          obtain ⟨m', since, seen', last, r1, _, r3, r4, r5, r6, r7, r8, r9, r10⟩ := R.heap b _ kb hg hkb
          obtain ⟨km, hkm, rfl⟩ := r3 m rfl
          obtain ⟨l, clk, es', t1, tp, t2, t3, t4, t5⟩ := R.map hgm hkm
          have hclk := crel_eq r8 t5
          have hall' : (es'.all fun e => olds.contains e.2.2) = true := List.all_eq_true.2 fun p hp => List.all_eq_true.1 hall p (tp.mem_iff.2 hp)
          have tpf := tp.filter (fun e : V × V × Nat => !(seen.contains e.2.2))
          subst hclk
          subst r7
          have hold : ∀ x ∈ l, x.born < since := by
            intro x hx
            obtain ⟨p, hp, _, _, hs⟩ := mrel_mem t2 x hx
            exact r5 p.2.2 (by simpa using List.all_eq_true.1 hall' p hp) _ hs
          have hfil := mrel_filter r4 r9 r10 t2 hall'
          have hleft : leftOf (⟨l⟩ : Array MapEntry) ⟨seen'⟩ = ⟨l.filter fun x => !(seen'.contains x.born)⟩ := by
            unfold leftOf
            apply Array.ext'
            simp
          have hlt := (R.new _ _ hkb).2
          rcases run_next_at (P := P) w ty kb km since since ⟨seen'⟩ ⟨l⟩ since r1 t1 (by simpa using hold) (Nat.le_refl _) with ⟨h0, hrun⟩ | ⟨x, hx, w1, hw1, hrun⟩
          · rw [hleft] at h0
            have h0 : (l.filter fun x => !(seen'.contains x.born)) = [] := List.eq_nil_of_length_eq_zero (by simpa using h0)
            rw [h0] at hfil
            have he : (es.filter fun x => !(seen.contains x.2.2)) = [] := by
              have he' : (es'.filter fun x => !(seen.contains x.2.2)) = [] := by
                cases hh : es'.filter fun x => !(seen.contains x.2.2) with
                | nil => rfl
                | cons p t =>
                  rw [hh] at hfil
                  obtain ⟨k, v, s⟩ := p
                  obtain ⟨y, r, q1, _⟩ := hfil
                  cases q1
              rw [he'] at tpf
              exact tpf.eq_nil
            rw [he] at q
            cases q
            refine ⟨_, List.mem_cons_self, w, _, hrun, ?_, R⟩
            simp only [vrel]
            exact ⟨_, rfl, vrels_one (by simp only [vrel])⟩
          · rw [hleft] at hx
            obtain ⟨p, hp', p2, p3, p4⟩ := mrel_mem hfil x (by simpa using hx)
            have hp := tpf.mem_iff.2 hp'
            have hs0 : p.2.2 ∈ olds := by
              have h1 := (List.mem_filter.1 hp).1
              simpa using List.all_eq_true.1 hall _ h1
            have hrs : (.tuple [.bool true, p.1, p.2.1], h.set b (some (.iter (some m) olds (seen ++ [p.2.2]) ls))) ∈ rs := by
              split at q
              · rename_i hf
                rw [hf] at hp
                cases hp
              · cases q
                exact List.mem_map.2 ⟨p, hp, rfl⟩
            have R1 : Rel w0 e h w1 := by
              rcases hw1 with rfl | rfl
              · exact R
              · exact R.drew
            have hlt1 := (R1.new _ _ hkb).2
            refine ⟨_, hrs, _, _, hrun, ?_, ?_⟩
            · simp only [vrel]
              exact ⟨[.bool true, x.key, x.val], rfl, vrels_cons.2 ⟨_, _, rfl, by simp only [vrel], vrels_cons.2 ⟨_, _, rfl, p2, vrels_one p3⟩⟩⟩
            · refine R1.upd (w' := w1.putObj kb _) hkb hfz hg (grownBy_putObj' _ _ _) ?_
              rw [World.putObj_heap_same hlt1]
              refine ⟨some km, since, seen' ++ [x.born], since, by simp, (fun hh => nomatch hh), fun r' hr => by cases hr; exact ⟨km, hkm, rfl⟩, srel_snoc r4 p4, r5, r6, ?_, t5, ?_, r10⟩
              · rfl
              · intro s hs
                rcases List.mem_append.1 hs with hs | hs
                · exact r9 s hs
                · simp at hs; subst hs; exact hs0
      · cases q
    · cases q
  · cases q
end
/-- How far in its block a slice stands whose capacity is not known. -/
def endC (sl : Nat) : Cap → Option Nat
  | .upto q _ => some q
  | .tail q => cond (Nat.beq sl 0) (some q) none
  | .exact _ => none
/-- An append to a slice that stands in the midst of its array: in place, or into a new array. -/
def appForkN (P : Program) (h : H) (ats : Array TypeId) (s x : V) : OutL (V × H) :=
  match ats[0]?, ats[1]? with
  | some st, some xt => (match P.underlying st, P.underlying xt with
    | some (.slice el), some d => (match sz P el, zer P el, P.info? el with
      | some size, some z, some i => (match newX P h d size z x with
        | some (n, new) => cond (Nat.blt 0 size && Nat.beq z.cells.length size && Nat.ble i.bytes 65536 && Nat.blt 0 i.bytes && new.all V.one && Nat.beq new.length (n * size)) (match s with
          | .slice (some (b, o)) sl c => (match endC sl c with
            | some q => cond (Nat.beq o (q * size) && Nat.ble (sl + n) 16777216 && Nat.blt 0 n) (match h.getW b with
              | some (.cells l t (some s')) => cond (Nat.beq s' size && Nat.beq t el && Nat.ble (o + sl * size) l.length)
                  (some [(.slice (some (b, o)) (sl + n) (.upto q (sl + n)), h.set b (some (.cells (l.take (o + sl * size) ++ new ++ l.drop (o + sl * size + n * size)) t (some s')))),
                    (.slice (some (h.nxt, 0)) (sl + n) (.upto 0 (sl + n)), h.new (.cells ((l.drop o).take (sl * size) ++ new) el (some size)))]) none
              | _ => none) none
            | none => none)
          | _ => none) none
        | none => none)
      | _, _, _ => none)
    | _, _ => none)
  | _, _ => none
section
variable {P : Program} {w0 w : World} {e : E} {h : H}
theorem endC_some {sl q b o : Nat} {c : Cap} {v : Value} (hc : endC sl c = some q) (hv : vrel e (.slice (some (b, o)) sl c) v) : ∃ k C a, e.ρ b = some k ∧ e.κ b = some C ∧ q + sl ≤ C ∧ (q < C → a = ⟨k, o, none⟩) ∧ v = .slice (some a) sl (C - q) := by
  cases c with
  | exact c => cases hc
  | upto q' m =>
    cases hc
    simp only [vrel] at hv
    obtain ⟨k, C, h1, h2, ⟨h3, h4⟩, rfl⟩ := hv
    exact ⟨k, C, _, h1, h2, by omega, fun _ => rfl, rfl⟩
  | tail q' =>
    unfold endC at hc
    cases hb : Nat.beq sl 0 with
    | false => rw [hb] at hc; cases hc
    | true =>
      rw [hb] at hc
      cases hc
      simp only [vrel] at hv
      obtain ⟨rfl, k, C, a, h1, h2, h3, h4, rfl⟩ := hv
      exact ⟨k, C, a, h1, h2, h3, h4, rfl⟩
theorem run_appForkN (R : Rel w0 e h w) {ats : Array TypeId} {ty : Nat} {s x : V} {s' x' : Value} {rs : List (V × H)} (hs' : vrel e s s') (hx : vrel e x x') (q : appForkN P h ats s x = some rs) :
    ∃ r ∈ rs, ∃ e' w' z, (Builtin.append_ ats ty #[s', x']).run P w = .ok z w' ∧ e.le e' ∧ vrel e' r.1 z ∧ Rel w0 e' r.2 w' := by
  unfold appForkN at q
  split at q
  · rename_i st xt h0 h1
    split at q
    · rename_i el d hu hd
      split at q
      · rename_i size z i hs hz hi
        split at q
        · rename_i n new hnew
          cases hc : (Nat.blt 0 size && Nat.beq z.cells.length size && Nat.ble i.bytes 65536 && Nat.blt 0 i.bytes && new.all V.one && Nat.beq new.length (n * size)) with
          | false => rw [hc] at q; cases q
          | true =>
            rw [hc] at q
            simp only [cond_true] at q
            simp only [Bool.and_eq_true] at hc
            obtain ⟨⟨⟨⟨⟨c1, c2⟩, c3⟩, c4⟩, c5⟩, c6⟩ := hc
            have c1 : 0 < size := Nat.le_of_ble_eq_true c1
            have c2 := Nat.eq_of_beq_eq_true c2
            have c3 := Nat.le_of_ble_eq_true c3
            have c4 : 0 < i.bytes := Nat.le_of_ble_eq_true c4
            have c6 := Nat.eq_of_beq_eq_true c6
            obtain ⟨it, z', g1, g2, g3⟩ := zer_info hz
            rw [hi] at g1
            cases g1
            have hzsz : z'.cells.size = size := by
              have := vrels_len (vrel_cells (toV_junk 12 z' z g3) (toV_rel (e := e) 12 z' z g3))
              simpa [c2] using this
            obtain ⟨vs, A, hvr⟩ := run_newX (P := P) (ty := ty) R h0 h1 hu hd hs c1 hi g2 g3 c3 (by omega) hzsz hx hnew
            have hvl := vrels_len hvr
            split at q
            · rename_i b o sl c
              split at q
              · rename_i qq hec
                obtain ⟨k, C, a, hk, hC, hcl, hap, rfl⟩ := endC_some hec hs'
                cases hc1 : (Nat.beq o (qq * size) && Nat.ble (sl + n) 16777216 && Nat.blt 0 n) with
                | false => rw [hc1] at q; cases q
                | true =>
                  rw [hc1] at q
                  simp only [cond_true] at q
                  simp only [Bool.and_eq_true] at hc1
                  have ho := Nat.eq_of_beq_eq_true hc1.1.1
                  have hne := Nat.le_of_ble_eq_true hc1.1.2
                  have hn0 : 0 < n := Nat.le_of_ble_eq_true hc1.2
                  subst ho
                  split at q
                  · rename_i l t s2 hb
                    obtain ⟨_, hb⟩ := H.getW_some hb
                    cases hc2 : (Nat.beq s2 size && Nat.beq t el && Nat.ble (qq * size + sl * size) l.length) with
                    | false => rw [hc2] at q; cases q
                    | true =>
                      rw [hc2] at q
                      cases q
                      simp only [Bool.and_eq_true] at hc2
                      obtain ⟨⟨d1, d2⟩, d3⟩ := hc2
                      have d1 := Nat.eq_of_beq_eq_true d1
                      have d2 := Nat.eq_of_beq_eq_true d2
                      subst d1 d2
                      have d3 := Nat.le_of_ble_eq_true d3
                      obtain ⟨cs, rest, t1, t2, _, t4⟩ := R.cells hb hk
                      obtain ⟨C', t5, t6⟩ := t4 s2 rfl
                      rw [hC] at t5
                      cases t5
                      have lcs := vrels_len t2
                      by_cases hfit : sl + n ≤ C - qq
                      · have hq : qq < C := by omega
                        have := hap hq
                        subst this
                        have hroom : qq * s2 + sl * s2 + n * s2 ≤ (cs ++ rest).length := by
                          rw [t6, ← Nat.add_mul, ← Nat.add_mul]
                          exact Nat.mul_le_mul_right _ (by omega)
                        have hst := run_storeCells_at P k (qq * s2 + sl * s2) t vs 0 ⟨cs ++ rest⟩ w t1 (by
                          show qq * s2 + sl * s2 + 0 + vs.length ≤ (cs ++ rest).length
                          rw [hvl, c6]
                          omega) (one_cells c5 hvr)
                        simp only [Nat.add_zero] at hst
                        have happ := A.fit (some ⟨k, qq * s2, none⟩) _ _ hfit
                        simp only [addr_add, hst, Result.andThen_ok] at happ
                        refine ⟨_, List.mem_cons_self, e, _, _, happ, E.le.refl e, ?_, ?_⟩
                        · simp only [vrel]
                          exact ⟨k, C, hk, hC, ⟨by omega, Nat.le_refl _⟩, rfl⟩
                        · refine R.upd hk trivial hb (grown_setRow _ _ _) ?_
                          rw [setRow_heap w k _ _ t (0, 0) t1]
                          refine ⟨cs.take (qq * s2 + sl * s2) ++ vs ++ cs.drop (qq * s2 + sl * s2 + n * s2), rest.drop (qq * s2 + sl * s2 + n * s2 - cs.length), C, ?_, vrels_append (vrels_append (vrels_take _ t2) hvr) (vrels_drop _ t2), hC, ?_⟩
                          · have e1 : vs.length = n * s2 := by rw [hvl, c6]
                            rw [List.take_append_of_le_length (by omega), List.drop_append, e1]
                            simp only [List.append_assoc]
                          · have e1 : vs.length = n * s2 := by rw [hvl, c6]
                            rw [List.length_append] at hroom t6
                            simp only [List.length_append, List.length_take, List.length_drop, e1]
                            omega
                      · obtain ⟨C1, rest1, k1, k2, k3⟩ := A.grow (some a) sl (C - qq) ((cs.drop (qq * s2)).take (sl * s2)) hfit hne (fun w2 hw => by
                          by_cases hsl : sl = 0
                          · subst hsl
                            simp [Builtin.firstCells, loadCells, loadCellsFrom]
                          · have := hap (by omega)
                            subst this
                            have h1' : w2.heap[k]? = some (.cells ⟨cs ++ rest⟩ t (0, 0)) := (heap_drew hw k).trans t1
                            have := run_loadCells_list (P := P) (w := w2) ⟨k, qq * s2, none⟩ ((cs.drop (qq * s2)).take (sl * s2)) (fun j v hj => by
                              rw [addr_add]
                              rw [List.getElem?_take] at hj
                              split at hj
                              · rw [List.getElem?_drop] at hj
                                simp only [World.cell?, h1']
                                have hjl := (List.getElem?_eq_some_iff.1 hj).1
                                simpa [List.getElem?_append_left hjl] using hj
                              · cases hj)
                            rw [List.length_take, List.length_drop, Nat.min_eq_left (by omega)] at this
                            exact this)
                        have hle : e.le (e.bind h.nxt (some w.heap.size) (some C1)) := E.bind_le R.rn R.kn R.ll
                        have ho2 : vrels e ((l.drop (qq * s2)).take (sl * s2)) ((cs.drop (qq * s2)).take (sl * s2)) := vrels_take _ (vrels_drop _ t2)
                        refine ⟨_, List.mem_cons_of_mem _ List.mem_cons_self, _, _, _, k3, hle, ?_, R.made (c := some C1) (grown_drew_alloc w _) (Nat.le_refl _) (by rw [World.size_alloc]; exact Nat.lt_succ_self _) ?_⟩
                        · simp only [vrel]
                          exact ⟨w.heap.size, C1, E.bind_ρ _ _ _ _, E.bind_κ _ _ _ _, ⟨by omega, Nat.le_refl _⟩, by simp⟩
                        · rw [drew_alloc_new]
                          refine ⟨(cs.drop (qq * s2)).take (sl * s2) ++ vs, rest1, C1, rfl, vrels_append (vrels_mono hle _ _ ho2) (vrels_mono hle _ _ hvr), E.bind_κ _ _ _ _, ?_⟩
                          rw [List.length_append, List.length_append, k2, hvl, c6, hzsz, Nat.sub_mul, Nat.add_mul, List.length_take, List.length_drop, Nat.min_eq_left (by omega)]
                          have : (sl + n) * s2 ≤ C1 * s2 := Nat.mul_le_mul_right _ k1
                          rw [Nat.add_mul] at this
                          omega
                  · cases q
              · cases q
            · cases q
        · cases q
      · cases q
    · cases q
  · cases q
end
end Go.Proofs.YtjngkcnanhnopaaGreatDoor.Ev

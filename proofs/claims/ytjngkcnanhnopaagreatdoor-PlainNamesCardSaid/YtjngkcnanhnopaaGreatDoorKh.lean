import Derived.Test.YtjngkcnanhnopaaGreatDoorKg
/-! The evaluator: operations that make a block; stores. -/
namespace Go.Proofs.YtjngkcnanhnopaaGreatDoor.Ev
open Go Go.RowKit
set_option linter.unusedVariables false
set_option linter.unusedSimpArgs false

theorem flat_get {α : Type} (z : List α) : ∀ (n i : Nat), i < n * z.length → (List.replicate n z).flatten[i]? = z[i % z.length]?
  | 0, i, h => by simp at h
  | n + 1, i, h => by
    simp only [List.replicate_succ, List.flatten_cons, List.getElem?_append]
    split
    · rename_i hi
      rw [Nat.mod_eq_of_lt hi]
    · rename_i hi
      have hz : 0 < z.length := Nat.pos_of_ne_zero (fun e => by rw [e] at h; simp at h)
      rw [flat_get z n (i - z.length) (by rw [Nat.add_mul] at h; omega)]
      rw [Nat.mod_eq_sub_mod (by omega : i ≥ z.length)]
theorem flat_len {α : Type} (z : List α) (n : Nat) : (List.replicate n z).flatten.length = n * z.length := by simp [List.length_flatten]
theorem zero_cells (n : Nat) (z : Array Value) : ((Array.range (n * z.size)).map (fun i => z[i % z.size]!)).toList = (List.replicate n z.toList).flatten := by
  apply List.ext_getElem?
  intro i
  by_cases hi : i < n * z.size
  · have hz : 0 < z.size := Nat.pos_of_ne_zero (fun e => by rw [e] at hi; simp at hi)
    have hm : i % z.size < z.size := Nat.mod_lt _ hz
    rw [flat_get z.toList n i (by simpa using hi)]
    simp [hi, hm]
  · rw [List.getElem?_eq_none (by simpa using hi), List.getElem?_eq_none (by rw [flat_len]; simpa using hi)]
theorem mrel_stamp {e : E} : ∀ {es : List (V × V × Nat)} {l : List MapEntry}, mrel e es l → ∀ s ∈ es.map (fun e => e.2.2), ∃ x ∈ l, e.κ s = some x.born
  | [], _, _, s, hs => by cases hs
  | (k, v, s0) :: es, _, ⟨x, r, h1, _, _, h4, h5⟩, s, hs => by
    subst h1
    simp only [List.map_cons, List.mem_cons] at hs
    rcases hs with rfl | hs
    · exact ⟨x, by simp, h4⟩
    · obtain ⟨y, hy, hk⟩ := mrel_stamp h5 s hs
      exact ⟨y, by simp [hy], hk⟩
theorem mrel_inj {e : E} : ∀ {es : List (V × V × Nat)} {l : List MapEntry} {s s' : Nat}, mrel e es l → (l.map (·.born)).Nodup → s ∈ es.map (fun e => e.2.2) → s' ∈ es.map (fun e => e.2.2) → e.κ s = e.κ s' → s = s'
  | [], _, s, s', _, _, hs, _, _ => by cases hs
  | (k, v, s0) :: es, _, s, s', ⟨x, r, h1, _, _, h4, h5⟩, hd, hs, hs', hq => by
    subst h1
    simp only [List.map_cons, List.nodup_cons] at hd
    simp only [List.map_cons, List.mem_cons] at hs hs'
    rcases hs with rfl | hs <;> rcases hs' with rfl | hs'
    · rfl
    · obtain ⟨y, hy, hk⟩ := mrel_stamp h5 s' hs'
      rw [h4, hk] at hq
      injection hq with hq
      exact absurd (by rw [hq]; exact List.mem_map_of_mem hy) hd.1
    · obtain ⟨y, hy, hk⟩ := mrel_stamp h5 s hs
      rw [h4, hk] at hq
      injection hq with hq
      exact absurd (by rw [← hq]; exact List.mem_map_of_mem hy) hd.1
    · exact mrel_inj h5 hd.2 hs hs' hq
section
variable {P : Program} {w0 w : World} {e : E} {h : H} {tm : Tr V} {a : Act}
theorem run_allocOp (R : Rel w0 e h w) {o : Oper} {ob : O} {mk : Nat → V} (hop : ∀ x ∈ o.op.operands.toList, ∀ v, evO tm x = some v → vrel e v (a.eval x)) (q : allocOp P h tm o.op = some (ob, mk)) :
    ∃ co x, (execOp a.eval o).run P w = .ok (.value x) (w.alloc co) ∧ (∀ e' b, e.sub e' → e'.ρ b = some w.heap.size → vrel e' (mk b) x) ∧ (∀ e' b, e.sub e' → orel e' b ob (some co)) := by
  obtain ⟨dst, op, ty, pos, aft, gd⟩ := o
  cases op
  all_goals try (simp only [allocOp] at q; cases q; done)
  all_goals simp only [allocOp] at q
  case alloc t =>
    split at q
    · rename_i z hz
      cases q
      obtain ⟨z', h1, h2, h3⟩ := run_zer (w := w) hz
      refine ⟨.cells z'.cells t, .pointer (some ⟨w.heap.size, 0, none⟩), ?_, ?_, ?_⟩
      · simp [execOp, Instr.alloc, h1, newVar, newRow]
      · intro e' b _ hb
        simp only [vrel]
        exact ⟨_, hb, rfl⟩
      · intro e' b _
        exact ⟨z'.cells.toList, rfl, vrel_cells (toV_junk 12 z' z h2) (h3 e')⟩
    · cases q
  case box t x =>
    split at q
    · cases q
    · rename_i v hj hx
      cases q
      have hv := hop x (by simp [Op.operands]) _ hx
      refine ⟨.cells (a.eval x).cells t, .pointer (some ⟨w.heap.size, 0, none⟩), ?_, ?_, ?_⟩
      · simp [execOp, Instr.box, newVar, newRow]
      · intro e' b _ hb
        simp only [vrel]
        exact ⟨_, hb, rfl⟩
      · intro e' b hle
        exact ⟨(a.eval x).cells.toList, rfl, vrel_cells (fun e1 => hj e1) (vrel_sub hle _ _ hv)⟩
    · cases q
  case buildSlice t len parts =>
    split at q
    · rename_i el hu
      split at q
      · rename_i s z ps hs hz hps
        cases h00 : Nat.beq len 0 with
        | true =>
          rw [h00] at q
          simp only [cond_true] at q
          have := Nat.eq_of_beq_eq_true h00
          subst this
          split at q
          · cases q
            have hpr := evP_rel (e := e) (a := a) (l := parts.toList) (fun x hx => hop x (by simpa [Op.operands] using hx)) hps
            have hpr : (parts.toList.map fun p => (p.1, a.eval p.2)) = [] := hpr
            have hp0 : (parts.map fun p => (p.1, a.eval p.2)).toList = [] := by simpa using hpr
            have hr0 : Array.range 0 = #[] := rfl
            refine ⟨.cells #[] el, .slice (some ⟨w.heap.size, 0, none⟩) 0 0, ?_, ?_, ?_⟩
            · simp only [execOp, Instr.buildSlice, Sem.run_bind, run_underlying hu, Result.andThen_ok, run_sz hs, Sem.run_ite]
              simp [hr0, Instr.fill, newRow] at hp0 ⊢
              simp [hp0, Instr.fill, newRow]
            · intro e' b _ hb
              simp only [vrel]
              exact ⟨_, hb, rfl⟩
            · intro e' b hle
              exact ⟨[], rfl, vrels_nil.2 rfl⟩
          · cases q
        | false =>
        rw [h00] at q
        simp only [cond_false] at q
        cases h1 : Nat.ble (len * s) 16777216 with
        | false => rw [h1] at q; cases q
        | true =>
          cases h2 : Nat.blt 0 (len * s) with
          | false => rw [h1, h2] at q; cases q
          | true =>
            rw [h1, h2] at q
            simp only [cond_true] at q
            split at q
            · rename_i cs hcs
              cases h3 : Nat.beq z.cells.length s with
              | false => rw [h3] at q; cases q
              | true =>
                rw [h3] at q
                cases q
                have h1 := Nat.le_of_ble_eq_true h1
                have h2 : 0 < len * s := Nat.le_of_ble_eq_true h2
                have h3 := Nat.eq_of_beq_eq_true h3
                obtain ⟨z', r1, r2, r3⟩ := run_zer (w := w) hz
                have rz := vrel_cells (toV_junk 12 z' z r2) (r3 e)
                have lz := vrels_len rz
                have hpr := evP_rel (e := e) (a := a) (l := parts.toList) (fun x hx => hop x (by simpa [Op.operands] using hx)) hps
                have hzs : z'.cells.size = s := by simpa [h3] using lz
                have hzc := zero_cells len z'.cells
                rw [hzs] at hzc
                obtain ⟨r', r4, r5⟩ := run_fillV ps (parts.map fun p => (p.1, a.eval p.2)).toList (replV len z.cells) ((Array.range (len * s)).map (fun i => z'.cells[i % s]!)) cs (by simpa using hpr) (by
                  rw [hzc]
                  exact vrels_flat rz) hcs
                refine ⟨.cells r' el, .slice (some ⟨w.heap.size, 0, none⟩) len len, ?_, ?_, ?_⟩
                · simp only [execOp, Instr.buildSlice, Sem.run_bind, run_underlying hu, Result.andThen_ok, run_sz hs, Sem.run_ite]
                  rw [if_neg (by simp; omega), if_neg (by omega)]
                  simp [r1, hzs] at r4 ⊢
                  simp [r4, newRow]
                · intro e' b _ hb
                  simp only [vrel]
                  exact ⟨_, hb, rfl⟩
                · intro e' b hle
                  exact ⟨r'.toList, rfl, vrels_sub hle _ _ r5⟩
            · cases q
      · cases q
    · cases q
  case makeMap t r =>
    have fin : ∀ (x : Value), x = .map (some w.heap.size) → (∀ e' b, e.sub e' → e'.ρ b = some w.heap.size → vrel e' (.map (some b)) x) ∧ (∀ e' b, e.sub e' → orel e' b (.map [] none) (some (.map #[] 0))) := by
      intro x hx
      subst hx
      refine ⟨fun e' b _ hb => by simp only [vrel]; exact ⟨_, hb, rfl⟩, fun e' b _ => ⟨[], 0, [], rfl, List.Perm.refl _, rfl, by simp, by simp, rfl⟩⟩
    split at q
    · cases q
      exact ⟨.map #[] 0, .map (some w.heap.size), by simp [execOp, Instr.makeMap], fin _ rfl⟩
    · rename_i x
      split at q
      · rename_i k n hu hx
        cases q
        have hv := hop x (by simp [Op.operands]) _ hx
        simp only [vrel] at hv
        exact ⟨.map #[] 0, .map (some w.heap.size), by simp [execOp, Instr.makeMap, hv, run_underlying hu, asInt, asIntOf], fin _ rfl⟩
      · cases q
  case makeSlice t l c =>
    split at q
    · rename_i el k1 n k2 m hu hl hc
      split at q
      · rename_i s z i hs hz hi
        cases h1 : Nat.blt 0 s with
        | false => rw [h1] at q; cases q
        | true =>
          cases h3 : Nat.beq z.cells.length s with
          | false => rw [h1, h3] at q; cases q
          | true =>
            rw [h1, h3] at q
            simp only [cond_true] at q
            split at q
            · rename_i hn
              cases q
              have h1 : 0 < s := Nat.le_of_ble_eq_true h1
              have h3 := Nat.eq_of_beq_eq_true h3
              obtain ⟨z', r1, r2, r3⟩ := run_zer (w := w) hz
              have rz := vrel_cells (toV_junk 12 z' z r2) (r3 e)
              have lz := vrels_len rz
              have hzs : z'.cells.size = s := by simpa [h3] using lz
              have hvl := hop l (by simp [Op.operands]) _ hl
              have hvc := hop c (by simp [Op.operands]) _ hc
              simp only [vrel] at hvl hvc
              have hzc := zero_cells m.toNat z'.cells
              rw [hzs] at hzc
              have w1 : IntKind.wrap .i64 n = n := by rw [IntKind.wrap_i64]; omega
              have w2 : IntKind.wrap .i64 m = m := by rw [IntKind.wrap_i64]; omega
              have hb : (i.bytes : Int) * m ≤ 65536 * 16777216 := by
                have : (i.bytes : Int) ≤ 65536 := by omega
                exact Int.mul_le_mul this (by omega) (by omega) (by omega)
              have ht1 : (decide (m < 0) || decide ((i.bytes : Int) * m > 2 ^ 48)) = false := by
                simp only [Bool.or_eq_false_iff, decide_eq_false_iff_not]
                omega
              refine ⟨.cells ((Array.range (m.toNat * s)).map (fun j => z'.cells[j % s]!)) el, .slice (some ⟨w.heap.size, 0, none⟩) n.toNat m.toNat, ?_, ?_, ?_⟩
              · simp only [execOp, Instr.makeSlice, Sem.run_bind, run_underlying hu, Result.andThen_ok, hvl, hvc, asInt, asIntOf, Sem.run_pure, typeInfo, run_program, hi, w1, w2, ht1, Bool.false_or]
                rw [if_neg (by simp; omega)]
                simp only [Sem.run_bind, Sem.run_pure, Result.andThen_ok, run_askRoom, run_sz hs, Sem.run_ite]
                by_cases hz0 : m.toNat * s = 0
                · have hr0 : Array.range 0 = #[] := rfl
                  simp [hz0, newRow, hr0]
                · rw [if_neg hz0]
                  simp [r1, hzs, newRow]
              · intro e' b _ hb
                simp only [vrel]
                exact ⟨_, hb, rfl⟩
              · intro e' b hle
                refine ⟨(List.replicate m.toNat z'.cells.toList).flatten, ?_, vrels_flat (vrels_sub hle _ _ rz)⟩
                rw [← hzc]
            · cases q
      · cases q
    · cases q
  case range t x =>
    split at q
    · rename_i hu hx
      cases q
      have hv := hop x (by simp [Op.operands]) _ hx
      simp only [vrel] at hv
      refine ⟨.mapIter none 0 #[] 0, .pointer (some ⟨w.heap.size, 0, none⟩), by simp [execOp, Instr.range, hv, run_underlying hu], fun e' b _ hb => by simp only [vrel]; exact ⟨_, hb, rfl⟩, fun e' b _ => ?_⟩
      exact ⟨none, 0, [], 0, rfl, fun _ => rfl, (fun r hr => nomatch hr), rfl, (fun s hs => nomatch hs), (fun s hs => nomatch hs), rfl, rfl, (fun s hs => nomatch hs), (fun s hs => nomatch hs)⟩
    · rename_i r hu hx
      split at q
      · rename_i es ls hg
        cases q
        have hv := hop x (by simp [Op.operands]) _ hx
        simp only [vrel] at hv
        obtain ⟨k, hk, hv⟩ := hv
        obtain ⟨l, clk, es', h1, hperm, h2, h3, h4, h5⟩ := R.map hg hk
        have hst : ∀ s, s ∈ es.map (fun e => e.2.2) → s ∈ es'.map (fun e => e.2.2) := fun s hs => (hperm.map _).mem_iff.1 hs
        refine ⟨.mapIter (some k) clk #[] clk, .pointer (some ⟨w.heap.size, 0, none⟩), by simp [execOp, Instr.range, hv, run_underlying hu, run_getMap (P := P) h1], fun e' b _ hb => by simp only [vrel]; exact ⟨_, hb, rfl⟩, fun e' b hle => ?_⟩
        refine ⟨some k, clk, [], clk, rfl, (fun hh => nomatch hh), fun r' hr => by cases hr; exact ⟨k, hle.ρ _ _ hk, rfl⟩, rfl, fun s hs n hn => ?_, fun s hs => ?_, rfl, crel_sub hle h5, (fun s hs => nomatch hs), fun s hs s' hs' hq => ?_⟩
        · obtain ⟨y, hy, hky⟩ := mrel_stamp h2 s (hst s hs)
          have := hle.κ _ _ hky
          rw [this] at hn
          cases hn
          exact h3 y hy
        · obtain ⟨y, hy, hky⟩ := mrel_stamp h2 s (hst s hs)
          exact ⟨_, hle.κ _ _ hky⟩
        · obtain ⟨y, hy, hky⟩ := mrel_stamp h2 s (hst s hs)
          obtain ⟨y', hy', hky'⟩ := mrel_stamp h2 s' (hst s' hs')
          refine mrel_inj h2 h4 (hst s hs) (hst s' hs') ?_
          rw [hle.κ _ _ hky, hle.κ _ _ hky'] at hq
          rw [hky, hky', hq]
      · cases q
    · cases q
/-! Stores. -/
def V.one : V → Bool
  | .agg _ => false
  | .tuple _ => false
  | .junk => false
  | _ => true
theorem one_cell {x : V} {v : Value} (h1 : x.one = true) (hv : vrel e x v) : v.oneCell' = true := by
  cases x with
  | agg c => cases h1
  | tuple c => cases h1
  | junk => cases h1
  | ptr a => obtain ⟨_, rfl, _⟩ := ptr_inv hv; rfl
  | slice a n c => obtain ⟨_, _, rfl, _⟩ := slice_inv hv; rfl
  | map r => obtain ⟨_, rfl, _⟩ := map_inv hv; rfl
  | func fn f c => simp only [vrel] at hv; obtain ⟨_, _, rfl, _⟩ := hv; rfl
  | yield l => simp only [vrel] at hv; obtain ⟨_, _, rfl⟩ := hv; rfl
  | iface t y => simp only [vrel] at hv; obtain ⟨_, rfl, _⟩ := hv; rfl
  | stamp s => simp only [vrel] at hv; obtain ⟨_, _, rfl⟩ := hv; rfl
  | _ => simp only [vrel] at hv; subst hv; rfl
theorem one_cells : ∀ {l : List V} {vs : List Value}, l.all V.one = true → vrels e l vs → ∀ v ∈ vs, v.oneCell' = true
  | [], _, _, hv, v, hm => by rw [vrels_nil.1 hv] at hm; cases hm
  | x :: l, _, h1, hv, v, hm => by
    obtain ⟨y, r, rfl, h2, h3⟩ := vrels_cons.1 hv
    simp only [List.all_cons, Bool.and_eq_true] at h1
    rcases List.mem_cons.1 hm with rfl | hm
    · exact one_cell h1.1 h2
    · exact one_cells h1.2 h3 v hm
def storeN (h : H) (a : Nat × Nat) (vs : List V) : Option H :=
  match h.getW a.1 with
  | some (.cells l t opn) => cond (Nat.ble (a.2 + vs.length) l.length) (cond (vs.all V.one) (some (h.set a.1 (some (.cells (setR l a.2 vs) t opn)))) none) none
  | _ => none
theorem grown_setRow (w : World) (g : Nat) (cs : Array Value) : w.grownBy (w.setRow g cs) (some g) :=
  ⟨rfl, rfl, rfl, by simp [World.setRow], fun k _ hk => by
    simp only [World.setRow, Array.getElem?_modify]
    rw [if_neg (fun e1 => hk (by rw [e1]))]⟩
theorem run_storeN (R : Rel w0 e h w) {a : Nat × Nat} {k : Nat} {vs : List V} {vs' : List Value} {h' : H} (hk : e.ρ a.1 = some k) (hv : vrels e vs vs') (q : storeN h a vs = some h') :
    ∃ w', (storeCells ⟨k, a.2, none⟩ vs').run P w = .ok () w' ∧ Rel w0 e h' w' := by
  unfold storeN at q
  split at q
  · rename_i l t opn hb
    obtain ⟨hfz, hb⟩ := H.getW_some hb
    cases h1 : Nat.ble (a.2 + vs.length) l.length with
    | false => rw [h1] at q; cases q
    | true =>
      cases h2 : vs.all V.one with
      | false => rw [h1, h2] at q; cases q
      | true =>
        rw [h1, h2] at q
        cases q
        have h1 := Nat.le_of_ble_eq_true h1
        obtain ⟨cs, rest, h3, h4, h5, h6⟩ := R.cells hb hk
        have l1 := vrels_len hv
        have l2 := vrels_len h4
        have hst := run_storeCells_at P k a.2 t vs' 0 ⟨cs ++ rest⟩ w h3 (by simp; omega) (one_cells h2 hv)
        simp only [Nat.add_zero] at hst
        refine ⟨_, hst, R.upd hk hfz hb (grown_setRow _ _ _) ?_⟩
        rw [setRow_heap w k _ _ t (0, 0) h3]
        have e1 : (cs ++ rest).take a.2 ++ vs' ++ (cs ++ rest).drop (a.2 + vs'.length) = setR cs a.2 vs' ++ rest := by
          unfold setR
          rw [List.take_append_of_le_length (by omega), List.drop_append_of_le_length (by omega)]
          simp
        refine Rel.cells_mk (k := 0) (vs := setR cs a.2 vs') (rest := rest) ?_ (vrels_setR a.2 h4 hv) h5 ?_
        · rw [← e1]
        · intro s hs
          obtain ⟨c, q1, q2⟩ := h6 s hs
          refine ⟨c, q1, ?_⟩
          rw [← q2, List.length_append, List.length_append, setR_len (by omega)]
  · cases q
end
end Go.Proofs.YtjngkcnanhnopaaGreatDoor.Ev

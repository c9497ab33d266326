import Derived.Test.YtjngkcnanhnopaaGreatDoorKj
/-! The evaluator: append. -/
namespace Go.Proofs.YtjngkcnanhnopaaGreatDoor.Ev
open Go Go.RowKit
set_option linter.unusedVariables false
set_option linter.unusedSimpArgs false

theorem growBy_le (need : Nat) : ∀ (r c : Nat), Builtin.growBy need r c ≤ max c (need + (need + 768) / 4)
  | 0, c => by simp [Builtin.growBy]; omega
  | r + 1, c => by
    unfold Builtin.growBy
    split
    · omega
    · have := growBy_le need r (c + (c + 768) / 4)
      omega
theorem nextcap_le {need c : Nat} (h : ¬ need ≤ c) : Builtin.nextslicecap need c ≤ 2 * need + 1000 := by
  unfold Builtin.nextslicecap
  split
  · omega
  · split
    · omega
    · have := growBy_le need 4 c
      omega
def isInt : TypeDesc → Bool
  | .int _ => true
  | _ => false
section
variable {P : Program} {w0 w : World} {e : E} {h : H}
theorem run_app_fit {ats : Array TypeId} {ty st xt el size n sl c : Nat} {d : TypeDesc} {base : Option Addr} {x' : Value} {new' : List Value} (h0 : ats[0]? = some st) (h1 : ats[1]? = some xt) (hu : P.underlying st = some (.slice el)) (hx : P.underlying xt = some d)
    (hd : isInt d = false) (hs : sz P el = some size) (hl : (Builtin.lenOf x').run P w = .ok n w) (hf : (Builtin.firstCells size n x').run P w = .ok ⟨new'⟩ w) (hn : sl + n ≤ c) :
    (Builtin.append_ ats ty #[.slice base sl c, x']).run P w = match base with
      | some a => ((storeCells (a.add (sl * size)) new').run P w).andThen (fun _ w' => .ok (.slice base (sl + n) c) w')
      | none => .ok (.slice none (sl + n) c) w := by
  have hz : ((match d with | .int _ => true | _ => false : Bool)) = false := by cases d <;> first | rfl | cases hd
  unfold Builtin.append_
  simp only [h0, h1, List.getElem?_toArray, List.getElem?_cons_zero, List.getElem?_cons_succ, Sem.run_bind, run_underlying hu, Result.andThen_ok, run_sz hs, run_underlying hx, Sem.run_pure]
  cases d <;> first
    | (cases hd; done)
    | (cases base with
       | none => simp [hl, hn, hf]
       | some a => simp [hl, hn, hf])
theorem run_app_grow {ats : Array TypeId} {ty st xt el size n sl c : Nat} {d : TypeDesc} {base : Option Addr} {x' : Value} {old' new' : List Value} {i : TypeInfo} {z : Value} (h0 : ats[0]? = some st) (h1 : ats[1]? = some xt) (hu : P.underlying st = some (.slice el)) (hx : P.underlying xt = some d)
    (hd : isInt d = false) (hs : sz P el = some size) (hi : P.info? el = some i) (hz : i.zero = some z) (hby : i.bytes ≤ 65536) (hby0 : i.bytes ≠ 0) (hne : sl + n ≤ 16777216)
    (hl : (Builtin.lenOf x').run P w = .ok n w) (hf : ∀ w2, w2 = w ∨ w2 = w.drew → (Builtin.firstCells size n x').run P w2 = .ok ⟨new'⟩ w2) (ho : ∀ w2, w2 = w ∨ w2 = w.drew → (Builtin.firstCells size sl (.slice base sl c)).run P w2 = .ok ⟨old'⟩ w2) (hn : ¬ sl + n ≤ c) :
    ∃ C rest, sl + n ≤ C ∧ rest.length = (C - (sl + n)) * z.cells.size ∧ (Builtin.append_ ats ty #[.slice base sl c, x']).run P w = .ok (.slice (some ⟨w.heap.size, 0, none⟩) (sl + n) C) (w.drew.alloc (.cells ⟨old' ++ new' ++ rest⟩ el)) := by
  refine ⟨Question.cut (.appendCap (sl + n) c el) (w.tape w.drawn (.appendCap (sl + n) c el)), (Builtin.zeroCells z.cells (Question.cut (.appendCap (sl + n) c el) (w.tape w.drawn (.appendCap (sl + n) c el)) - (sl + n))).toList, ?_, ?_, ?_⟩
  · simp [Question.cut]
  · simp [Builtin.zeroCells]
  · have hcap := nextcap_le hn
    have hmul : Builtin.nextslicecap (sl + n) c * i.bytes ≤ (2 * 16777216 + 1000) * 65536 := Nat.mul_le_mul (by omega) hby
    have hb : ¬ Builtin.nextslicecap (sl + n) c * i.bytes > 2 ^ 48 := by
      have : (2 ^ 48 : Nat) = 281474976710656 := by decide
      omega
    have hfw := hf w (.inl rfl)
    have hfd := hf w.drew (.inr rfl)
    have how := ho w.drew (.inr rfl)
    unfold Builtin.append_
    simp only [h0, h1, List.getElem?_toArray, List.getElem?_cons_zero, List.getElem?_cons_succ, Sem.run_bind, run_underlying hu, Result.andThen_ok, run_sz hs, run_underlying hx, Sem.run_pure]
    cases d <;> first
      | (cases hd; done)
      | (simp only [Bool.false_eq_true, if_false, hl, Result.andThen_ok, hn, Sem.run_ite, Sem.run_bind, typeInfo, run_program, hi, Sem.run_pure, hb, hby0, false_or, and_false, run_choose, Question.forced, run_askRoom, Bool.not_false, if_true]
         simp [how, hfd, zeroValue, typeInfo, hi, hz, newRow]
         congr 2
         apply Array.ext'
         simp)
def newCells (P : Program) (h : H) (size : Nat) (x : V) : Option (Nat × List V) :=
  match x with
  | .slice none m _ => cond (Nat.beq m 0) (some (0, [])) none
  | .slice (some p) m _ => cond (Nat.beq m 0) (some (0, [])) (match loadN h p (m * size) with
    | some l => some (m, l)
    | none => none)
  | .str s => some (s.length, s.map fun b => .int .u8 b.toNat)
  | _ => none
theorem loadN_drew (R : Rel w0 e h w) {a : Nat × Nat} {n k : Nat} {l : List V} (hk : e.ρ a.1 = some k) (q : loadN h a n = some l) :
    ∃ vs, (∀ w2, w2 = w ∨ w2 = w.drew → (loadCells ⟨k, a.2, none⟩ n).run P w2 = .ok ⟨vs⟩ w2) ∧ vrels e l vs := by
  obtain ⟨vs, cs, t, h1, h2, h3, h4, h5⟩ := loadN_vs R hk q
  refine ⟨vs, fun w2 hw => ?_, h5⟩
  have h1' : w2.heap[k]? = some (.cells ⟨cs⟩ t (0, 0)) := (heap_drew hw k).trans h1
  have := run_loadCells_list (P := P) (w := w2) ⟨k, a.2, none⟩ vs (fun j v hj => by
    rw [addr_add]
    rw [← h2, List.getElem?_take] at hj
    split at hj
    · rw [List.getElem?_drop] at hj
      simp only [World.cell?, h1']
      simpa using hj
    · cases hj)
  rw [h3] at this
  exact this
theorem run_newCells (R : Rel w0 e h w) {size n : Nat} {x : V} {x' : Value} {l : List V} (hx : vrel e x x') (q : newCells P h size x = some (n, l)) :
    ∃ vs, (∀ w2, w2 = w ∨ w2 = w.drew → (Builtin.lenOf x').run P w2 = .ok n w2 ∧ (Builtin.firstCells size n x').run P w2 = .ok ⟨vs⟩ w2) ∧ vrels e l vs := by
  unfold newCells at q
  split at q
  · rename_i m c
    cases hm : Nat.beq m 0 with
    | false => rw [hm] at q; cases q
    | true =>
      rw [hm] at q
      cases q
      have := Nat.eq_of_beq_eq_true hm
      subst this
      obtain ⟨a', c', rfl, ha⟩ := slice_inv hx
      cases a' with
      | some a => exact ⟨[], fun w2 _ => ⟨rfl, by simp [Builtin.firstCells, loadCells, loadCellsFrom]⟩, vrels_nil.2 rfl⟩
      | none => exact ⟨[], fun w2 _ => ⟨rfl, by simp [Builtin.firstCells]⟩, vrels_nil.2 rfl⟩
  · rename_i p m c
    have htl : ∀ tq, c = .tail tq → m = 0 ∧ ∃ a c', x' = .slice (some a) 0 c' := fun tq ht => by
      subst ht
      obtain ⟨b, o⟩ := p
      simp only [vrel] at hx
      obtain ⟨h0, k, c, a, _, _, _, _, h2⟩ := hx
      exact ⟨h0, a, _, h2⟩
    by_cases hisT : ∃ tq, c = .tail tq
    · obtain ⟨tq, ht⟩ := hisT
      obtain ⟨rfl, a, c', rfl⟩ := htl tq ht
      cases q
      exact ⟨[], fun w2 _ => ⟨rfl, by simp [Builtin.firstCells, loadCells, loadCellsFrom]⟩, vrels_nil.2 rfl⟩
    have hx' : ∃ k c', e.ρ p.1 = some k ∧ x' = .slice (some ⟨k, p.2, none⟩) m c' := by
      obtain ⟨b, o⟩ := p
      cases c with
      | tail tq => exact absurd ⟨tq, rfl⟩ hisT
      | exact c => simp only [vrel] at hx; obtain ⟨k, h1, h2⟩ := hx; exact ⟨k, _, h1, h2⟩
      | upto c m => simp only [vrel] at hx; obtain ⟨k, c, h1, _, _, h2⟩ := hx; exact ⟨k, _, h1, h2⟩
    obtain ⟨k, c', hk, rfl⟩ := hx'
    cases hm : Nat.beq m 0 with
    | true =>
      rw [hm] at q
      cases q
      have := Nat.eq_of_beq_eq_true hm
      subst this
      exact ⟨[], fun w2 _ => ⟨rfl, by simp [Builtin.firstCells, loadCells, loadCellsFrom]⟩, vrels_nil.2 rfl⟩
    | false =>
      rw [hm] at q
      simp only [cond_false] at q
      split at q
      · rename_i l' hl
        cases q
        obtain ⟨vs, h1, h2⟩ := loadN_drew (P := P) R hk hl
        exact ⟨vs, fun w2 hw => ⟨rfl, h1 w2 hw⟩, h2⟩
      · cases q
  · rename_i s
    cases q
    simp only [vrel] at hx
    subst hx
    refine ⟨s.map fun b => .int .u8 b.toNat, fun w2 _ => ⟨rfl, ?_⟩, ?_⟩
    · have hex := bytes_extract s 0 s.length
      simp at hex
      simp [Builtin.firstCells, hex]
    · have : ∀ l : List UInt8, vrels e (l.map fun b => V.int .u8 b.toNat) (l.map fun b => Value.int .u8 b.toNat) := by
        intro l
        induction l with
        | nil => exact vrels_nil.2 rfl
        | cons b l ih => exact vrels_cons.2 ⟨_, _, rfl, by simp only [vrel], ih⟩
      exact this s
  · cases q
/-- What is appended: elements; or so many zeros ('append(s, make(..)..)'). -/
def newX (P : Program) (h : H) (d : TypeDesc) (size : Nat) (z : V) (x : V) : Option (Nat × List V) :=
  match isInt d with
  | false => newCells P h size x
  | true => (match x with
    | .int _ m => if 0 ≤ m ∧ m ≤ 16777216 then some (m.toNat, (List.replicate m.toNat z.cells).flatten) else none
    | _ => none)
/-- What append does, whichever it is. -/
structure AppIs (P : Program) (w : World) (ats : Array TypeId) (ty el size n : Nat) (zs : Nat) (x' : Value) (vs : List Value) : Prop where
  fit : ∀ (base : Option Addr) (sl c : Nat), sl + n ≤ c → (Builtin.append_ ats ty #[.slice base sl c, x']).run P w = match base with
      | some a => ((storeCells (a.add (sl * size)) vs).run P w).andThen (fun _ w' => .ok (.slice base (sl + n) c) w')
      | none => .ok (.slice none (sl + n) c) w
  grow : ∀ (base : Option Addr) (sl c : Nat) (old' : List Value), ¬ sl + n ≤ c → sl + n ≤ 16777216 → (∀ w2, w2 = w ∨ w2 = w.drew → (Builtin.firstCells size sl (.slice base sl c)).run P w2 = .ok ⟨old'⟩ w2) →
    ∃ C rest, sl + n ≤ C ∧ rest.length = (C - (sl + n)) * zs ∧ (Builtin.append_ ats ty #[.slice base sl c, x']).run P w = .ok (.slice (some ⟨w.heap.size, 0, none⟩) (sl + n) C) (w.drew.alloc (.cells ⟨old' ++ vs ++ rest⟩ el))
theorem run_app_fitZ {ats : Array TypeId} {ty st xt el size sl c : Nat} {q : IntKind} {base : Option Addr} {k : IntKind} {m : Int} {i : TypeInfo} {z : Value} (h0 : ats[0]? = some st) (h1 : ats[1]? = some xt) (hu : P.underlying st = some (.slice el)) (hx : P.underlying xt = some (.int q))
    (hs : sz P el = some size) (hs0 : 0 < size) (hi : P.info? el = some i) (hz : i.zero = some z) (hby : i.bytes ≤ 65536) (hm0 : 0 ≤ m) (hm1 : m ≤ 16777216) (hzs : z.cells.size = size) (hn : sl + m.toNat ≤ c) :
    (Builtin.append_ ats ty #[.slice base sl c, .int k m]).run P w = match base with
      | some a => ((storeCells (a.add (sl * size)) (List.replicate m.toNat z.cells.toList).flatten).run P w).andThen (fun _ w' => .ok (.slice base (sl + m.toNat) c) w')
      | none => .ok (.slice none (sl + m.toNat) c) w := by
  have hw : IntKind.i64.wrap m = m := by rw [IntKind.wrap_i64]; omega
  have hl0 : ¬ m < 0 := by omega
  have hl1 : ¬ m * (i.bytes : Int) > 2 ^ 48 := by
    have : m * (i.bytes : Int) ≤ 16777216 * 65536 := Int.mul_le_mul hm1 (by omega) (by omega) (by omega)
    omega
  have hzc := zero_cells m.toNat z.cells
  unfold Builtin.append_
  simp only [h0, h1, List.getElem?_toArray, List.getElem?_cons_zero, List.getElem?_cons_succ, Sem.run_bind, run_underlying hu, Result.andThen_ok, run_sz hs, run_underlying hx, Sem.run_pure, asInt, asIntOf, hw, hl0, if_false, if_true, typeInfo, run_program, hi, hl1, Bool.not_true, Bool.false_eq_true, hn]
  have hzr : (zeroValue el).run P w = .ok z w := by simp [zeroValue, typeInfo, hi, hz]
  by_cases hmz : m.toNat * size = 0
  · have hmm : m.toNat = 0 := by rcases Nat.mul_eq_zero.1 hmz with h | h <;> omega
    cases base with
    | none => simp [hmm]
    | some a => simp [hmm, hmz]
  · cases base with
    | none => simp [hmz, hzr]
    | some a =>
      have he : (Builtin.zeroCells z.cells m.toNat).toList = (List.replicate m.toNat z.cells.toList).flatten := hzc
      simp [hmz, hzr, he]
theorem run_app_growZ {ats : Array TypeId} {ty st xt el size sl c : Nat} {q : IntKind} {base : Option Addr} {k : IntKind} {m : Int} {i : TypeInfo} {z : Value} {old' : List Value} (h0 : ats[0]? = some st) (h1 : ats[1]? = some xt) (hu : P.underlying st = some (.slice el)) (hx : P.underlying xt = some (.int q))
    (hs : sz P el = some size) (hs0 : 0 < size) (hi : P.info? el = some i) (hz : i.zero = some z) (hby : i.bytes ≤ 65536) (hby0 : i.bytes ≠ 0) (hm0 : 0 ≤ m) (hm1 : m ≤ 16777216) (hzs : z.cells.size = size) (hne : sl + m.toNat ≤ 16777216)
    (ho : ∀ w2, w2 = w ∨ w2 = w.drew → (Builtin.firstCells size sl (.slice base sl c)).run P w2 = .ok ⟨old'⟩ w2) (hn : ¬ sl + m.toNat ≤ c) :
    ∃ C rest, sl + m.toNat ≤ C ∧ rest.length = (C - (sl + m.toNat)) * z.cells.size ∧ (Builtin.append_ ats ty #[.slice base sl c, .int k m]).run P w = .ok (.slice (some ⟨w.heap.size, 0, none⟩) (sl + m.toNat) C) (w.drew.alloc (.cells ⟨old' ++ (List.replicate m.toNat z.cells.toList).flatten ++ rest⟩ el)) := by
  refine ⟨Question.cut (.appendCap (sl + m.toNat) c el) (w.tape w.drawn (.appendCap (sl + m.toNat) c el)), (Builtin.zeroCells z.cells (Question.cut (.appendCap (sl + m.toNat) c el) (w.tape w.drawn (.appendCap (sl + m.toNat) c el)) - (sl + m.toNat))).toList, ?_, ?_, ?_⟩
  · simp [Question.cut]
  · simp [Builtin.zeroCells]
  · have hcap := nextcap_le hn
    have hmul : Builtin.nextslicecap (sl + m.toNat) c * i.bytes ≤ (2 * 16777216 + 1000) * 65536 := Nat.mul_le_mul (by omega) hby
    have hb : ¬ Builtin.nextslicecap (sl + m.toNat) c * i.bytes > 2 ^ 48 := by
      have : (2 ^ 48 : Nat) = 281474976710656 := by decide
      omega
    have hw : IntKind.i64.wrap m = m := by rw [IntKind.wrap_i64]; omega
    have hl0 : ¬ m < 0 := by omega
    have hl1 : ¬ m * (i.bytes : Int) > 2 ^ 48 := by
      have : m * (i.bytes : Int) ≤ 16777216 * 65536 := Int.mul_le_mul hm1 (by omega) (by omega) (by omega)
      omega
    have hmx : ¬ ((sl + m.toNat : Nat) : Int) > IntKind.i64.max := by
      have : IntKind.i64.max = 9223372036854775807 := by decide
      omega
    have how := ho w.drew (.inr rfl)
    have hzc : (Builtin.zeroCells z.cells m.toNat).toList = (List.replicate m.toNat z.cells.toList).flatten := zero_cells m.toNat z.cells
    have hmz : ¬ m.toNat * size = 0 ∨ m.toNat = 0 := by
      by_cases h : m.toNat = 0
      · exact .inr h
      · exact .inl (fun h2 => by rcases Nat.mul_eq_zero.1 h2 with h3 | h3 <;> omega)
    unfold Builtin.append_
    simp only [h0, h1, List.getElem?_toArray, List.getElem?_cons_zero, List.getElem?_cons_succ, Sem.run_bind, run_underlying hu, Result.andThen_ok, run_sz hs, run_underlying hx, Sem.run_pure, asInt, asIntOf, hw, hl0, if_false, if_true, typeInfo, run_program, hi, hl1, Bool.not_true, Bool.false_eq_true, hn, hmx, false_and, Sem.run_ite, hb, run_choose, Question.forced, run_askRoom, how]
    have hzr : ∀ w2, (zeroValue el).run P w2 = .ok z w2 := fun w2 => by simp [zeroValue, typeInfo, hi, hz]
    rcases hmz with hmz | hmz
    · simp [hmz, newRow, how, hzr]
      congr 2
      apply Array.ext'
      simp [hzc]
    · simp [hmz, newRow, how, hzr]
      congr 2
      apply Array.ext'
      simp
theorem run_newX (R : Rel w0 e h w) {ats : Array TypeId} {ty st xt el size n : Nat} {d : TypeDesc} {i : TypeInfo} {z' : Value} {z x : V} {x' : Value} {l : List V} (h0 : ats[0]? = some st) (h1 : ats[1]? = some xt) (hu : P.underlying st = some (.slice el)) (hd : P.underlying xt = some d)
    (hs : sz P el = some size) (hs0 : 0 < size) (hi : P.info? el = some i) (hz : i.zero = some z') (hzr : toV 12 z' = some z) (hby : i.bytes ≤ 65536) (hby0 : i.bytes ≠ 0) (hzs : z'.cells.size = size) (hx : vrel e x x') (q : newX P h d size z x = some (n, l)) :
    ∃ vs, AppIs P w ats ty el size n z'.cells.size x' vs ∧ vrels e l vs := by
  unfold newX at q
  split at q
  · rename_i hdi
    obtain ⟨vs, hvs, hvr⟩ := run_newCells (P := P) R hx q
    exact ⟨vs, ⟨fun base sl c hn => run_app_fit h0 h1 hu hd hdi hs (hvs w (.inl rfl)).1 (hvs w (.inl rfl)).2 hn, fun base sl c old' hn hne hfo => run_app_grow h0 h1 hu hd hdi hs hi hz hby hby0 hne (hvs w (.inl rfl)).1 (fun w2 hw => (hvs w2 hw).2) hfo hn⟩, hvr⟩
  · rename_i hdi
    split at q
    · rename_i k m
      split at q
      · rename_i hm
        cases q
        obtain ⟨iq, rfl⟩ : ∃ iq, d = .int iq := by cases d <;> first | exact ⟨_, rfl⟩ | cases hdi
        simp only [vrel] at hx
        subst hx
        refine ⟨(List.replicate m.toNat z'.cells.toList).flatten, ⟨fun base sl c hn => run_app_fitZ h0 h1 hu hd hs hs0 hi hz hby hm.1 hm.2 hzs hn, fun base sl c old' hn hne hfo => run_app_growZ h0 h1 hu hd hs hs0 hi hz hby hby0 hm.1 hm.2 hzs hne hfo hn⟩, ?_⟩
        exact vrels_flat (vrel_cells (toV_junk 12 z' z hzr) (toV_rel 12 z' z hzr))
      · cases q
    · cases q
def appV (P : Program) (h : H) (ats : Array TypeId) (s x : V) : Option (V × H) :=
  match ats[0]?, ats[1]? with
  | some st, some xt => (match P.underlying st, P.underlying xt with
    | some (.slice el), some d => (match sz P el, zer P el, P.info? el with
      | some size, some z, some i => (match newX P h d size z x with
        | some (n, new) => cond (Nat.blt 0 size && Nat.beq z.cells.length size && Nat.ble i.bytes 65536 && Nat.blt 0 i.bytes && new.all V.one && Nat.beq new.length (n * size)) (match s with
          | .slice base sl (.exact c) => cond (Nat.ble (sl + n) c) (match base with
              | some p => (match storeN h (p.1, p.2 + sl * size) new with
                | some h' => some (.slice base (sl + n) (.exact c), h')
                | none => none)
              | none => some (.slice none (sl + n) (.exact c), h))
            (cond (Nat.ble (sl + n) 16777216) (match (match base with
                | some p => loadN h p (sl * size)
                | none => cond (Nat.beq sl 0) (some []) none) with
              | some old => some (.slice (some (h.nxt, 0)) (sl + n) (.upto 0 (sl + n)), h.new (.cells (old ++ new) el (some size)))
              | none => none) none)
          | .slice (some (b, o)) sl (.upto qq mm) => cond (Nat.beq n 0) (some (s, h)) (cond (Nat.ble (sl + n) mm) (match storeN h (b, o + sl * size) new with
              | some h' => some (.slice (some (b, o)) (sl + n) (.upto qq mm), h')
              | none => none)
            (cond (Nat.beq o 0 && Nat.beq qq 0) (match h.getW b with
            | some (.cells l t (some s')) => cond (Nat.beq s' size && Nat.beq t el && Nat.ble (sl * size) l.length && Nat.ble (sl + n) 16777216)
                (some (.slice (some (h.nxt, 0)) (sl + n) (.upto 0 (sl + n)), (h.set b none).new (.cells (l.take (sl * size) ++ new) el (some size)))) none
            | _ => none) none))
          | .slice none _ (.upto _ _) => cond (Nat.beq n 0) (some (s, h)) none
          | .slice (some _) _ (.tail _) => cond (Nat.beq n 0) (some (s, h)) none
          | _ => none) none
        | none => none)
      | _, _, _ => none)
    | _, _ => none)
  | _, _ => none
theorem grown_drew_alloc (w : World) (o : Obj) : w.grownBy (w.drew.alloc o) none :=
  ⟨rfl, rfl, rfl, by rw [World.size_alloc]; exact Nat.le_succ _, fun k hk _ => Below.heap_alloc w.drew o k hk⟩
theorem drew_alloc_new (w : World) (o : Obj) : (w.drew.alloc o).heap[w.heap.size]? = some o := World.alloc_heap_new w.drew o
theorem run_appV (R : Rel w0 e h w) {ats : Array TypeId} {ty : Nat} {s x v : V} {s' x' : Value} {h' : H} (hs' : vrel e s s') (hx : vrel e x x') (q : appV P h ats s x = some (v, h')) :
    ∃ e' w' z, (Builtin.append_ ats ty #[s', x']).run P w = .ok z w' ∧ e.le e' ∧ vrel e' v z ∧ Rel w0 e' h' w' := by
  unfold appV at q
  split at q
  · rename_i st xt h0 h1
    split at q
    · rename_i el d hu hd
      split at q
      · rename_i size z i hs hz hi
        split at q
        · rename_i n new hnew
          cases hc : (Nat.blt 0 size && Nat.beq z.cells.length size && Nat.ble i.bytes 65536 && Nat.blt 0 i.bytes && new.all V.one && Nat.beq new.length (n * size)) with
          | false => rw [hc] at q; cases q
          | true =>
            rw [hc] at q
            simp only [cond_true] at q
            simp only [Bool.and_eq_true] at hc
            obtain ⟨⟨⟨⟨⟨c1, c2⟩, c3⟩, c4⟩, c5⟩, c6⟩ := hc
            have c1 : 0 < size := Nat.le_of_ble_eq_true c1
            have c2 := Nat.eq_of_beq_eq_true c2
            have c3 := Nat.le_of_ble_eq_true c3
            have c4 : 0 < i.bytes := Nat.le_of_ble_eq_true c4
            have c6 := Nat.eq_of_beq_eq_true c6
            obtain ⟨it, z', g1, g2, g3⟩ := zer_info hz
            rw [hi] at g1
            cases g1
            have hzsz : z'.cells.size = size := by
              have := vrels_len (vrel_cells (toV_junk 12 z' z g3) (toV_rel (e := e) 12 z' z g3))
              simpa [c2] using this
            obtain ⟨vs, A, hvr⟩ := run_newX (P := P) (ty := ty) R h0 h1 hu hd hs c1 hi g2 g3 c3 (by omega) hzsz hx hnew
            have hvl := vrels_len hvr
            -- a new array
            have grow : ∀ (base : Option Addr) (sl C0 : Nat) (old : List V) (old' : List Value), s' = .slice base sl C0 → ¬ sl + n ≤ C0 → sl + n ≤ 16777216 → vrels e old old' → old.length = sl * size →
                (∀ w2, w2 = w ∨ w2 = w.drew → (Builtin.firstCells size sl (.slice base sl C0)).run P w2 = .ok ⟨old'⟩ w2) → ∀ (hh : H) (RR : Rel w0 e hh w), 
                ∃ e' w' z, (Builtin.append_ ats ty #[s', x']).run P w = .ok z w' ∧ e.le e' ∧ vrel e' (.slice (some (hh.nxt, 0)) (sl + n) (.upto 0 (sl + n))) z ∧ Rel w0 e' (hh.new (.cells (old ++ new) el (some size))) w' := by
              intro base sl C0 old old' e1 hn hne ho hol hfo hh RR
              subst e1
              obtain ⟨C, rest, k1, k2, k3⟩ := A.grow base sl C0 old' hn hne hfo
              have hle : e.le (e.bind hh.nxt (some w.heap.size) (some C)) := E.bind_le RR.rn RR.kn RR.ll
              refine ⟨_, _, _, k3, hle, ?_, RR.made (c := some C) (grown_drew_alloc w _) (Nat.le_refl _) (by rw [World.size_alloc]; exact Nat.lt_succ_self _) ?_⟩
              · simp only [vrel]
                exact ⟨w.heap.size, C, E.bind_ρ _ _ _ _, E.bind_κ _ _ _ _, ⟨by omega, Nat.le_refl _⟩, by simp⟩
              · rw [drew_alloc_new]
                refine ⟨old' ++ vs, rest, C, rfl, vrels_append (vrels_mono hle _ _ ho) (vrels_mono hle _ _ hvr), E.bind_κ _ _ _ _, ?_⟩
                have l1 := vrels_len ho
                rw [List.length_append, List.length_append, k2, hvl, l1, hol, c6, hzsz, Nat.sub_mul, Nat.add_mul]
                have : (sl + n) * size ≤ C * size := Nat.mul_le_mul_right _ k1
                rw [Nat.add_mul] at this
                omega
            split at q
            · -- a slice of a capacity
              rename_i base sl c
              cases hle0 : Nat.ble (sl + n) c with
              | true =>
                rw [hle0] at q
                simp only [cond_true] at q
                have hle := Nat.le_of_ble_eq_true hle0
                split at q
                · rename_i p
                  split at q
                  · rename_i hst0 hst
                    cases q
                    obtain ⟨b, o⟩ := p
                    simp only [vrel] at hs'
                    obtain ⟨k, hk, rfl⟩ := hs'
                    obtain ⟨w', r1, r2⟩ := run_storeN (P := P) (a := (b, o + sl * size)) R hk hvr hst
                    refine ⟨e, w', .slice (some ⟨k, o, none⟩) (sl + n) c, ?_, E.le.refl e, by simp only [vrel]; exact ⟨k, hk, rfl⟩, r2⟩
                    have := A.fit (some ⟨k, o, none⟩) _ _ hle
                    simp only [addr_add, r1, Result.andThen_ok] at this
                    exact this
                  · cases q
                · cases q
                  simp only [vrel] at hs'
                  subst hs'
                  exact ⟨e, w, _, A.fit (none) _ _ hle, E.le.refl e, by simp only [vrel], R⟩
              | false =>
                rw [hle0] at q
                simp only [cond_false] at q
                have hnle : ¬ sl + n ≤ c := fun hh => by rw [Nat.ble_eq_true_of_le hh] at hle0; cases hle0
                cases hne0 : Nat.ble (sl + n) 16777216 with
                | false => rw [hne0] at q; cases q
                | true =>
                  rw [hne0] at q
                  simp only [cond_true] at q
                  have hne := Nat.le_of_ble_eq_true hne0
                  split at q
                  · rename_i old hold
                    cases q
                    cases base with
                    | none =>
                      cases h00 : Nat.beq sl 0 with
                      | false => rw [h00] at hold; cases hold
                      | true =>
                        rw [h00] at hold
                        cases hold
                        have := Nat.eq_of_beq_eq_true h00
                        subst this
                        simp only [vrel] at hs'
                        exact grow none 0 c [] [] hs' hnle hne (vrels_nil.2 rfl) (by simp) (fun w2 _ => by simp [Builtin.firstCells]) h R
                    | some p =>
                      obtain ⟨b, o⟩ := p
                      simp only [vrel] at hs'
                      obtain ⟨k, hk, hs'⟩ := hs'
                      obtain ⟨vo, p1, p2⟩ := loadN_drew (P := P) (a := (b, o)) R hk hold
                      obtain ⟨_, _, _, _, p3, p4, _, p5⟩ := loadN_vs (a := (b, o)) R hk hold
                      exact grow _ sl c old vo hs' hnle hne p2 (by rw [← vrels_len p5, p4]) (fun w2 hw => p1 w2 hw) h R
                  · cases q
            · -- an array that may be longer
              rename_i b o sl qq mm
              have hs0 := hs'
              simp only [vrel] at hs'
              obtain ⟨k, C, hk, hC, ⟨hcm, hsm⟩, hs'⟩ := hs'
              cases hn0 : Nat.beq n 0 with
              | true =>
                rw [hn0] at q
                cases q
                have := Nat.eq_of_beq_eq_true hn0
                subst this
                subst hs'
                have hv0 : vs = [] := List.eq_nil_of_length_eq_zero (by rw [hvl, c6]; omega)
                subst hv0
                have := A.fit (some ⟨k, o, none⟩) _ _ (show sl + 0 ≤ C - qq by omega)
                simp [storeCells] at this
                exact ⟨e, w, _, this, E.le.refl e, hs0, R⟩
              | false =>
                rw [hn0] at q
                simp only [cond_false] at q
                cases hfm : Nat.ble (sl + n) mm with
                | true =>
                  rw [hfm] at q
                  simp only [cond_true] at q
                  have hfm := Nat.le_of_ble_eq_true hfm
                  split at q
                  · rename_i hst0 hst
                    cases q
                    subst hs'
                    obtain ⟨w', r1, r2⟩ := run_storeN (P := P) (a := (b, o + sl * size)) R hk hvr hst
                    refine ⟨e, w', .slice (some ⟨k, o, none⟩) (sl + n) (C - qq), ?_, E.le.refl e, by simp only [vrel]; exact ⟨k, C, hk, hC, ⟨hcm, hfm⟩, rfl⟩, r2⟩
                    have := A.fit (some ⟨k, o, none⟩) _ _ (show sl + n ≤ C - qq by omega)
                    simp only [addr_add, r1, Result.andThen_ok] at this
                    exact this
                  · cases q
                | false =>
                rw [hfm] at q
                simp only [cond_false] at q
                cases hoq : (Nat.beq o 0 && Nat.beq qq 0) with
                | false => rw [hoq] at q; cases q
                | true =>
                rw [hoq] at q
                simp only [cond_true] at q
                simp only [Bool.and_eq_true] at hoq
                have hoo := Nat.eq_of_beq_eq_true hoq.1
                have hqq := Nat.eq_of_beq_eq_true hoq.2
                subst hoo hqq
                simp only [Nat.zero_add, Nat.sub_zero] at hcm hs'
                split at q
                · rename_i l t s2 hb
                  obtain ⟨hfz, hb⟩ := H.getW_some hb
                  cases hc2 : (Nat.beq s2 size && Nat.beq t el && Nat.ble (sl * size) l.length && Nat.ble (sl + n) 16777216) with
                  | false => rw [hc2] at q; cases q
                  | true =>
                    rw [hc2] at q
                    cases q
                    simp only [Bool.and_eq_true] at hc2
                    obtain ⟨⟨⟨d1, d2⟩, d3⟩, d4⟩ := hc2
                    have d1 := Nat.eq_of_beq_eq_true d1
                    have d2 := Nat.eq_of_beq_eq_true d2
                    subst d1 d2
                    have d3 := Nat.le_of_ble_eq_true d3
                    have d4 := Nat.le_of_ble_eq_true d4
                    obtain ⟨cs, rest, t1, t2, _, t4⟩ := R.cells hb hk
                    obtain ⟨C', t5, t6⟩ := t4 s2 rfl
                    rw [hC] at t5
                    cases t5
                    have lcs := vrels_len t2
                    by_cases hfit : sl + n ≤ C
                    · -- in place
                      subst hs'
                      have hst := run_storeCells_at P k (sl * s2) t vs 0 ⟨cs ++ rest⟩ w t1 (by
                        show sl * s2 + 0 + vs.length ≤ (cs ++ rest).length
                        rw [t6, hvl, c6]
                        have : (sl + n) * s2 ≤ C * s2 := Nat.mul_le_mul_right _ hfit
                        rw [Nat.add_mul] at this
                        omega) (one_cells c5 hvr)
                      simp only [Nat.add_zero] at hst
                      have happ := A.fit (some ⟨k, 0, none⟩) _ _ hfit
                      simp only [addr_add, Nat.zero_add, hst, Result.andThen_ok] at happ
                      have RR := R.del b
                      have hle : e.le (e.bind h.nxt (some k) (some C)) := E.bind_le R.rn R.kn R.ll
                      refine ⟨e.bind h.nxt (some k) (some C), _, _, happ, hle, ?_, ?_⟩
                      · simp only [vrel]
                        exact ⟨k, C, E.bind_ρ _ _ _ _, E.bind_κ _ _ _ _, ⟨by omega, Nat.le_refl _⟩, by simp⟩
                      · rw [← E.up_bind (some k) (some C) R.lim] at hle ⊢
                        refine (RR.add (.cells (l.take (sl * s2) ++ new) t (some s2))).bind (row := some k) (by rw [H.get_new]; exact if_pos rfl) R.rn R.kn (Nat.lt_succ_self _) (grown_setRow _ _ _) (fun j e1 => by cases e1; rfl) ?_ (R.put_at none hk) (by simpa [World.setRow] using (R.new _ _ hk).2) ?_
                        · intro b' o' hb' hk'
                          have hlt := R.lt _ _ hk'
                          rw [H.get_new] at hb'
                          rw [if_neg (by show b' ≠ h.nxt; omega), H.get_set] at hb'
                          by_cases hne : b' = b
                          · rw [if_pos hne] at hb'; cases hb'
                          · rw [if_neg hne] at hb'
                            exact hne (R.inj b' b k o' _ hk' hk hb' hb)
                        · rw [setRow_heap w k _ _ t (0, 0) t1]
                          refine ⟨cs.take (sl * s2) ++ vs, (cs ++ rest).drop (sl * s2 + vs.length), C, ?_, vrels_append (vrels_mono hle _ _ (vrels_take _ t2)) (vrels_mono hle _ _ hvr), E.bind_κ _ _ _ _, ?_⟩
                          · rw [List.take_append_of_le_length (by omega)]
                          · have hC2 : (sl + n) * s2 ≤ C * s2 := Nat.mul_le_mul_right _ hfit
                            rw [Nat.add_mul] at hC2
                            rw [List.length_append, List.length_append, List.length_drop, t6, List.length_take, hvl, c6]
                            omega
                    · -- a new array
                      obtain ⟨e', w', zz, r1, r2, r3, r4⟩ := grow (some ⟨k, 0, none⟩) sl C (l.take (sl * s2)) (cs.take (sl * s2)) hs' hfit d4 (vrels_take _ t2) (by simp; omega) (fun w2 hw => by
                        have h1' : w2.heap[k]? = some (.cells ⟨cs ++ rest⟩ t (0, 0)) := (heap_drew hw k).trans t1
                        have := run_loadCells_list (P := P) (w := w2) ⟨k, 0, none⟩ (cs.take (sl * s2)) (fun j v hj => by
                          rw [addr_add]
                          rw [List.getElem?_take] at hj
                          split at hj
                          · simp only [World.cell?, h1', Nat.zero_add]
                            have hjl := (List.getElem?_eq_some_iff.1 hj).1
                            simpa [List.getElem?_append_left hjl] using hj
                          · cases hj)
                        rw [List.length_take, Nat.min_eq_left (by omega)] at this
                        exact this) (h.set b none) (R.del b)
                      exact ⟨e', w', zz, r1, r2, r3, r4⟩
                · cases q
            · -- nothing, somewhere
              rename_i sl q1 q2
              cases hn0 : Nat.beq n 0 with
              | false => rw [hn0] at q; cases q
              | true =>
                rw [hn0] at q
                cases q
                have := Nat.eq_of_beq_eq_true hn0
                subst this
                have hv0 : vs = [] := List.eq_nil_of_length_eq_zero (by rw [hvl, c6]; omega)
                subst hv0
                have hs0 := hs'
                simp only [vrel] at hs'
                obtain ⟨rfl, pa, C, rfl⟩ := hs'
                have := A.fit (some pa) _ _ (show 0 + 0 ≤ C by omega)
                simp [storeCells] at this
                exact ⟨e, w, _, this, E.le.refl e, hs0, R⟩
            · -- nothing, at the end of an array
              rename_i p sl tq
              cases hn0 : Nat.beq n 0 with
              | false => rw [hn0] at q; cases q
              | true =>
                rw [hn0] at q
                cases q
                have := Nat.eq_of_beq_eq_true hn0
                subst this
                have hv0 : vs = [] := List.eq_nil_of_length_eq_zero (by rw [hvl, c6]; omega)
                subst hv0
                have hs0 := hs'
                obtain ⟨b, o⟩ := p
                simp only [vrel] at hs'
                obtain ⟨rfl, k, C, pa, _, _, _, _, rfl⟩ := hs'
                have := A.fit (some pa) _ _ (show 0 + 0 ≤ C - tq by omega)
                simp [storeCells] at this
                exact ⟨e, w, _, this, E.le.refl e, hs0, R⟩
            · cases q
        · cases q
      · cases q
    · cases q
  · cases q
end
end Go.Proofs.YtjngkcnanhnopaaGreatDoor.Ev

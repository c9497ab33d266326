import Derived.Test.YtjngkcnanhnopaaGreatDoorKb
import Derived.Laws.StructEq
import Derived.ChangeKeysEq
/-! The evaluator: operands; types; loads; equality; arithmetic. -/
namespace Go.Proofs.YtjngkcnanhnopaaGreatDoor.Ev
open Go Go.RowKit
set_option linter.unusedVariables false
set_option linter.unusedSimpArgs false

def evO (tm : Tr V) : Operand → Option V
  | .tmp t => tm.get t
  | .const v => toV 12 v
  | .func f => some (.func (.func f) [] [])
  | .global _ => none
theorem evO_rel {e : E} {tm : Tr V} {n : Nat} {a : Act} (h : trel e tm n a.tmps) {x : Operand} {v : V} (hx : evO tm x = some v) : vrel e v (a.eval x) := by
  cases x with
  | tmp t =>
    obtain ⟨y, h1, h2⟩ := h.2 t v hx
    simp only [Act.eval, Array.getD_eq_getD_getElem?, h1]
    exact h2
  | const c => exact toV_rel 12 c v hx
  | func f => cases hx; exact ⟨[], [], rfl, vrels_nil.2 rfl, vrels_nil.2 rfl⟩
  | global g => cases hx
section
variable (P : Program)
def sz (t : TypeId) : Option Nat := match P.info? t with
  | some i => some i.size
  | none => none
def isAg (t : TypeId) : Option Bool := match P.underlying t with
  | some (.struct _) => some true
  | some (.array _ _) => some true
  | some _ => some false
  | none => none
def zer (t : TypeId) : Option V := match P.info? t with
  | some i => (match i.zero with
    | some z => toV 12 z
    | none => none)
  | none => none
end
section
variable {P : Program} {w0 w : World} {e : E} {h : H}
theorem run_sz {t : TypeId} {n : Nat} (q : sz P t = some n) : (sizeOf t).run P w = .ok n w := by
  unfold sz at q
  cases hi : P.info? t with
  | none => rw [hi] at q; cases q
  | some i => rw [hi] at q; cases q; simp [sizeOf, typeInfo, hi]
theorem sz_map {t : TypeId} {n : Nat} (q : sz P t = some n) : (P.info? t).map (·.size) = some n := by
  unfold sz at q
  cases hi : P.info? t with
  | none => rw [hi] at q; cases q
  | some i => rw [hi] at q; cases q; rfl
theorem run_isAg {t : TypeId} {b : Bool} (q : isAg P t = some b) : (isAgg t).run P w = .ok b w := by
  unfold isAg at q
  cases hi : P.underlying t with
  | none => rw [hi] at q; cases q
  | some d => rw [hi] at q; cases d <;> cases q <;> simp [isAgg, run_underlying hi]
theorem run_zer {t : TypeId} {v : V} (q : zer P t = some v) : ∃ z, (zeroValue t).run P w = .ok z w ∧ toV 12 z = some v ∧ ∀ e, vrel e v z := by
  unfold zer at q
  cases hi : P.info? t with
  | none => rw [hi] at q; cases q
  | some i =>
    rw [hi] at q
    cases hz : i.zero with
    | none => simp only [hz] at q; cases q
    | some z => simp only [hz] at q; exact ⟨z, by simp [zeroValue, typeInfo, hi, hz], q, fun e => toV_rel 12 z v q⟩
theorem zer_info {t : TypeId} {v : V} (q : zer P t = some v) : ∃ i z, P.info? t = some i ∧ i.zero = some z ∧ toV 12 z = some v := by
  unfold zer at q
  cases hi : P.info? t with
  | none => rw [hi] at q; cases q
  | some i =>
    rw [hi] at q
    cases hz : i.zero with
    | none => simp only [hz] at q; cases q
    | some z => simp only [hz] at q; exact ⟨i, z, rfl, hz, q⟩
theorem addr_add (k o n : Nat) : Addr.add ⟨k, o, none⟩ n = ⟨k, o + n, none⟩ := by
  unfold Addr.add
  split
  · simp_all
  · rfl
def loadN (h : H) (a : Nat × Nat) (n : Nat) : Option (List V) :=
  match h.get a.1 with
  | some (.cells l _ _) => cond (Nat.ble (a.2 + n) l.length) (some ((l.drop a.2).take n)) none
  | _ => none
theorem loadN_vs (R : Rel w0 e h w) {a : Nat × Nat} {n k : Nat} {l : List V} (hk : e.ρ a.1 = some k) (q : loadN h a n = some l) :
    ∃ vs cs t, w.heap[k]? = some (.cells ⟨cs⟩ t (0, 0)) ∧ (cs.drop a.2).take n = vs ∧ vs.length = n ∧ a.2 + n ≤ cs.length ∧ vrels e l vs := by
  unfold loadN at q
  split at q
  · rename_i l0 t opn hb
    cases hc : Nat.ble (a.2 + n) l0.length with
    | false => rw [hc] at q; cases q
    | true =>
      rw [hc] at q
      cases q
      have hle := Nat.le_of_ble_eq_true hc
      obtain ⟨vs, rest, h1, h2, _, _⟩ := R.cells hb hk
      have hlen := vrels_len h2
      refine ⟨_, vs ++ rest, t, h1, rfl, by simp; omega, by simp; omega, ?_⟩
      rw [List.drop_append_of_le_length (by omega), List.take_append_of_le_length (by simp; omega)]
      exact vrels_take n (vrels_drop a.2 h2)
  · cases q
theorem run_loadN (R : Rel w0 e h w) {a : Nat × Nat} {n k : Nat} {l : List V} (hk : e.ρ a.1 = some k) (q : loadN h a n = some l) :
    ∃ vs, (loadCells ⟨k, a.2, none⟩ n).run P w = .ok ⟨vs⟩ w ∧ vrels e l vs := by
  obtain ⟨vs, cs, t, h1, h2, h3, h4, h5⟩ := loadN_vs R hk q
  refine ⟨vs, ?_, h5⟩
  have := run_loadCells_list (P := P) (w := w) ⟨k, a.2, none⟩ vs (fun j v hj => by
    rw [addr_add]
    rw [← h2, List.getElem?_take] at hj
    split at hj
    · rw [List.getElem?_drop] at hj
      simp only [World.cell?, h1]
      simpa using hj
    · cases hj)
  rw [h3] at this
  exact this
def loadV (P : Program) (h : H) (t : TypeId) (a : Nat × Nat) : Option V :=
  match isAg P t with
  | some true => (match sz P t with
    | some n => (match loadN h a n with
      | some l => some (.agg l)
      | none => none)
    | none => none)
  | some false => (match loadN h a 1 with
    | some [v] => some v
    | _ => none)
  | none => none
theorem run_loadV (R : Rel w0 e h w) {a : Nat × Nat} {k : Nat} {t : TypeId} {v : V} (hk : e.ρ a.1 = some k) (q : loadV P h t a = some v) : ∃ x, (loadVar t ⟨k, a.2, none⟩).run P w = .ok x w ∧ vrel e v x := by
  unfold loadV at q
  split at q
  · rename_i ha
    split at q
    · rename_i n hs
      split at q
      · rename_i l hl
        cases q
        obtain ⟨vs, h1, h2⟩ := run_loadN (P := P) R hk hl
        exact ⟨.agg ⟨vs⟩, by simp [loadVar, run_isAg ha, run_sz hs, h1], by simp only [vrel]; exact ⟨vs, rfl, h2⟩⟩
      · cases q
    · cases q
  · rename_i ha
    split at q
    · rename_i v' hl
      cases q
      obtain ⟨vs, cs, t', h1, h2, h3, h4, h5⟩ := loadN_vs R hk hl
      obtain ⟨x, r, rfl, h6, h7⟩ := vrels_cons.1 h5
      refine ⟨x, ?_, h6⟩
      have hc : w.cell? ⟨k, a.2, none⟩ = some x := by
        simp only [World.cell?, h1]
        have h8 : ((cs.drop a.2).take 1)[0]? = some x := by rw [h2]; rfl
        simpa using h8
      simp [loadVar, run_isAg ha, hc]
    · cases q
  · cases q
def partV (P : Program) (t : TypeId) (cs : List V) (off : Nat) : Option V :=
  match isAg P t with
  | some true => (match sz P t with
    | some n => some (.agg ((cs.drop off).take n))
    | none => none)
  | some false => cs[off]?
  | none => none
theorem run_partV {t : TypeId} {cs : List V} {xs : List Value} {off : Nat} {v : V} (hc : vrels e cs xs) (q : partV P t cs off = some v) : ∃ x, (part t ⟨xs⟩ off).run P w = .ok x w ∧ vrel e v x := by
  unfold partV at q
  split at q
  · rename_i ha
    split at q
    · rename_i n hs
      cases q
      refine ⟨.agg ⟨(xs.drop off).take n⟩, ?_, ?_⟩
      · simp [part, run_isAg ha, run_sz hs, List.drop_take]
      · simp only [vrel]
        exact ⟨_, rfl, vrels_take n (vrels_drop off hc)⟩
    · cases q
  · rename_i ha
    obtain ⟨x, h1, h2⟩ := vrels_get off hc q
    exact ⟨x, by simp [part, run_isAg ha, h1], h2⟩
  · cases q
/-! Equality. -/
/-- Is a slice nil? -/
def isNilS : Option (Nat × Nat) → Cap → Bool
  | none, .exact _ => true
  | _, _ => false
def eqFs (P : Program) (eq : TypeId → V → V → Option Bool) (xs ys : List V) : List Field → Option Bool
  | [] => some true
  | f :: fs =>
    match (f.name == "_" : Bool) with
    | true => eqFs P eq xs ys fs
    | false => match partV P f.type xs f.offset, partV P f.type ys f.offset with
      | some a, some b => (match eq f.type a b with
        | some true => eqFs P eq xs ys fs
        | some false => some false
        | none => none)
      | _, _ => none
/-- Elements of arrays, one behind the other. -/
def eqAs (P : Program) (eq : TypeId → V → V → Option Bool) (el n : Nat) (xs ys : List V) : List Nat → Option Bool
  | [] => some true
  | i :: is => match partV P el xs (i * n), partV P el ys (i * n) with
    | some a, some b => (match eq el a b with
      | some true => eqAs P eq el n xs ys is
      | some false => some false
      | none => none)
    | _, _ => none
def eqv (P : Program) : Nat → TypeId → V → V → Option Bool
  | 0, _, _, _ => none
  | d + 1, t, x, y => match P.underlying t, x, y with
    | some .bool, .bool a, .bool b => some (a == b)
    | some (.int _), .int k a, .int k' b => if k = k' then some (a == b) else none
    | some .string, .str a, .str b => some (a == b)
    | some (.pointer _), .ptr none, .ptr b => some b.isNone
    | some (.pointer _), .ptr (some _), .ptr none => some false
    | some (.pointer el), .ptr (some (b1, o1)), .ptr (some (b2, o2)) => cond (Nat.beq b1 b2 && Nat.beq o1 o2) (match sz P el with
      | some _ => some true
      | none => none) none
    | some (.slice _), .slice none _ (.exact _), .slice b _ cb => some (isNilS b cb)
    | some (.slice _), .slice a _ ca, .slice none _ (.exact _) => some (isNilS a ca)
    | some (.map _ _), .map none, .map b => some b.isNone
    | some (.map _ _), .map (some _), .map none => some false
    | some (.func ..), .nilFunc, .nilFunc => some true
    | some (.func ..), .func .., .nilFunc => some false
    | some (.interface _), .nilIface, .iface _ _ => some false
    | some (.interface _), .iface _ _, .nilIface => some false
    | some (.struct fs), .agg xs, .agg ys => cond (P.stoodInHeld t) none (eqFs P (eqv P d) xs ys fs.toList)
    | some (.array len el), .agg xs, .agg ys => (match sz P el with
      | some n => eqAs P (eqv P d) el n xs ys (List.range len)
      | none => none)
    | _, _, _ => none
theorem str_beq (a b : List UInt8) : ((⟨⟨a⟩⟩ : ByteArray) == ⟨⟨b⟩⟩) = (a == b) := by
  rw [beq_toListBytes, ByteArray.toList_eq, ByteArray.toList_eq]
theorem slice_inv {a : Option (Nat × Nat)} {n : Nat} {c : Cap} {v : Value} (hv : vrel e (.slice a n c) v) : ∃ a' c', v = .slice a' n c' ∧ a'.isNone = isNilS a c := by
  cases a with
  | none =>
    cases c with
    | exact c => simp only [vrel] at hv; exact ⟨none, _, hv, rfl⟩
    | upto c m => simp only [vrel] at hv; obtain ⟨rfl, a, c', rfl⟩ := hv; exact ⟨some a, _, rfl, rfl⟩
    | tail c => simp only [vrel] at hv
  | some p =>
    obtain ⟨b, o⟩ := p
    cases c with
    | exact c => simp only [vrel] at hv; obtain ⟨k, _, h2⟩ := hv; exact ⟨some _, _, h2, rfl⟩
    | upto c m => simp only [vrel] at hv; obtain ⟨k, c, _, _, _, h2⟩ := hv; exact ⟨some _, _, h2, rfl⟩
    | tail c => simp only [vrel] at hv; obtain ⟨rfl, k, c, a, _, _, _, _, h2⟩ := hv; exact ⟨some _, _, h2, rfl⟩
theorem map_inv {a : Option Nat} {v : Value} (hv : vrel e (.map a) v) : ∃ a', v = .map a' ∧ a'.isNone = a.isNone := by
  cases a with
  | none => simp only [vrel] at hv; exact ⟨none, hv, rfl⟩
  | some p => simp only [vrel] at hv; obtain ⟨k, _, h2⟩ := hv; exact ⟨some _, h2, rfl⟩
theorem ptr_inv {a : Option (Nat × Nat)} {v : Value} (hv : vrel e (.ptr a) v) : ∃ a', v = .pointer a' ∧ a'.isNone = a.isNone := by
  cases a with
  | none => simp only [vrel] at hv; exact ⟨none, hv, rfl⟩
  | some p => obtain ⟨b, o⟩ := p; simp only [vrel] at hv; obtain ⟨k, _, h2⟩ := hv; exact ⟨some _, h2, rfl⟩
theorem run_eqFs {d : Nat} (hd : ∀ t x y b x' y', eqv P d t x y = some b → vrel e x x' → vrel e y y' → (Op.equalIn d t x' y').run P w = .ok b w) {xs ys : List V} {xs' ys' : List Value} (hx : vrels e xs xs') (hy : vrels e ys ys') :
    ∀ (fs : List Field) (b : Bool), eqFs P (eqv P d) xs ys fs = some b → (Op.eqFields d ⟨xs'⟩ ⟨ys'⟩ fs).run P w = .ok b w
  | [], b, q => by cases q; simp [Op.eqFields]
  | f :: fs, b, q => by
    unfold eqFs at q
    split at q
    · rename_i hn
      have hn' : f.name = "_" := by simpa using hn
      simp [Op.eqFields, hn', run_eqFs hd hx hy fs b q]
    · rename_i hn
      have hn' : ¬ f.name = "_" := by simpa using hn
      split at q
      · rename_i a c ha hc
        obtain ⟨a', h1, h2⟩ := run_partV (w := w) hx ha
        obtain ⟨c', h3, h4⟩ := run_partV (w := w) hy hc
        split at q
        · rename_i he
          have := hd _ _ _ _ _ _ he h2 h4
          simp [Op.eqFields, hn', h1, h3, this, run_eqFs hd hx hy fs b q]
        · rename_i he
          have := hd _ _ _ _ _ _ he h2 h4
          cases q
          simp [Op.eqFields, hn', h1, h3, this]
        · cases q
      · cases q
theorem run_eqAs {d n : Nat} {el : TypeId} (hd : ∀ t x y b x' y', eqv P d t x y = some b → vrel e x x' → vrel e y y' → (Op.equalIn d t x' y').run P w = .ok b w) {xs ys : List V} {xs' ys' : List Value} (hx : vrels e xs xs') (hy : vrels e ys ys') :
    ∀ (is : List Nat) (b : Bool), eqAs P (eqv P d) el n xs ys is = some b → (Op.eqItems d el n ⟨xs'⟩ ⟨ys'⟩ is).run P w = .ok b w
  | [], b, q => by cases q; simp [Op.eqItems]
  | i :: is, b, q => by
    unfold eqAs at q
    split at q
    · rename_i a c ha hc
      obtain ⟨a', h1, h2⟩ := run_partV (w := w) hx ha
      obtain ⟨c', h3, h4⟩ := run_partV (w := w) hy hc
      split at q
      · rename_i he
        have := hd _ _ _ _ _ _ he h2 h4
        simp [Op.eqItems, h1, h3, this, run_eqAs hd hx hy is b q]
      · rename_i he
        have := hd _ _ _ _ _ _ he h2 h4
        cases q
        simp [Op.eqItems, h1, h3, this]
      · cases q
    · cases q
theorem run_eqv : ∀ (d : Nat) (t : TypeId) (x y : V) (b : Bool) (x' y' : Value), eqv P d t x y = some b → vrel e x x' → vrel e y y' → (Op.equalIn d t x' y').run P w = .ok b w
  | 0, t, x, y, b, x', y', q, hx, hy => by cases q
  | d + 1, t, x, y, b, x', y', q, hx, hy => by
    unfold eqv at q
    split at q
    · rename_i hu
      cases q
      simp only [vrel] at hx hy
      subst hx hy
      simp [Op.equalIn, run_underlying hu]
    · rename_i hu
      simp only [vrel] at hx hy
      subst hx hy
      split at q
      · rename_i hk
        cases q
        simp [Op.equalIn, run_underlying hu, hk]
      · cases q
    · rename_i hu
      cases q
      simp only [vrel] at hx hy
      subst hx hy
      simp [Op.equalIn, run_underlying hu, str_beq]
    · rename_i hu
      cases q
      obtain ⟨c, rfl, hc⟩ := ptr_inv hy
      simp only [vrel] at hx
      subst hx
      simp [Op.equalIn, run_underlying hu, hc]
    · rename_i hu
      cases q
      obtain ⟨c, rfl, hc⟩ := ptr_inv hx
      simp only [vrel] at hy
      subst hy
      cases c with
      | none => simp at hc
      | some c => simp [Op.equalIn, run_underlying hu]
    · rename_i el b1 o1 b2 o2 hu
      cases hbo : (Nat.beq b1 b2 && Nat.beq o1 o2) with
      | false => rw [hbo] at q; cases q
      | true =>
        rw [hbo] at q
        simp only [cond_true] at q
        obtain ⟨hb, ho⟩ := (Bool.and_eq_true _ _).mp hbo
        have hb := Nat.eq_of_beq_eq_true hb
        have ho := Nat.eq_of_beq_eq_true ho
        subst hb ho
        split at q
        · rename_i n hs
          cases q
          simp only [vrel] at hx hy
          obtain ⟨k, hk, rfl⟩ := hx
          obtain ⟨k', hk', rfl⟩ := hy
          rw [hk] at hk'
          cases hk'
          by_cases hn : n = 0
          · simp [Op.equalIn, run_underlying hu, run_sz hs, hn]
          · simp [Op.equalIn, run_underlying hu, run_sz hs, hn, sameAddr]
        · cases q
    · rename_i hu
      cases q
      obtain ⟨c, c', rfl, hc⟩ := slice_inv hy
      obtain ⟨a, a', rfl, ha⟩ := slice_inv hx
      cases a with
      | some a => simp [isNilS] at ha
      | none => simp [Op.equalIn, run_underlying hu, hc]
    · rename_i hu
      cases q
      obtain ⟨c, c', rfl, hc⟩ := slice_inv hy
      obtain ⟨a, a', rfl, ha⟩ := slice_inv hx
      cases c with
      | some c => simp [isNilS] at hc
      | none => cases a with
        | none => simp at ha; simp [Op.equalIn, run_underlying hu, ← ha]
        | some a => simp at ha; simp [Op.equalIn, run_underlying hu, ← ha]
    · rename_i hu
      cases q
      obtain ⟨c, rfl, hc⟩ := map_inv hy
      simp only [vrel] at hx
      subst hx
      simp [Op.equalIn, run_underlying hu, hc]
    · rename_i hu
      cases q
      obtain ⟨c, rfl, hc⟩ := map_inv hx
      simp only [vrel] at hy
      subst hy
      cases c with
      | none => simp at hc
      | some c => simp [Op.equalIn, run_underlying hu]
    · rename_i hu
      cases q
      simp only [vrel] at hx hy
      subst hx hy
      simp [Op.equalIn, run_underlying hu]
    · rename_i hu
      cases q
      simp only [vrel] at hx hy
      subst hy
      obtain ⟨fs, cs, rfl, _⟩ := hx
      simp [Op.equalIn, run_underlying hu]
    · rename_i hu
      cases q
      simp only [vrel] at hx hy
      subst hx
      obtain ⟨cs, rfl, _⟩ := hy
      simp [Op.equalIn, run_underlying hu]
    · rename_i hu
      cases q
      simp only [vrel] at hx hy
      subst hy
      obtain ⟨cs, rfl, _⟩ := hx
      simp [Op.equalIn, run_underlying hu]
    · rename_i fs xs ys hu
      simp only [vrel] at hx hy
      obtain ⟨xs', rfl, hx⟩ := hx
      obtain ⟨ys', rfl, hy⟩ := hy
      cases hp : P.stoodInHeld t with
      | true => rw [hp] at q; cases q
      | false =>
        rw [hp] at q
        have hf : P.fieldsOf t = fs := by simp [Program.fieldsOf, hu]
        rw [run_equalIn_struct w d t ⟨xs'⟩ ⟨ys'⟩ (by rw [hf]; exact hu) hp, hf]
        exact run_eqFs (fun t x y b x' y' => run_eqv d t x y b x' y') hx hy _ _ q
    · rename_i len el xs ys hu
      simp only [vrel] at hx hy
      obtain ⟨xs', rfl, hx⟩ := hx
      obtain ⟨ys', rfl, hy⟩ := hy
      split at q
      · rename_i n hs
        unfold sz at hs
        cases hi : P.info? el with
        | none => rw [hi] at hs; cases hs
        | some i =>
          rw [hi] at hs
          cases hs
          have hco : P.cellsOf el = i.size := by simp [Program.cellsOf, hi]
          rw [run_equalIn_array (w := w) d ⟨xs'⟩ ⟨ys'⟩ hu hi, hco]
          exact run_eqAs (fun t x y b x' y' => run_eqv d t x y b x' y') hx hy _ _ q
      · cases q
    · cases q
end
end Go.Proofs.YtjngkcnanhnopaaGreatDoor.Ev

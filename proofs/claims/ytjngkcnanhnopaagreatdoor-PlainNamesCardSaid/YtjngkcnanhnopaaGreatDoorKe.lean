import Derived.Test.YtjngkcnanhnopaaGreatDoorKd
/-! The evaluator: slices of slices, elements, keys of maps. -/
namespace Go.Proofs.YtjngkcnanhnopaaGreatDoor.Ev
open Go Go.RowKit
set_option linter.unusedVariables false
set_option linter.unusedSimpArgs false

def bndV (x : V) (y : Nat) : Option Nat :=
  match x with
  | .int _ i => if 0 ≤ i ∧ i ≤ y then some i.toNat else none
  | _ => none
def bndsV (len cap : Nat) (lo hi mx : Option V) : Option (Nat × Nat × Nat) :=
  match (match mx with
    | some v => bndV v cap
    | none => some cap) with
  | none => none
  | some m => match (match hi, mx with
    | some v, some _ => bndV v m
    | some v, none => bndV v cap
    | none, none => some len
    | none, some _ => none) with
    | none => none
    | some h => match (match lo with
      | some v => bndV v h
      | none => some 0) with
      | none => none
      | some l => some (l, h, m)
def orelO (e : E) : Option V → Option Value → Prop
  | none, x => x = none
  | some v, x => ∃ y, x = some y ∧ vrel e v y
section
variable {P : Program} {w0 w : World} {e : E} {h : H}
theorem run_bndV {x : V} {x' : Value} {y y' n : Nat} {code : BoundsCode} (hx : vrel e x x') (hy : y ≤ y') (q : bndV x y = some n) : (Instr.sliceBound x' y' code).run P w = .ok n w ∧ n ≤ y := by
  unfold bndV at q
  split at q
  · rename_i k i
    split at q
    · rename_i hi
      cases q
      simp only [vrel] at hx
      subst hx
      refine ⟨?_, by omega⟩
      simp [Instr.sliceBound, asIntOf]
      omega
    · cases q
  · cases q
theorem run_bndsV {len cap cap' l hh m : Nat} {lo hi mx : Option V} {lo' hi' mx' : Option Value} (b : Bool) (h1 : orelO e lo lo') (h2 : orelO e hi hi') (h3 : orelO e mx mx') (hc : cap ≤ cap') (hl : len ≤ cap') (q : bndsV len cap lo hi mx = some (l, hh, m)) :
    (Instr.sliceBounds b len cap' lo' hi' mx').run P w = .ok (l, hh, if mx.isSome then m else cap') w ∧ l ≤ hh ∧ (mx.isSome = true → hh ≤ m ∧ m ≤ cap) ∧ (mx.isSome = false → m = cap) ∧ (mx = none → hi = none → hh = len) ∧ (mx = none → hi.isSome = true → hh ≤ cap) := by
  unfold bndsV at q
  cases mx with
  | some xv =>
    obtain ⟨xv', rfl, hxv⟩ := h3
    cases q1 : bndV xv cap with
    | none => simp [q1] at q
    | some m1 =>
      obtain ⟨r1, s1⟩ := run_bndV (P := P) (w := w) (code := if b then .slice3Acap else .slice3Alen) hxv hc q1
      cases hi with
      | none => simp [q1] at q
      | some hv =>
        obtain ⟨hv', rfl, hhv⟩ := h2
        cases q2 : bndV hv m1 with
        | none => simp [q1, q2] at q
        | some h1v =>
          obtain ⟨r2, s2⟩ := run_bndV (P := P) (w := w) (code := .slice3B) hhv (Nat.le_refl m1) q2
          cases lo with
          | none =>
            have h1 : lo' = none := h1
            subst h1
            simp [q1, q2] at q
            obtain ⟨rfl, rfl, rfl⟩ := q
            refine ⟨by simp [Instr.sliceBounds, r1, r2], Nat.zero_le _, fun _ => ⟨s2, s1⟩, by simp, by simp, by simp⟩
          | some lv =>
            obtain ⟨lv', rfl, hlv⟩ := h1
            cases q3 : bndV lv h1v with
            | none => simp [q1, q2, q3] at q
            | some l1 =>
              obtain ⟨r3, s3⟩ := run_bndV (P := P) (w := w) (code := .slice3C) hlv (Nat.le_refl h1v) q3
              simp [q1, q2, q3] at q
              obtain ⟨rfl, rfl, rfl⟩ := q
              refine ⟨by simp [Instr.sliceBounds, r1, r2, r3], s3, fun _ => ⟨s2, s1⟩, by simp, by simp, by simp⟩
  | none =>
    have h3 : mx' = none := h3
    subst h3
    cases hi with
    | none =>
      have h2 : hi' = none := h2
      subst h2
      cases lo with
      | none =>
        have h1 : lo' = none := h1
        subst h1
        simp at q
        obtain ⟨rfl, rfl, rfl⟩ := q
        refine ⟨by simp [Instr.sliceBounds], Nat.zero_le _, by simp, by simp, by simp, by simp⟩
      | some lv =>
        obtain ⟨lv', rfl, hlv⟩ := h1
        cases q3 : bndV lv len with
        | none => simp [q3] at q
        | some l1 =>
          obtain ⟨r3, s3⟩ := run_bndV (P := P) (w := w) (code := .sliceB) hlv (Nat.le_refl len) q3
          simp [q3] at q
          obtain ⟨rfl, rfl, rfl⟩ := q
          refine ⟨by simp [Instr.sliceBounds, r3], s3, by simp, by simp, by simp, by simp⟩
    | some hv =>
      obtain ⟨hv', rfl, hhv⟩ := h2
      cases q2 : bndV hv cap with
      | none => simp [q2] at q
      | some h1v =>
        obtain ⟨r2, s2⟩ := run_bndV (P := P) (w := w) (code := if b then .sliceAcap else .sliceAlen) hhv hc q2
        cases lo with
        | none =>
          have h1 : lo' = none := h1
          subst h1
          simp [q2] at q
          obtain ⟨rfl, rfl, rfl⟩ := q
          refine ⟨by simp [Instr.sliceBounds, r2], Nat.zero_le _, by simp, by simp, by simp, fun _ _ => s2⟩
        | some lv =>
          obtain ⟨lv', rfl, hlv⟩ := h1
          cases q3 : bndV lv h1v with
          | none => simp [q2, q3] at q
          | some l1 =>
            obtain ⟨r3, s3⟩ := run_bndV (P := P) (w := w) (code := .sliceB) hlv (Nat.le_refl h1v) q3
            simp [q2, q3] at q
            obtain ⟨rfl, rfl, rfl⟩ := q
            refine ⟨by simp [Instr.sliceBounds, r2, r3], s3, by simp, by simp, by simp, fun _ _ => s2⟩
def sliceV (P : Program) (t : TypeId) (x : V) (lo hi mx : Option V) : Option V :=
  match P.underlying t, x with
  | some .string, .str s => (match mx with
    | some _ => none
    | none => match bndsV s.length s.length lo hi none with
      | some (l, h, _) => some (.str ((s.take h).drop l))
      | none => none)
  | some (.slice el), .slice a len (.exact c) => (match bndsV len c lo hi mx, sz P el with
    | some (l, h, m), some s => cond (Nat.ble len c) (some (.slice (cond (Nat.beq m l) a (match a with
      | some p => some (p.1, p.2 + l * s)
      | none => none)) (h - l) (.exact (m - l)))) none
    | _, _ => none)
  | some (.slice el), .slice (some p) len (.upto q mm) => (match bndsV len mm lo hi mx, sz P el with
    | some (l, h, m), some s => (match mx with
      | some _ => some (.slice (some (cond (Nat.beq m l) p (p.1, p.2 + l * s))) (h - l) (.exact (m - l)))
      | none => cond (Nat.beq l 0) (some (.slice (some p) h (.upto q mm))) (cond (Nat.blt l mm) (some (.slice (some (p.1, p.2 + l * s)) (h - l) (.upto (q + l) (mm - l)))) (some (.slice (some (p.1, p.2 + l * s)) (h - l) (.tail (q + l))))))
    | _, _ => none)
  | _, _ => none
theorem bytes_extract (s : List UInt8) (l h : Nat) : (⟨⟨s⟩⟩ : ByteArray).extract l h = ⟨⟨(s.take h).drop l⟩⟩ := by
  apply ByteArray.ext
  rw [ByteArray.data_extract]
  simp [List.drop_take]
theorem run_sliceV {t : TypeId} {x v : V} {lo hi mx : Option V} {x' : Value} {lo' hi' mx' : Option Value} (hx : vrel e x x') (h1 : orelO e lo lo') (h2 : orelO e hi hi') (h3 : orelO e mx mx') (q : sliceV P t x lo hi mx = some v) :
    ∃ z, (Instr.sliceAt t x' lo' hi' mx').run P w = .ok z w ∧ vrel e v z := by
  unfold sliceV at q
  split at q
  · rename_i s hu
    simp only [vrel] at hx
    subst hx
    split at q
    · cases q
    · have h3 : mx' = none := h3
      subst h3
      split at q
      · rename_i l hh m hb
        cases q
        obtain ⟨r1, _⟩ := run_bndsV (P := P) (w := w) (e := e) (mx := none) (mx' := none) false h1 h2 rfl (Nat.le_refl _) (Nat.le_refl _) hb
        simp only [Option.isSome_none, Bool.false_eq_true, if_false] at r1
        refine ⟨.string ⟨⟨(s.take hh).drop l⟩⟩, ?_, by simp only [vrel]⟩
        have hsz : (⟨⟨s⟩⟩ : ByteArray).size = s.length := rfl
        simp [Instr.sliceAt, Instr.slice, run_underlying hu, hsz, r1, bytes_extract]
      · cases q
  · rename_i el a len c hu
    split at q
    · rename_i l hh m s hb hs
      cases hle : Nat.ble len c with
      | false => rw [hle] at q; cases q
      | true =>
        have hle' := Nat.le_of_ble_eq_true hle
        rw [hle] at q
        simp only [cond_true, Option.some.injEq] at q
        obtain ⟨r1, r2, r3, r4, r5, r6⟩ := run_bndsV (P := P) (w := w) (e := e) true h1 h2 h3 (Nat.le_refl _) hle' hb
        have hm : (if mx.isSome then m else c) = m := by
          cases hmx : mx.isSome with
          | true => simp
          | false => simp [r4 hmx]
        rw [hm] at r1
        subst q
        cases a with
        | none =>
          simp only [vrel] at hx
          subst hx
          refine ⟨.slice none (hh - l) (m - l), ?_, ?_⟩
          · simp [Instr.sliceAt, Instr.slice, run_underlying hu, r1, run_sz hs]
          · cases Nat.beq m l <;> simp [vrel]
        | some p =>
          obtain ⟨b, o⟩ := p
          simp only [vrel] at hx
          obtain ⟨k, hk, rfl⟩ := hx
          by_cases hml : m = l
          · refine ⟨.slice (some ⟨k, o, none⟩) (hh - l) (m - l), ?_, ?_⟩
            · simp [Instr.sliceAt, Instr.slice, run_underlying hu, r1, run_sz hs, hml]
            · have : Nat.beq m l = true := by rw [hml]; exact Nat.beq_refl l
              rw [this]
              simp only [cond_true, vrel]
              exact ⟨k, hk, rfl⟩
          · refine ⟨.slice (some ⟨k, o + l * s, none⟩) (hh - l) (m - l), ?_, ?_⟩
            · simp [Instr.sliceAt, Instr.slice, run_underlying hu, r1, run_sz hs, hml, addr_add]
            · have : Nat.beq m l = false := by cases hh : Nat.beq m l with | false => rfl | true => exact absurd (Nat.eq_of_beq_eq_true hh) hml
              rw [this]
              simp only [cond_false, vrel]
              exact ⟨k, hk, rfl⟩
    · cases q
  · rename_i el p len qq mm hu
    obtain ⟨b, o⟩ := p
    simp only [vrel] at hx
    obtain ⟨k, c, hk, hc, ⟨hcm, hcl⟩, rfl⟩ := hx
    split at q
    · rename_i l hh m s hb hs
      obtain ⟨r1, r2, r3, r4, r5, r6⟩ := run_bndsV (P := P) (w := w) (e := e) (cap' := c - qq) true h1 h2 h3 (by omega) (by omega) hb
      split at q
      · rename_i mxv
        simp only [Option.isSome_some, if_true, forall_const] at r1 r3
        cases q
        by_cases hml : m = l
        · refine ⟨.slice (some ⟨k, o, none⟩) (hh - l) (m - l), ?_, ?_⟩
          · simp [Instr.sliceAt, Instr.slice, run_underlying hu, r1, run_sz hs, hml]
          · have : Nat.beq m l = true := by rw [hml]; exact Nat.beq_refl l
            rw [this]
            simp only [cond_true, vrel]
            exact ⟨k, hk, rfl⟩
        · refine ⟨.slice (some ⟨k, o + l * s, none⟩) (hh - l) (m - l), ?_, ?_⟩
          · simp [Instr.sliceAt, Instr.slice, run_underlying hu, r1, run_sz hs, hml, addr_add]
          · have : Nat.beq m l = false := by cases hh : Nat.beq m l with | false => rfl | true => exact absurd (Nat.eq_of_beq_eq_true hh) hml
            rw [this]
            simp only [cond_false, vrel]
            exact ⟨k, hk, rfl⟩
      · simp only [Option.isSome_none, Bool.false_eq_true, if_false] at r1
        have hhl : hh ≤ mm := by
          cases hhi : hi with
          | none => rw [r5 rfl hhi]; omega
          | some y => exact r6 rfl (by rw [hhi]; rfl)
        cases hl0 : Nat.beq l 0 with
        | true =>
          have := Nat.eq_of_beq_eq_true hl0
          subst this
          simp [hl0] at q
          subst q
          refine ⟨.slice (some ⟨k, o, none⟩) hh (c - qq), ?_, ?_⟩
          · simp [Instr.sliceAt, Instr.slice, run_underlying hu, r1, run_sz hs, addr_add]
          · simp only [vrel]
            exact ⟨k, c, hk, hc, ⟨hcm, hhl⟩, rfl⟩
        | false =>
          cases hlt : Nat.blt l mm with
          | true =>
            have hlt' : l < mm := Nat.le_of_ble_eq_true hlt
            simp [hl0, hlt] at q
            subst q
            refine ⟨.slice (some ⟨k, o + l * s, none⟩) (hh - l) (c - qq - l), ?_, ?_⟩
            · have hne : c - qq ≠ l := by omega
              simp [Instr.sliceAt, Instr.slice, run_underlying hu, r1, run_sz hs, hne, addr_add]
            · simp only [vrel]
              exact ⟨k, c, hk, hc, ⟨by omega, by omega⟩, by rw [Nat.sub_sub]⟩
          | false =>
            simp [hl0, hlt] at q
            subst q
            have hge : ¬ l < mm := fun h' => by have : Nat.blt l mm = true := Nat.ble_eq_true_of_le h'; rw [hlt] at this; cases this
            by_cases hml : c - qq = l
            · refine ⟨.slice (some ⟨k, o, none⟩) (hh - l) (c - qq - l), by simp [Instr.sliceAt, Instr.slice, run_underlying hu, r1, run_sz hs] <;> simp [hml], ?_⟩
              simp only [vrel]
              exact ⟨by omega, k, c, _, hk, hc, by omega, fun hh' => by omega, by rw [show hh - l = 0 by omega, Nat.sub_sub]⟩
            · refine ⟨.slice (some ⟨k, o + l * s, none⟩) (hh - l) (c - qq - l), by simp [Instr.sliceAt, Instr.slice, run_underlying hu, r1, run_sz hs, hml, addr_add], ?_⟩
              simp only [vrel]
              exact ⟨by omega, k, c, _, hk, hc, by omega, fun _ => rfl, by rw [show hh - l = 0 by omega, Nat.sub_sub]⟩
    · cases q
  · cases q
/-! Elements. -/
def idxA (P : Program) (t : TypeId) (x i : V) : Option V :=
  match P.underlying t, x, i with
  | some (.slice el), .slice (some p) len _, .int _ n => (match sz P el with
    | some s => if 0 ≤ n ∧ n < len then some (.ptr (some (p.1, p.2 + n.toNat * s))) else none
    | none => none)
  | some (.array len el), .ptr (some p), .int _ n => (match sz P el with
    | some s => if 0 ≤ n ∧ n < len then some (.ptr (some (p.1, p.2 + n.toNat * s))) else none
    | none => none)
  | _, _, _ => none
theorem run_idxA {t : TypeId} {x i v : V} {x' i' : Value} (hx : vrel e x x') (hi : vrel e i i') (q : idxA P t x i = some v) : ∃ z, (Instr.indexAt t x' i').run P w = .ok z w ∧ vrel e v z := by
  unfold idxA at q
  split at q
  · rename_i el p len c k n hu
    simp only [vrel] at hi
    subst hi
    split at q
    · rename_i s hs
      split at q
      · rename_i hn
        cases q
        obtain ⟨b, o⟩ := p
        have : ∃ k c', e.ρ b = some k ∧ x' = .slice (some ⟨k, o, none⟩) len c' := by
          cases c with
          | exact c => simp only [vrel] at hx; obtain ⟨k, h1, h2⟩ := hx; exact ⟨k, _, h1, h2⟩
          | upto c m => simp only [vrel] at hx; obtain ⟨k, c, h1, _, _, h2⟩ := hx; exact ⟨k, _, h1, h2⟩
          | tail c => simp only [vrel] at hx; obtain ⟨rfl, _⟩ := hx; omega
        obtain ⟨k, c', hk, rfl⟩ := this
        refine ⟨.pointer (some ⟨k, o + n.toNat * s, none⟩), ?_, by simp only [vrel]; exact ⟨k, hk, rfl⟩⟩
        simp [Instr.indexAt, asIntOf, run_underlying hu, run_sz hs, hn, addr_add]
      · cases q
    · cases q
  · rename_i len el p k n hu
    simp only [vrel] at hi
    subst hi
    split at q
    · rename_i s hs
      split at q
      · rename_i hn
        cases q
        obtain ⟨b, o⟩ := p
        simp only [vrel] at hx
        obtain ⟨k, hk, rfl⟩ := hx
        refine ⟨.pointer (some ⟨k, o + n.toNat * s, none⟩), ?_, by simp only [vrel]; exact ⟨k, hk, rfl⟩⟩
        simp [Instr.indexAt, asIntOf, run_underlying hu, run_sz hs, hn, addr_add, Instr.sureAddr]
      · cases q
    · cases q
  · cases q
def idxV (P : Program) (t : TypeId) (x i : V) : Option V :=
  match P.underlying t, x, i with
  | some (.array len el), .agg cs, .int _ n => (match sz P el with
    | some s => if 0 ≤ n ∧ n < len then partV P el cs (n.toNat * s) else none
    | none => none)
  | some .string, .str s, .int _ n => if 0 ≤ n then (match s[n.toNat]? with
    | some b => some (.int .u8 b.toNat)
    | none => none) else none
  | _, _, _ => none
theorem run_idxV {t : TypeId} {x i v : V} {x' i' : Value} (hx : vrel e x x') (hi : vrel e i i') (q : idxV P t x i = some v) : ∃ z, (Instr.index t x' i').run P w = .ok z w ∧ vrel e v z := by
  unfold idxV at q
  split at q
  · rename_i len el cs k n hu
    simp only [vrel] at hi hx
    subst hi
    obtain ⟨vs, rfl, hv⟩ := hx
    split at q
    · rename_i s hs
      split at q
      · rename_i hn
        obtain ⟨z, h1, h2⟩ := run_partV (w := w) hv q
        exact ⟨z, by simp [Instr.index, asIntOf, run_underlying hu, run_sz hs, hn, h1], h2⟩
      · cases q
    · cases q
  · rename_i s k n hu
    simp only [vrel] at hi hx
    subst hi hx
    split at q
    · rename_i hn
      split at q
      · rename_i b hb
        cases q
        refine ⟨.int .u8 b.toNat, ?_, by simp only [vrel]⟩
        have hb' : (⟨⟨s⟩⟩ : ByteArray)[n.toNat]? = some b := by
          obtain ⟨hlt, hbe⟩ := List.getElem?_eq_some_iff.1 hb
          have hlt' : n.toNat < (⟨⟨s⟩⟩ : ByteArray).size := hlt
          rw [getElem?_pos (⟨⟨s⟩⟩ : ByteArray) n.toNat hlt']
          exact congrArg some hbe
        simp [Instr.index, asIntOf, run_underlying hu, hn, hb']
      · cases q
    · cases q
  · cases q
/-! Keys of maps. -/
def findV (P : Program) (kt : TypeId) (k : V) : List (V × V × Nat) → Nat → Option (Option (Nat × V × Nat))
  | [], _ => some none
  | (k', v, s) :: es, i => match eqv P 10000 kt k k' with
    | some true => some (some (i, v, s))
    | some false => findV P kt k es (i + 1)
    | none => none
def Found (e : E) (l : List MapEntry) (i0 : Nat) : Option (Nat × V × Nat) → Option (Nat × Value) → Prop
  | none, r => r = none
  | some (i, v, s), r => ∃ x, i0 ≤ i ∧ l[i - i0]? = some x ∧ r = some (i, x.val) ∧ vrel e v x.val ∧ e.κ s = some x.born
theorem Found.cons {l : List MapEntry} {x : MapEntry} {i0 : Nat} {r : Option (Nat × V × Nat)} {r' : Option (Nat × Value)} (q : Found e l (i0 + 1) r r') : Found e (x :: l) i0 r r' := by
  cases r with
  | none => exact q
  | some t =>
    obtain ⟨i, v, s⟩ := t
    obtain ⟨y, h1, h2, h3, h4⟩ := q
    refine ⟨y, by omega, ?_, h3, h4⟩
    rw [show i - i0 = (i - (i0 + 1)) + 1 by omega]
    simpa using h2
theorem run_findAsking {kt : TypeId} {k : V} {kx : Value} (hk : vrel e k kx) : ∀ (es : List (V × V × Nat)) (l : List MapEntry) (i : Nat) (r : Option (Nat × V × Nat)), mrel e es l → findV P kt k es i = some r →
    ∃ r', (Instr.findAsking kt kx l i).run P w = .ok r' w ∧ Found e l i r r'
  | [], _, i, r, hm, q => by
    cases q
    have hm : _ = [] := hm
    subst hm
    exact ⟨none, rfl, rfl⟩
  | (k', v, s) :: es, _, i, r, hm, q => by
    obtain ⟨x, l, rfl, h1, h2, h3, h4⟩ := hm
    unfold findV at q
    cases he : eqv P 10000 kt k k' with
    | none => rw [he] at q; cases q
    | some b =>
      have := run_eqv (w := w) 10000 kt k k' b kx x.key he hk h1
      rw [he] at q
      cases b with
      | true =>
        cases q
        exact ⟨some (i, x.val), by simp [Instr.findAsking, Op.equal, Op.maxDepth, this], x, Nat.le_refl _, by simp, rfl, h2, h3⟩
      | false =>
        obtain ⟨r', h5, h6⟩ := run_findAsking hk es l (i + 1) r h4 q
        exact ⟨r', by simp [Instr.findAsking, Op.equal, Op.maxDepth, this, h5], h6.cons⟩
theorem sameNow_eqv {kt : TypeId} {d : TypeDesc} {k k' : V} {kx kx' : Value} {b c : Bool} (hd : P.underlying kt = some d) (h1 : vrel e k kx) (h2 : vrel e k' kx') (q : eqv P 10000 kt k k' = some b) (hs : Instr.sameNow d kx kx' = some c) : c = b := by
  unfold eqv at q
  rw [hd] at q
  split at q
  all_goals first
    | (cases q; done)
    | skip
  all_goals (rename_i hu; cases hu)
  all_goals first
    | (simp only [vrel] at h1 h2; subst h1 h2; simp [Instr.sameNow, str_beq] at hs; simp_all; done)
    | (simp only [vrel] at h1 h2; subst h1 h2; simp only [Instr.sameNow] at hs; split at hs <;> split at q <;> simp_all; done)
    | (simp [Instr.sameNow] at hs; done)
    | skip
theorem now_found {kt : TypeId} {d : TypeDesc} {k : V} {kx : Value} (hd : P.underlying kt = some d) (hk : vrel e k kx) : ∀ (es : List (V × V × Nat)) (l : List MapEntry) (i : Nat) (r : Option (Nat × V × Nat)) (r' : Option (Nat × Value)), mrel e es l → findV P kt k es i = some r →
    Instr.findNow d kx l i = some r' → Found e l i r r'
  | [], _, i, r, r', hm, q, hn => by
    cases q
    have hm : _ = [] := hm
    subst hm
    simp [Instr.findNow] at hn
    exact hn.symm
  | (k', v, s) :: es, _, i, r, r', hm, q, hn => by
    obtain ⟨x, l, rfl, h1, h2, h3, h4⟩ := hm
    unfold findV at q
    unfold Instr.findNow at hn
    cases he : eqv P 10000 kt k k' with
    | none => rw [he] at q; cases q
    | some b =>
      rw [he] at q
      cases hs : Instr.sameNow d kx x.key with
      | none => rw [hs] at hn; cases hn
      | some c =>
        have := sameNow_eqv hd hk h1 he hs
        subst this
        rw [hs] at hn
        cases c with
        | true =>
          cases q
          cases hn
          exact ⟨x, Nat.le_refl _, by simp, rfl, h2, h3⟩
        | false => exact (now_found hd hk es l (i + 1) r r' h4 q hn).cons
theorem run_findV {kt : TypeId} {k : V} {kx : Value} {es : List (V × V × Nat)} {l : List MapEntry} {r : Option (Nat × V × Nat)} (hu : (P.underlying kt).isSome = true) (hk : vrel e k kx) (hm : mrel e es l) (q : findV P kt k es 0 = some r) :
    ∃ r', (Instr.findKey kt kx l).run P w = .ok r' w ∧ Found e l 0 r r' := by
  obtain ⟨d, hd⟩ := Option.isSome_iff_exists.1 hu
  cases hn : Instr.findNow d kx l 0 with
  | some r' => exact ⟨r', by simp [Instr.findKey, run_underlying hd, hn], now_found hd hk es l 0 r r' hm q hn⟩
  | none =>
    obtain ⟨r', h1, h2⟩ := run_findAsking (P := P) (w := w) (kt := kt) hk es l 0 r hm q
    exact ⟨r', by simp [Instr.findKey, run_underlying hd, hn, h1], h2⟩
/-- The one entry of a key: all entries are looked at, so that their row does not count. -/
def findA (P : Program) (kt : TypeId) (k : V) : List (V × V × Nat) → Option (Option (V × V × Nat))
  | [] => some none
  | p :: es => match eqv P 10000 kt k p.1, findA P kt k es with
    | some true, some none => some (some p)
    | some false, some r => some r
    | _, _ => none
theorem findA_cons {kt : TypeId} {k : V} {p : V × V × Nat} {es : List (V × V × Nat)} {r : Option (V × V × Nat)} (q : findA P kt k (p :: es) = some r) :
    (eqv P 10000 kt k p.1 = some true ∧ findA P kt k es = some none ∧ r = some p) ∨ (eqv P 10000 kt k p.1 = some false ∧ findA P kt k es = some r) := by
  unfold findA at q
  split at q
  · rename_i h1 h2; cases q; exact .inl ⟨h1, h2, rfl⟩
  · rename_i h1 h2; cases q; exact .inr ⟨h1, h2⟩
  · cases q
theorem findA_mk {kt : TypeId} {k : V} {p : V × V × Nat} {es : List (V × V × Nat)} {r : Option (V × V × Nat)} (q : (eqv P 10000 kt k p.1 = some true ∧ findA P kt k es = some none ∧ r = some p) ∨ (eqv P 10000 kt k p.1 = some false ∧ findA P kt k es = some r)) :
    findA P kt k (p :: es) = some r := by
  rcases q with ⟨h1, h2, rfl⟩ | ⟨h1, h2⟩
  · simp only [findA, h1, h2]
  · simp only [findA, h1, h2]
theorem findA_perm {kt : TypeId} {k : V} {es es' : List (V × V × Nat)} (hp : es.Perm es') : ∀ {r : Option (V × V × Nat)}, findA P kt k es = some r → findA P kt k es' = some r := by
  induction hp with
  | nil => intro r q; exact q
  | cons p _ ih =>
    intro r q
    refine findA_mk ?_
    rcases findA_cons q with ⟨h1, h2, h3⟩ | ⟨h1, h2⟩
    · exact .inl ⟨h1, ih h2, h3⟩
    · exact .inr ⟨h1, ih h2⟩
  | swap p p' es =>
    intro r q
    rcases findA_cons q with ⟨h1, h2, h3⟩ | ⟨h1, h2⟩
    · rcases findA_cons h2 with ⟨h4, h5, h6⟩ | ⟨h4, h5⟩
      · cases h6
      · exact findA_mk (.inr ⟨h4, findA_mk (.inl ⟨h1, h5, h3⟩)⟩)
    · rcases findA_cons h2 with ⟨h4, h5, h6⟩ | ⟨h4, h5⟩
      · exact findA_mk (.inl ⟨h4, findA_mk (.inr ⟨h1, h5⟩), h6⟩)
      · exact findA_mk (.inr ⟨h4, findA_mk (.inr ⟨h1, h5⟩)⟩)
  | trans _ _ ih1 ih2 => intro r q; exact ih2 (ih1 q)
theorem findA_none {kt : TypeId} {k : V} : ∀ (es : List (V × V × Nat)) (i : Nat), findA P kt k es = some none → findV P kt k es i = some none
  | [], i, _ => rfl
  | p :: es, i, q => by
    rcases findA_cons q with ⟨_, _, h3⟩ | ⟨h1, h2⟩
    · cases h3
    · simp only [findV, h1]
      exact findA_none es (i + 1) h2
theorem findA_some {kt : TypeId} {k : V} {k0 v : V} {s : Nat} : ∀ (es : List (V × V × Nat)) (i : Nat), findA P kt k es = some (some (k0, v, s)) → ∃ j, es[j]? = some (k0, v, s) ∧ findV P kt k es i = some (some (i + j, v, s))
  | [], i, q => by cases q
  | p :: es, i, q => by
    rcases findA_cons q with ⟨h1, h2, h3⟩ | ⟨h1, h2⟩
    · cases h3
      exact ⟨0, rfl, by simp only [findV, h1]; rfl⟩
    · obtain ⟨j, h4, h5⟩ := findA_some es (i + 1) h2
      refine ⟨j + 1, by simpa using h4, ?_⟩
      simp only [findV, h1]
      rw [h5, show i + (j + 1) = i + 1 + j by omega]
/-- What the model finds. -/
def FoundA (e : E) (l : List MapEntry) (es' : List (V × V × Nat)) : Option (V × V × Nat) → Option (Nat × Value) → Prop
  | none, r => r = none
  | some p, r => ∃ j x, es'[j]? = some p ∧ l[j]? = some x ∧ r = some (j, x.val) ∧ vrel e p.2.1 x.val ∧ e.κ p.2.2 = some x.born
theorem run_findA {kt : TypeId} {k : V} {kx : Value} {es es' : List (V × V × Nat)} {l : List MapEntry} {r : Option (V × V × Nat)} (hu : (P.underlying kt).isSome = true) (hk : vrel e k kx) (hp : es.Perm es') (hm : mrel e es' l) (q : findA P kt k es = some r) :
    ∃ r', (Instr.findKey kt kx l).run P w = .ok r' w ∧ FoundA e l es' r r' := by
  have q' := findA_perm hp q
  cases r with
  | none =>
    obtain ⟨r', h1, h2⟩ := run_findV (w := w) hu hk hm (findA_none es' 0 q')
    exact ⟨r', h1, h2⟩
  | some p =>
    obtain ⟨k0, v, s⟩ := p
    obtain ⟨j, h3, h4⟩ := findA_some es' 0 q'
    obtain ⟨r', h1, x, _, hx, h5, h6, h7⟩ := run_findV (w := w) hu hk hm h4
    simp only [Nat.zero_add, Nat.sub_zero] at hx h5
    exact ⟨r', h1, j, x, h3, hx, h5, h6, h7⟩
def flatT (P : Program) (t : TypeId) : Bool :=
  match P.underlying t with
  | some .bool => true
  | some (.int _) => true
  | some .string => true
  | _ => false
def keyOk (P : Program) (kt : TypeId) (k : V) : Bool :=
  match P.underlying kt, k with
  | some (.struct fs), .agg cs => fs.toList.all fun f => flatT P f.type && (partV P f.type cs f.offset).isSome
  | _, _ => flatT P kt
theorem run_checkFlat {t : TypeId} (hf : flatT P t = true) (em : Bool) (n : Nat) (x : Value) : (Instr.checkKey em (n + 1) t x).run P w = .ok () w := by
  unfold flatT at hf
  split at hf
  · rename_i hu; simp [Instr.checkKey, run_underlying hu]
  · rename_i hu; simp [Instr.checkKey, run_underlying hu]
  · rename_i hu; simp [Instr.checkKey, run_underlying hu]
  · cases hf
theorem run_keyOk {kt : TypeId} {k : V} {kx : Value} (hk : vrel e k kx) (q : keyOk P kt k = true) (em : Bool) (n : Nat) : (Instr.checkKey em (n + 2) kt kx).run P w = .ok () w := by
  unfold keyOk at q
  split at q
  · rename_i fs cs hu
    simp only [vrel] at hk
    obtain ⟨vs, rfl, hv⟩ := hk
    rw [Instr.checkKey]
    simp only [Sem.run_bind, run_underlying hu, Result.andThen_ok]
    rw [← Array.forIn_toList]
    have : ∀ (l : List Field), l.all (fun f => flatT P f.type && (partV P f.type cs f.offset).isSome) = true →
        (forIn (m := Sem) l PUnit.unit fun f r => do
          if f.name ≠ "_" then do
            Instr.checkKey em (n + 1) f.type (← part f.type ⟨vs⟩ f.offset)
            pure (ForInStep.yield PUnit.unit)
          else pure (ForInStep.yield PUnit.unit)).run P w = .ok PUnit.unit w := by
      intro l
      induction l with
      | nil => intro _; simp
      | cons f l ih =>
        intro ha
        simp only [List.all_cons, Bool.and_eq_true] at ha
        obtain ⟨⟨h1, h2⟩, h3⟩ := ha
        obtain ⟨y, hy⟩ := Option.isSome_iff_exists.1 h2
        obtain ⟨z, h4, _⟩ := run_partV (w := w) hv hy
        have h5 := run_checkFlat (w := w) h1 em n z
        simp only [List.forIn_cons, Sem.run_bind, Sem.run_ite]
        split
        · simp only [h4, Result.andThen_ok, h5, Sem.run_pure, ih h3]
        · simp only [Sem.run_pure, Result.andThen_ok, ih h3]
    have := this fs.toList q
    rw [this]
    rfl
  · exact run_checkFlat q em (n + 1) kx
end
end Go.Proofs.YtjngkcnanhnopaaGreatDoor.Ev

import Derived.Test.YtjngkcnanhnopaaGreatDoorJc
/-! The join by renaming: outcomes that differ by the names of their new blocks, and by the row of a map's entries. -/
namespace Go.Proofs.YtjngkcnanhnopaaGreatDoor.Ev
open Go Go.RowKit
set_option linter.unusedVariables false
set_option linter.unusedSimpArgs false

/-- New numbers for those of an outcome: 'm' from old to new, 'g' from new to old, 'gh' for a map's clock. -/
structure Ren where
  base : Nat
  top : Nat
  m : Tr Nat
  g : Tr Nat
  gh : Tr Nat
def isB : Option Nat → Nat → Bool
  | some a, b => Nat.beq a b
  | none, _ => false
theorem isB_eq {a : Option Nat} {b : Nat} (h : isB a b = true) : a = some b := by
  cases a with
  | none => cases h
  | some a => rw [Nat.eq_of_beq_eq_true h]
def Ren.src (r : Ren) (n : Nat) : Option Nat := cond (Nat.blt n r.base) (some n) (cond (Nat.blt n r.top) (match r.g.get n with
  | some b => cond (Nat.ble r.base b) (some b) none
  | none => none) none)
def Ren.f (r : Ren) (b : Nat) : Option Nat := cond (Nat.blt b r.base) (some b) (match r.m.get b with
  | some n => cond (isB (r.src n) b) (some n) none
  | none => none)
theorem bltT {a b : Nat} : Nat.blt a b = true ↔ a < b := ⟨fun h => Nat.le_of_ble_eq_true h, fun h => Nat.ble_eq_true_of_le h⟩
theorem bltF {a b : Nat} : Nat.blt a b = false ↔ b ≤ a := by
  rw [← Bool.not_eq_true, bltT]; omega
theorem Ren.src_old {r : Ren} {n : Nat} (h : n < r.base) : r.src n = some n := by
  unfold Ren.src; rw [bltT.2 h]; rfl
theorem Ren.src_new {r : Ren} {n b : Nat} (h : r.base ≤ n) (q : r.src n = some b) : n < r.top ∧ r.g.get n = some b ∧ r.base ≤ b := by
  unfold Ren.src at q
  rw [bltF.2 h] at q
  simp only [cond_false] at q
  cases ht : Nat.blt n r.top with
  | false => rw [ht] at q; cases q
  | true =>
    rw [ht] at q
    simp only [cond_true] at q
    split at q
    · rename_i b' hb
      cases hc : Nat.ble r.base b' with
      | false => rw [hc] at q; cases q
      | true => rw [hc] at q; cases q; exact ⟨bltT.1 ht, hb, Nat.le_of_ble_eq_true hc⟩
    · cases q
theorem Ren.f_ok {r : Ren} {b n : Nat} (q : r.f b = some n) : r.src n = some b := by
  unfold Ren.f at q
  cases hb : Nat.blt b r.base with
  | true => rw [hb] at q; cases q; exact Ren.src_old (bltT.1 hb)
  | false =>
    rw [hb] at q
    simp only [cond_false] at q
    split at q
    · rename_i n' hm
      cases hc : isB (r.src n') b with
      | false => rw [hc] at q; cases q
      | true => rw [hc] at q; cases q; exact isB_eq hc
    · cases q
def Ren.env (r : Ren) (e : E) : E := ⟨fun n => (r.src n).bind e.ρ, fun n => (r.src n).bind e.κ, r.top⟩
theorem Ren.env_ρ {r : Ren} {e : E} {n b : Nat} (q : r.src n = some b) : (r.env e).ρ n = e.ρ b := by
  show (r.src n).bind e.ρ = _
  rw [q]; rfl
theorem Ren.env_κ {r : Ren} {e : E} {n b : Nat} (q : r.src n = some b) : (r.env e).κ n = e.κ b := by
  show (r.src n).bind e.κ = _
  rw [q]; rfl
mutual
def renV (r : Ren) : V → Option V
  | .bool b => some (.bool b)
  | .int k n => some (.int k n)
  | .str s => some (.str s)
  | .ptr none => some (.ptr none)
  | .ptr (some p) => (match r.f p.1 with
    | some n => some (.ptr (some (n, p.2)))
    | none => none)
  | .slice none n c => some (.slice none n c)
  | .slice (some p) n c => (match r.f p.1 with
    | some b => some (.slice (some (b, p.2)) n c)
    | none => none)
  | .map none => some (.map none)
  | .map (some b) => (match r.f b with
    | some n => some (.map (some n))
    | none => none)
  | .func fn f c => (match renVs r f, renVs r c with
    | some f', some c' => some (.func fn f' c')
    | _, _ => none)
  | .yield _ => none
  | .nilFunc => some .nilFunc
  | .iface t v => (match renV r v with
    | some v' => some (.iface t v')
    | none => none)
  | .nilIface => some .nilIface
  | .agg l => (match renVs r l with
    | some l' => some (.agg l')
    | none => none)
  | .tuple l => (match renVs r l with
    | some l' => some (.tuple l')
    | none => none)
  | .stamp b => (match r.f b with
    | some n => some (.stamp n)
    | none => none)
  | .junk => some .junk
def renVs (r : Ren) : List V → Option (List V)
  | [] => some []
  | v :: l => (match renV r v, renVs r l with
    | some v', some l' => some (v' :: l')
    | _, _ => none)
end
mutual
theorem renV_ok {r : Ren} {e : E} : ∀ (v v' : V) (x : Value), renV r v = some v' → vrel e v x → vrel (r.env e) v' x
  | .bool _, _, _, q, h | .int _ _, _, _, q, h | .str _, _, _, q, h | .ptr none, _, _, q, h | .map none, _, _, q, h | .nilFunc, _, _, q, h | .nilIface, _, _, q, h | .junk, _, _, q, h => by
    simp only [renV] at q
    cases q
    simp only [vrel] at h ⊢ <;> exact h
  | .slice none _ (.exact _), _, _, q, h | .slice none _ (.upto _ _), _, _, q, h => by
    simp only [renV] at q
    cases q
    simp only [vrel] at h ⊢ <;> exact h
  | .slice none _ (.tail _), _, _, q, h => by simp only [vrel] at h
  | .slice (some (b, o)) n (.tail c), _, _, q, h => by
    simp only [renV] at q
    split at q
    · rename_i n' hn
      cases q
      simp only [vrel] at h ⊢
      obtain ⟨h0, k, c', a, h1, h2, h3⟩ := h
      exact ⟨h0, k, c', a, (Ren.env_ρ (Ren.f_ok hn)).trans h1, (Ren.env_κ (Ren.f_ok hn)).trans h2, h3⟩
    · cases q
  | .yield _, _, _, q, _ => by simp only [renV] at q; cases q
  | .ptr (some (b, o)), _, _, q, h => by
    simp only [renV] at q
    split at q
    · rename_i n hn
      cases q
      simp only [vrel] at h ⊢
      obtain ⟨k, h1, h2⟩ := h
      exact ⟨k, (Ren.env_ρ (Ren.f_ok hn)).trans h1, h2⟩
    · cases q
  | .slice (some (b, o)) n (.exact c), _, _, q, h => by
    simp only [renV] at q
    split at q
    · rename_i n' hn
      cases q
      simp only [vrel] at h ⊢
      obtain ⟨k, h1, h2⟩ := h
      exact ⟨k, (Ren.env_ρ (Ren.f_ok hn)).trans h1, h2⟩
    · cases q
  | .slice (some (b, o)) n (.upto c m), _, _, q, h => by
    simp only [renV] at q
    split at q
    · rename_i n' hn
      cases q
      simp only [vrel] at h ⊢
      obtain ⟨k, c', h1, h2, h3⟩ := h
      exact ⟨k, c', (Ren.env_ρ (Ren.f_ok hn)).trans h1, (Ren.env_κ (Ren.f_ok hn)).trans h2, h3⟩
    · cases q
  | .map (some b), _, _, q, h => by
    simp only [renV] at q
    split at q
    · rename_i n hn
      cases q
      simp only [vrel] at h ⊢
      obtain ⟨k, h1, h2⟩ := h
      exact ⟨k, (Ren.env_ρ (Ren.f_ok hn)).trans h1, h2⟩
    · cases q
  | .stamp b, _, _, q, h => by
    simp only [renV] at q
    split at q
    · rename_i n hn
      cases q
      simp only [vrel] at h ⊢
      obtain ⟨k, h1, h2⟩ := h
      exact ⟨k, (Ren.env_κ (Ren.f_ok hn)).trans h1, h2⟩
    · cases q
  | .func fn f c, _, _, q, h => by
    simp only [renV] at q
    split at q
    · rename_i f' c' hf hc
      cases q
      simp only [vrel] at h ⊢
      obtain ⟨fs, cs, h1, h2, h3⟩ := h
      exact ⟨fs, cs, h1, renVs_ok f f' fs hf h2, renVs_ok c c' cs hc h3⟩
    · cases q
  | .iface t v, _, _, q, h => by
    simp only [renV] at q
    split at q
    · rename_i v' hv
      cases q
      simp only [vrel] at h ⊢
      obtain ⟨y, h1, h2⟩ := h
      exact ⟨y, h1, renV_ok v v' y hv h2⟩
    · cases q
  | .agg l, _, _, q, h => by
    simp only [renV] at q
    split at q
    · rename_i l' hl
      cases q
      simp only [vrel] at h ⊢
      obtain ⟨y, h1, h2⟩ := h
      exact ⟨y, h1, renVs_ok l l' y hl h2⟩
    · cases q
  | .tuple l, _, _, q, h => by
    simp only [renV] at q
    split at q
    · rename_i l' hl
      cases q
      simp only [vrel] at h ⊢
      obtain ⟨y, h1, h2⟩ := h
      exact ⟨y, h1, renVs_ok l l' y hl h2⟩
    · cases q
theorem renVs_ok {r : Ren} {e : E} : ∀ (l l' : List V) (xs : List Value), renVs r l = some l' → vrels e l xs → vrels (r.env e) l' xs
  | [], _, _, q, h => by
    simp only [renVs] at q
    cases q
    simp only [vrels] at h ⊢
    exact h
  | v :: l, _, _, q, h => by
    simp only [renVs] at q
    split at q
    · rename_i v' l' hv hl
      cases q
      simp only [vrels] at h ⊢
      obtain ⟨x, rr, h1, h2, h3⟩ := h
      exact ⟨x, rr, h1, renV_ok v v' x hv h2, renVs_ok l l' rr hl h3⟩
    · cases q
end
/-! Entries, in the row of their keys. -/
def cmpN (a b : Nat) : Nat := cond (Nat.blt a b) 0 (cond (Nat.beq a b) 1 2)
def cmpB : List UInt8 → List UInt8 → Nat
  | [], [] => 1
  | [], _ :: _ => 0
  | _ :: _, [] => 2
  | a :: l, b :: r => (match cmpN a.toNat b.toNat with
    | 1 => cmpB l r
    | c => c)
mutual
def cmpV : V → V → Nat
  | .int _ a, .int _ b => cond (decide (a < b)) 0 (cond (decide (a = b)) 1 2)
  | .str a, .str b => cmpB a b
  | .bool a, .bool b => cmpN a.toNat b.toNat
  | .agg a, .agg b => cmpVs a b
  | _, _ => 1
def cmpVs : List V → List V → Nat
  | a :: l, b :: r => (match cmpV a b with
    | 1 => cmpVs l r
    | c => c)
  | _, _ => 1
end
def ltV (a b : V) : Bool := Nat.beq (cmpV a b) 0
def insE (p : V × V × Nat) : List (V × V × Nat) → List (V × V × Nat)
  | [] => [p]
  | q :: l => cond (ltV q.1 p.1) (q :: insE p l) (p :: q :: l)
def sortE : List (V × V × Nat) → List (V × V × Nat)
  | [] => []
  | p :: l => insE p (sortE l)
theorem insE_perm (p : V × V × Nat) : ∀ l, (insE p l).Perm (p :: l)
  | [] => List.Perm.refl _
  | q :: l => by
    unfold insE
    cases ltV q.1 p.1
    · exact List.Perm.refl _
    · exact ((insE_perm p l).cons q).trans (List.Perm.swap p q l)
theorem sortE_perm : ∀ l, (sortE l).Perm l
  | [] => List.Perm.refl _
  | p :: l => (insE_perm p (sortE l)).trans ((sortE_perm l).cons p)
def renE (r : Ren) : List (V × V × Nat) → Option (List (V × V × Nat))
  | [] => some []
  | p :: l => (match renV r p.1, renV r p.2.1, r.f p.2.2, renE r l with
    | some k, some v, some s, some l' => some ((k, v, s) :: l')
    | _, _, _, _ => none)
theorem renE_cons {r : Ren} {p : V × V × Nat} {l l' : List (V × V × Nat)} (q : renE r (p :: l) = some l') : ∃ k v s l2, renV r p.1 = some k ∧ renV r p.2.1 = some v ∧ r.f p.2.2 = some s ∧ renE r l = some l2 ∧ l' = (k, v, s) :: l2 := by
  unfold renE at q
  split at q
  · rename_i k v s l2 h1 h2 h3 h4
    cases q
    exact ⟨k, v, s, l2, h1, h2, h3, h4, rfl⟩
  · cases q
theorem renE_mk {r : Ren} {p : V × V × Nat} {l l2 : List (V × V × Nat)} {k v : V} {s : Nat} (h1 : renV r p.1 = some k) (h2 : renV r p.2.1 = some v) (h3 : r.f p.2.2 = some s) (h4 : renE r l = some l2) : renE r (p :: l) = some ((k, v, s) :: l2) := by
  unfold renE
  rw [h1, h2, h3, h4]
theorem renE_perm {r : Ren} {l m : List (V × V × Nat)} (h : l.Perm m) : ∀ l', renE r l = some l' → ∃ m', renE r m = some m' ∧ l'.Perm m' := by
  induction h with
  | nil => intro l' q; exact ⟨l', q, List.Perm.refl _⟩
  | cons p _ ih =>
    intro l' q
    obtain ⟨k, v, s, l2, h1, h2, h3, h4, rfl⟩ := renE_cons q
    obtain ⟨m', g1, g2⟩ := ih l2 h4
    exact ⟨_, renE_mk h1 h2 h3 g1, g2.cons _⟩
  | swap p q' l =>
    intro l' q
    obtain ⟨k, v, s, l2, h1, h2, h3, h4, rfl⟩ := renE_cons q
    obtain ⟨k', v', s', l3, g1, g2, g3, g4, rfl⟩ := renE_cons h4
    exact ⟨_, renE_mk g1 g2 g3 (renE_mk h1 h2 h3 g4), List.Perm.swap _ _ _⟩
  | trans _ _ ih1 ih2 =>
    intro l' q
    obtain ⟨m1, g1, g2⟩ := ih1 l' q
    obtain ⟨m2, g3, g4⟩ := ih2 m1 g1
    exact ⟨m2, g3, g2.trans g4⟩
theorem renE_ok {r : Ren} {e : E} : ∀ {l l' : List (V × V × Nat)} {xs : List MapEntry}, renE r l = some l' → mrel e l xs → mrel (r.env e) l' xs
  | [], _, _, q, h => by
    unfold renE at q
    cases q
    exact h
  | (k0, v0, s0) :: l, _, _, q, ⟨x, rr, h1, h2, h3, h4, h5⟩ => by
    obtain ⟨k, v, s, l2, g1, g2, g3, g4, rfl⟩ := renE_cons q
    exact ⟨x, rr, h1, renV_ok _ _ _ g1 h2, renV_ok _ _ _ g2 h3, (Ren.env_κ (Ren.f_ok g3)).trans h4, renE_ok g4 h5⟩
def renLs (r : Ren) (b : Nat) : Option Nat → Option (Option Nat)
  | none => some none
  | some s => cond (Nat.blt s r.base) (some (some s)) (match r.gh.get b with
    | some n => cond (isB (r.src n) s) (some (some n)) none
    | none => none)
theorem renLs_ok {r : Ren} {e : E} {b : Nat} {ls ls' : Option Nat} {c : Nat} (q : renLs r b ls = some ls') (h : crel e ls c) : crel (r.env e) ls' c := by
  cases ls with
  | none => cases q; exact h
  | some s =>
    obtain ⟨n, h1, h2⟩ := h
    unfold renLs at q
    dsimp only at q
    cases hb : Nat.blt s r.base with
    | true =>
      rw [hb] at q
      cases q
      exact ⟨n, (Ren.env_κ (Ren.src_old (bltT.1 hb))).trans h1, h2⟩
    | false =>
      rw [hb] at q
      simp only [cond_false] at q
      split at q
      · rename_i i hi
        cases hc : isB (r.src i) s with
        | false => rw [hc] at q; cases q
        | true => rw [hc] at q; cases q; exact ⟨n, (Ren.env_κ (isB_eq hc)).trans h1, h2⟩
      · cases q
def renO (r : Ren) (b : Nat) : O → Option O
  | .cells l t opn => (match renVs r l with
    | some l' => some (.cells l' t opn)
    | none => none)
  | .map es ls => (match renE r (sortE es), renLs r b ls with
    | some es', some ls' => some (.map es' ls')
    | _, _ => none)
  | _ => none
theorem renO_ok {r : Ren} {e : E} {b n : Nat} (hn : r.src n = some b) : ∀ {o o' : O} {ob : Option Obj}, renO r b o = some o' → orel e b o ob → orel (r.env e) n o' ob
  | .cells l t none, _, _, q, ⟨vs, h1, h2⟩ => by
    simp only [renO] at q
    split at q
    · rename_i l' hl
      cases q
      exact ⟨vs, h1, renVs_ok _ _ _ hl h2⟩
    · cases q
  | .cells l t (some s), _, _, q, ⟨vs, rest, c, h1, h2, h3, h4⟩ => by
    simp only [renO] at q
    split at q
    · rename_i l' hl
      cases q
      exact ⟨vs, rest, c, h1, renVs_ok _ _ _ hl h2, (Ren.env_κ hn).trans h3, h4⟩
    · cases q
  | .map es ls, _, _, q, ⟨l, clk, es', h1, hp, h2, h3, h4, h5⟩ => by
    simp only [renO] at q
    split at q
    · rename_i es2 ls2 hes hls
      cases q
      obtain ⟨m', g1, g2⟩ := renE_perm ((sortE_perm es).trans hp) es2 hes
      exact ⟨l, clk, m', h1, g2, renE_ok g1 h2, h3, h4, renLs_ok hls h5⟩
    · cases q
  | .iter _ _ _ _, _, _, q, _ => by simp only [renO] at q; cases q
  | .loop _, _, _, q, _ => by simp only [renO] at q; cases q
  | .mark, _, _, q, _ => by simp only [renO] at q; cases q
end Go.Proofs.YtjngkcnanhnopaaGreatDoor.Ev

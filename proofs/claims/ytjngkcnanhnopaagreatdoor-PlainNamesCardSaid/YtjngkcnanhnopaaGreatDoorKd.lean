import Derived.Test.YtjngkcnanhnopaaGreatDoorKc
/-! The evaluator: arithmetic, slices of slices, keys of maps. -/
namespace Go.Proofs.YtjngkcnanhnopaaGreatDoor.Ev
open Go Go.RowKit
set_option linter.unusedVariables false
set_option linter.unusedSimpArgs false

def semV : Sem Value → Option V
  | .pure v => toV 3 v
  | _ => none
theorem run_semV {P : Program} {w : World} {e : E} {s : Sem Value} {v : V} (q : semV s = some v) : ∃ x, s.run P w = .ok x w ∧ vrel e v x := by
  cases s with
  | pure x => exact ⟨x, rfl, toV_rel 3 x v q⟩
  | _ => cases q
def intOp (op : BinOp) (k : IntKind) (a b : Int) : Sem Value :=
  match op with
  | .add | .sub | .mul => Op.intArith op k a b
  | .quo | .rem => Op.intDiv op k a b
  | .and | .or | .xor | .andNot => Op.intBits op k a b
  | _ => Op.intCmp op a b
def binI (op : BinOp) (k : IntKind) (a : Int) (k' : IntKind) (b : Int) : Option V :=
  match op with
  | .shl => semV (Op.shift .shl k a k' b)
  | .shr => semV (Op.shift .shr k a k' b)
  | op => if k = k' then semV (intOp op k a b) else none
theorem run_binI {P : Program} {w : World} {e : E} {op : BinOp} {k k' : IntKind} {a b : Int} {v : V} (t : TypeId) (q : binI op k a k' b = some v) : ∃ x, (binOp op t (.int k a) (.int k' b)).run P w = .ok x w ∧ vrel e v x := by
  unfold binI at q
  split at q
  · exact run_semV q
  · exact run_semV q
  · rename_i h1 h2
    split at q
    · rename_i hk
      subst hk
      have h3 : binOp op t (.int k a) (.int k b) = intOp op k a b := by
        cases op <;> first
          | (exact absurd rfl h1)
          | (exact absurd rfl h2)
          | (simp [binOp, intOp])
      rw [h3]
      exact run_semV q
    · cases q
def binV (P : Program) (op : BinOp) (t : TypeId) (x y : V) : Option V :=
  match x, y with
  | .int k a, .int k' b => binI op k a k' b
  | .str a, .str b => (match op with
    | .add => if a.length + b.length ≤ 9223372036854775807 then some (.str (a ++ b)) else none
    | .eql => some (.bool (a == b))
    | .neq => some (.bool (!(a == b)))
    | .lss => some (.bool (Op.bytesLess a b))
    | .leq => some (.bool (Op.bytesLess a b || a == b))
    | .gtr => some (.bool (!(Op.bytesLess a b || a == b)))
    | .geq => some (.bool (!Op.bytesLess a b))
    | _ => none)
  | .agg _, .agg _ => (match op with
    | .eql => cond (P.eqGuardType P.depth t) none (match eqv P 10000 t x y with
      | some b => some (.bool b)
      | none => none)
    | .neq => cond (P.eqGuardType P.depth t) none (match eqv P 10000 t x y with
      | some b => some (.bool (!b))
      | none => none)
    | _ => none)
  | .nilIface, .nilIface => none
  | .junk, _ => none
  | _, .junk => none
  | .stamp _, _ => none
  | _, .stamp _ => none
  | x, y => (match op with
    | .eql => (match eqv P 10000 t x y with
      | some b => some (.bool b)
      | none => none)
    | .neq => (match eqv P 10000 t x y with
      | some b => some (.bool (!b))
      | none => none)
    | _ => none)
section
variable {P : Program} {w0 w : World} {e : E} {h : H}
theorem run_binEq {op : BinOp} {t : TypeId} {x y : V} {x' y' : Value} {b : Bool} (hn : op = .eql ∨ op = .neq) (hx : vrel e x x') (hy : vrel e y y') (q : eqv P 10000 t x y = some b)
    (hm : ∀ xs ys, x = .agg xs → y = .agg ys → P.eqGuardType P.depth t = false) (xo yo : Operand) :
    (do eqGuard op t xo yo x' y'; binOp op t x' y').run P w = .ok (.bool (if op = .eql then b else !b)) w := by
  have heq := run_eqv (w := w) 10000 t x y b x' y' q hx hy
  have hg : (eqGuard op t xo yo x' y').run P w = .ok () w := by
    unfold eqv at q
    split at q
    all_goals try (cases q; done)
    all_goals (try simp only [vrel] at hx)
    all_goals (try simp only [vrel] at hy)
    · subst hx hy; rw [eqGuard_at_bool]; rfl
    · subst hx hy; rw [eqGuard_at_int]; rfl
    · subst hx hy; rw [eqGuard_at_string]; rfl
    · subst hx; rw [eqGuard_at_pointer]; rfl
    · obtain ⟨k, _, rfl⟩ := hx; rw [eqGuard_at_pointer]; rfl
    · obtain ⟨k, _, rfl⟩ := hx; rw [eqGuard_at_pointer]; rfl
    · subst hx; rw [eqGuard_at_slice]; rfl
    · obtain ⟨a, a', rfl, ha⟩ := slice_inv hx; rw [eqGuard_at_slice]; rfl
    · subst hx; rw [eqGuard_at_map]; rfl
    · obtain ⟨k, _, rfl⟩ := hx; rw [eqGuard_at_map]; rfl
    · subst hx; rw [eqGuard_at_nilFunc]; rfl
    · obtain ⟨fs, cs, rfl, _⟩ := hx; rw [eqGuard_at_func]; rfl
    · subst hx; obtain ⟨cs, rfl, _⟩ := hy; rw [eqGuard_nil_iface]; rfl
    · obtain ⟨cs, rfl, _⟩ := hx; rw [eqGuard_at_iface]; rfl
    · obtain ⟨xs, rfl, _⟩ := hx
      obtain ⟨ys, rfl, _⟩ := hy
      exact run_eqGuard_agg w op t xo yo _ _ (hm _ _ rfl rfl)
    · obtain ⟨xs, rfl, _⟩ := hx
      obtain ⟨ys, rfl, _⟩ := hy
      exact run_eqGuard_agg w op t xo yo _ _ (hm _ _ rfl rfl)
  have key : (binOp op t x' y').run P w = .ok (.bool (if op = .eql then b else !b)) w := by
    unfold eqv at q
    split at q
    all_goals try (cases q; done)
    all_goals (try simp only [vrel] at hx)
    all_goals (try simp only [vrel] at hy)
    · subst hx hy; rcases hn with rfl | rfl <;> simp [binOp, Op.equal, Op.maxDepth, heq]
    · rename_i k a k' b' hu
      subst hx hy
      split at q
      · rename_i hk
        subst hk
        cases q
        rcases hn with rfl | rfl <;> simp [binOp, Op.intCmp, bne]
      · cases q
    · rename_i a b' hu
      subst hx hy
      cases q
      rcases hn with rfl | rfl <;> simp [binOp, Op.stringOp, ByteArray.toList_eq]
    · obtain ⟨c, rfl, hc⟩ := ptr_inv hy
      subst hx; rcases hn with rfl | rfl <;> simp [binOp, Op.equal, Op.maxDepth, heq]
    · obtain ⟨k, _, rfl⟩ := hx; subst hy; rcases hn with rfl | rfl <;> simp [binOp, Op.equal, Op.maxDepth, heq]
    · obtain ⟨k, _, rfl⟩ := hx; obtain ⟨k', _, rfl⟩ := hy; rcases hn with rfl | rfl <;> simp [binOp, Op.equal, Op.maxDepth, heq]
    · subst hx; obtain ⟨c, c', rfl, hc⟩ := slice_inv hy; rcases hn with rfl | rfl <;> simp [binOp, Op.equal, Op.maxDepth, heq]
    · obtain ⟨a, a', rfl, ha⟩ := slice_inv hx; subst hy; rcases hn with rfl | rfl <;> simp [binOp, Op.equal, Op.maxDepth, heq]
    · obtain ⟨c, rfl, hc⟩ := map_inv hy; subst hx; rcases hn with rfl | rfl <;> simp [binOp, Op.equal, Op.maxDepth, heq]
    · obtain ⟨k, _, rfl⟩ := hx; subst hy; rcases hn with rfl | rfl <;> simp [binOp, Op.equal, Op.maxDepth, heq]
    · subst hx hy; rcases hn with rfl | rfl <;> simp [binOp, Op.equal, Op.maxDepth, heq]
    · obtain ⟨fs, cs, rfl, _⟩ := hx; subst hy; rcases hn with rfl | rfl <;> simp [binOp, Op.equal, Op.maxDepth, heq]
    · subst hx; obtain ⟨cs, rfl, _⟩ := hy; rcases hn with rfl | rfl <;> simp [binOp, Op.equal, Op.maxDepth, heq]
    · obtain ⟨cs, rfl, _⟩ := hx; subst hy; rcases hn with rfl | rfl <;> simp [binOp, Op.equal, Op.maxDepth, heq]
    · obtain ⟨xs, rfl, _⟩ := hx
      obtain ⟨ys, rfl, _⟩ := hy
      rcases hn with rfl | rfl <;> simp [binOp, Op.equal, Op.maxDepth, heq]
    · obtain ⟨xs, rfl, _⟩ := hx
      obtain ⟨ys, rfl, _⟩ := hy
      rcases hn with rfl | rfl <;> simp [binOp, Op.equal, Op.maxDepth, heq]
  simp [hg, key]
theorem run_binV {op : BinOp} {t : TypeId} {x y v : V} {x' y' : Value} (hx : vrel e x x') (hy : vrel e y y') (q : binV P op t x y = some v) (xo yo : Operand) :
    ∃ z, (do eqGuard op t xo yo x' y'; binOp op t x' y').run P w = .ok z w ∧ vrel e v z := by
  unfold binV at q
  split at q
  · -- int
    rename_i k a k' b
    simp only [vrel] at hx hy
    subst hx hy
    have hg : eqGuard op t xo yo (.int k a) (.int k' b) = pure () := eqGuard_at_int ..
    rw [hg]
    obtain ⟨z, h1, h2⟩ := run_binI (P := P) (w := w) (e := e) t q
    exact ⟨z, by simpa using h1, h2⟩
  · rename_i a b
    simp only [vrel] at hx hy
    subst hx hy
    have hg : eqGuard op t xo yo (.string ⟨⟨a⟩⟩) (.string ⟨⟨b⟩⟩) = pure () := eqGuard_at_string ..
    rw [hg]
    split at q
    · split at q
      · rename_i hl
        cases q
        refine ⟨_, by simpa [binOp] using run_string_add_sum (P := P) (w := w) ⟨⟨a⟩⟩ ⟨⟨b⟩⟩ hl, ?_⟩
        simp only [vrel]
        congr 1
      · cases q
    all_goals first
      | (cases q; done)
      | (cases q; refine ⟨_, ?_, by simp only [vrel]; rfl⟩; simp [binOp, Op.stringOp, ByteArray.toList_eq])
  · -- agg
    split at q
    · cases hm : P.eqGuardType P.depth t with
      | true => rw [hm] at q; cases q
      | false =>
        rw [hm] at q
        simp only [cond_false] at q
        split at q
        · rename_i b hb
          cases q
          exact ⟨_, run_binEq (.inl rfl) hx hy hb (fun _ _ _ _ => hm) xo yo, by simp [vrel]⟩
        · cases q
    · cases hm : P.eqGuardType P.depth t with
      | true => rw [hm] at q; cases q
      | false =>
        rw [hm] at q
        simp only [cond_false] at q
        split at q
        · rename_i b hb
          cases q
          exact ⟨_, run_binEq (.inr rfl) hx hy hb (fun _ _ _ _ => hm) xo yo, by simp [vrel]⟩
        · cases q
    · cases q
  · cases q
  · cases q
  · cases q
  · cases q
  · cases q
  · rename_i hag _ _ _ _ _
    split at q
    · split at q
      · rename_i b hb
        cases q
        exact ⟨_, run_binEq (.inl rfl) hx hy hb (fun xs ys h1 h2 => False.elim (by subst h1 h2; simp_all)) xo yo, by simp [vrel]⟩
      · cases q
    · split at q
      · rename_i b hb
        cases q
        exact ⟨_, run_binEq (.inr rfl) hx hy hb (fun xs ys h1 h2 => False.elim (by subst h1 h2; simp_all)) xo yo, by simp [vrel]⟩
      · cases q
    · cases q
end
end Go.Proofs.YtjngkcnanhnopaaGreatDoor.Ev

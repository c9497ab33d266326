import Derived.Test.YtjngkcnanhnopaaGreatDoorKf
import Derived.LaidEql
/-! The evaluator: an operation that changes nothing ('pureOp'); one that makes a block ('allocOp'). -/
namespace Go.Proofs.YtjngkcnanhnopaaGreatDoor.Ev
open Go Go.RowKit
set_option linter.unusedVariables false
set_option linter.unusedSimpArgs false

def evL (tm : Tr V) : List Operand → Option (List V)
  | [] => some []
  | x :: l => match evO tm x, evL tm l with
    | some v, some vs => some (v :: vs)
    | _, _ => none
def evOO (tm : Tr V) : Option Operand → Option (Option V)
  | none => some none
  | some x => match evO tm x with
    | some v => some (some v)
    | none => none
def evP (tm : Tr V) : List (Nat × Operand) → Option (List (Nat × V))
  | [] => some []
  | (i, x) :: l => match evO tm x, evP tm l with
    | some v, some vs => some ((i, v) :: vs)
    | _, _ => none
def sameLs : Option Nat → Option Nat → Bool
  | none, none => true
  | some a, some b => Nat.beq a b
  | _, _ => false
theorem sameLs_eq : ∀ {a b : Option Nat}, sameLs a b = true → a = b
  | none, none, _ => rfl
  | some a, some b, h => congrArg some (Nat.eq_of_beq_eq_true h)
  | none, some _, h => nomatch h
  | some _, none, h => nomatch h
def isK : Operand → Bool
  | .const _ => true
  | _ => false
/-- A slice's capacity, where it is known. -/
def capV (P : Program) (t : TypeId) (x : V) : Option V := match P.underlying t, x with
  | some (.slice _), .slice _ _ (.exact c) => some (.int .i64 c)
  | _, _ => none
def cellsB (h : H) (b : Nat) : Bool := match h.get b with
  | some (.cells ..) => true
  | _ => false
/-- Two pointers that are not alike, to blocks that are there. -/
def ptrNe (P : Program) (h : H) (op : BinOp) (t : TypeId) (a b : V) : Option V :=
  match a, b with
  | .ptr (some p), .ptr (some q) => (match P.underlying t with
    | some (.pointer el) => (match sz P el with
      | some (_ + 1) => cond (!(Nat.beq p.1 q.1 && Nat.beq p.2 q.2) && cellsB h p.1 && cellsB h q.1) (match op with
        | .eql => some (.bool false)
        | .neq => some (.bool true)
        | _ => none) none
      | _ => none)
    | _ => none)
  | _, _ => none
def pureOp (P : Program) (h : H) (tm : Tr V) (op : Op) : Option V :=
  match op with
  | .move x => evO tm x
  | .assign x => evO tm x
  | .pick c a b => (match evO tm c with
    | some (.bool true) => evO tm a
    | some (.bool false) => evO tm b
    | _ => none)
  | .build t parts => (match evP tm parts.toList with
    | some ps => buildV P t ps
    | none => none)
  | .load t a => (match evO tm a with
    | some (.ptr (some p)) => loadV P h t p
    | _ => none)
  | .nilCheck x => (match evO tm x with
    | some (.ptr (some p)) => some (.ptr (some p))
    | some (.func (.func f) a c) => some (.func (.func f) a c)
    | some (.yield l) => some (.yield l)
    | some (.iface t v) => some (.iface t v)
    | _ => none)
  | .binOp op t x y _ => (match evO tm x, evO tm y with
    | some .nilIface, some .nilIface => cond (isK x || isK y) (match P.underlying t, op with
      | some (.interface _), .eql => some (.bool true)
      | some (.interface _), .neq => some (.bool false)
      | _, _ => none) none
    | some a, some b => (match binV P op t a b with
      | some v => some v
      | none => ptrNe P h op t a b)
    | _, _ => none)
  | .typeAssert x _ at' ok => (match P.underlying at', evO tm x with
    | some (.interface _), _ => none
    | some _, some (.iface t v) => cond (Nat.beq t at') (some (cond ok (.tuple [v, .bool true]) v)) (cond ok (match zer P at' with
      | some z => some (.tuple [z, .bool false])
      | none => none) none)
    | some _, some .nilIface => cond ok (match zer P at' with
      | some z => some (.tuple [z, .bool false])
      | none => none) none
    | _, _ => none)
  | .unOp op _ x => (match evO tm x with
    | some a => unV op a
    | none => none)
  | .convert s d x => (match evO tm x with
    | some a => convV P s d a
    | none => none)
  | .makeInterface t x => (match P.underlying t, evO tm x with
    | some (.interface _), _ => none
    | some _, some a => some (.iface t a)
    | _, _ => none)
  | .makeFunc fn f c => (match evL tm f.toList, evL tm c.toList with
    | some f, some c => some (.func fn f c)
    | _, _ => none)
  | .slice t x lo hi mx => (match evO tm x, evOO tm lo, evOO tm hi, evOO tm mx with
    | some x, some lo, some hi, some mx => sliceV P t x lo hi mx
    | _, _, _, _ => none)
  | .fieldAddr s x f => (match evO tm x with
    | some a => fieldA P s a f
    | none => none)
  | .field t x f => (match evO tm x with
    | some a => fieldV P t a f
    | none => none)
  | .indexAddr t x i => (match evO tm x, evO tm i with
    | some a, some b => idxA P t a b
    | _, _ => none)
  | .index t x i => (match evO tm x, evO tm i with
    | some a, some b => idxV P t a b
    | _, _ => none)
  | .lookup t x i ok => (match evO tm x, evO tm i with
    | some a, some b => lookV P h t a b ok
    | _, _ => none)
  | .extract t i => (match evO tm t with
    | some (.tuple vs) => vs[i]?
    | _ => none)
  | .entry it => (match evO tm it with
    | some (.ptr (some (b, 0))) => (match h.get b with
      | some (.iter (some m) _ seen ls) => (match h.get m, seen.getLast? with
        | some (.map es ls'), some s => cond (sameLs ls ls') (match es.find? (fun e => Nat.beq e.2.2 s) with
          | some (k, v, _) => some (.tuple [k, v])
          | none => none) none
        | _, _ => none)
      | _ => none)
    | _ => none)
  | .call c => (match c.callee, evL tm c.args.toList with
    | .builtin .len, some [x] => (match c.argTypes[0]? with
      | some t => lenV P h t x
      | none => none)
    | .builtin .cap, some [x] => (match c.argTypes[0]? with
      | some t => capV P t x
      | none => none)
    | .builtin .min, some (x :: l) => minL x l
    | .builtin .max, some (x :: l) => maxL x l
    | _, _ => none)
  | _ => none
def replV (n : Nat) (z : List V) : List V := (List.replicate n z).flatten
def allocOp (P : Program) (h : H) (tm : Tr V) (op : Op) : Option (O × (Nat → V)) :=
  match op with
  | .alloc t => (match zer P t with
    | some z => some (.cells z.cells t none, fun b => .ptr (some (b, 0)))
    | none => none)
  | .box t x => (match evO tm x with
    | some .junk => none
    | some v => some (.cells v.cells t none, fun b => .ptr (some (b, 0)))
    | none => none)
  | .buildSlice t len parts => (match P.underlying t with
    | some (.slice el) => (match sz P el, zer P el, evP tm parts.toList with
      | some s, some z, some ps => cond (Nat.beq len 0) (match ps with
        | [] => some (.cells [] el none, fun b => .slice (some (b, 0)) 0 (.exact 0))
        | _ => none) (cond (Nat.ble (len * s) 16777216) (cond (Nat.blt 0 (len * s)) (match fillV (fun i => some (i * s, s)) (replV len z.cells) ps with
        | some cs => cond (Nat.beq z.cells.length s) (some (.cells cs el none, fun b => .slice (some (b, 0)) len (.exact len))) none
        | none => none) none) none)
      | _, _, _ => none)
    | _ => none)
  | .makeMap t r => (match r with
    | none => some (.map [] none, fun b => .map (some b))
    | some x => (match P.underlying t, evO tm x with
      | some (.map _ _), some (.int _ _) => some (.map [] none, fun b => .map (some b))
      | _, _ => none))
  | .makeSlice t l c => (match P.underlying t, evO tm l, evO tm c with
    | some (.slice el), some (.int k1 n), some (.int k2 m) => (match sz P el, zer P el, P.info? el with
      | some s, some z, some i => cond (Nat.blt 0 s) (cond (Nat.beq z.cells.length s) (if 0 ≤ n ∧ n ≤ m ∧ m ≤ 16777216 ∧ i.bytes ≤ 65536 then
          some (.cells (replV m.toNat z.cells) el none, fun b => .slice (some (b, 0)) n.toNat (.exact m.toNat)) else none) none) none
      | _, _, _ => none)
    | _, _, _ => none)
  | .range t x => (match P.underlying t, evO tm x with
    | some (.map _ _), some (.map none) => some (.iter none [] [] none, fun b => .ptr (some (b, 0)))
    | some (.map _ _), some (.map (some r)) => (match h.get r with
      | some (.map es ls) => some (.iter (some r) (es.map fun e => e.2.2) [] ls, fun b => .ptr (some (b, 0)))
      | _ => none)
    | _, _ => none)
  | _ => none
section
variable {P : Program} {w0 w : World} {e : E} {h : H} {tm : Tr V} {a : Act}
theorem evL_rel : ∀ {l : List Operand} {vs : List V}, (∀ x ∈ l, ∀ v, evO tm x = some v → vrel e v (a.eval x)) → evL tm l = some vs → vrels e vs (l.map a.eval)
  | [], vs, _, q => by cases q; exact vrels_nil.2 rfl
  | x :: l, vs, hl, q => by
    unfold evL at q
    split at q
    · rename_i v vs' h1 h2
      cases q
      exact vrels_cons.2 ⟨_, _, rfl, hl x (by simp) v h1, evL_rel (fun y hy => hl y (by simp [hy])) h2⟩
    · cases q
theorem evOO_rel {x : Option Operand} {v : Option V} (hx : ∀ y, x = some y → ∀ v, evO tm y = some v → vrel e v (a.eval y)) (q : evOO tm x = some v) : orelO e v (x.map a.eval) := by
  cases x with
  | none => cases q; rfl
  | some y =>
    unfold evOO at q
    simp only at q
    split at q
    · rename_i u hu
      cases q
      exact ⟨_, rfl, hx y rfl u hu⟩
    · cases q
theorem evP_rel : ∀ {l : List (Nat × Operand)} {ps : List (Nat × V)}, (∀ x ∈ l.map (·.2), ∀ v, evO tm x = some v → vrel e v (a.eval x)) → evP tm l = some ps → prels e ps (l.map fun p => (p.1, a.eval p.2))
  | [], vs, _, q => by cases q; rfl
  | (i, x) :: l, vs, hl, q => by
    unfold evP at q
    split at q
    · rename_i v vs' h1 h2
      cases q
      exact ⟨_, _, rfl, hl x (by simp) v h1, evP_rel (fun y hy => hl y (List.mem_cons_of_mem _ hy)) h2⟩
    · cases q
theorem srel_last : ∀ {ss l : List Nat} {s : Nat}, srel e ss l → ss.getLast? = some s → ∃ n, e.κ s = some n ∧ l.getLast? = some n
  | [], _, s, _, hs => by simp at hs
  | [a], _, s, ⟨x, r, h1, h2, h3⟩, hs => by
    have h3 : r = [] := h3
    subst h1 h3
    simp at hs
    subst hs
    exact ⟨x, h2, by simp⟩
  | a :: b :: ss, _, s, ⟨x, r, h1, h2, h3⟩, hs => by
    rw [List.getLast?_cons_cons] at hs
    obtain ⟨n, h4, h5⟩ := srel_last h3 hs
    subst h1
    obtain ⟨y, r', h6, _⟩ := h3
    subst h6
    exact ⟨n, h4, by rw [List.getLast?_cons_cons]; exact h5⟩
theorem mrel_find : ∀ {es : List (V × V × Nat)} {l : List MapEntry} {s n : Nat} {k v : V}, mrel e es l → (l.map (·.born)).Nodup → e.κ s = some n → (k, v, s) ∈ es →
    ∃ x ∈ l, vrel e k x.key ∧ vrel e v x.val ∧ l.find? (fun e => e.born == n) = some x
  | [], _, s, n, k, v, _, _, _, hf => by cases hf
  | (k0, v0, s0) :: es, _, s, n, k, v, ⟨x, r, h1, h2, h3, h4, h5⟩, hd, hn, hf => by
    subst h1
    simp only [List.map_cons, List.nodup_cons] at hd
    rcases List.mem_cons.1 hf with hf | hf
    · cases hf
      rw [h4] at hn
      cases hn
      exact ⟨x, by simp, h2, h3, by simp⟩
    · obtain ⟨y, hy, h6, h7, h8⟩ := mrel_find h5 hd.2 hn hf
      refine ⟨y, by simp [hy], h6, h7, ?_⟩
      have hyn : y.born = n := by have := List.find?_some h8; simpa using this
      have hne : (x.born == n) = false := by
        apply beq_eq_false_iff_ne.2
        intro q1
        exact hd.1 (by rw [q1, ← hyn]; exact List.mem_map_of_mem hy)
      simp [List.find?_cons, hne, h8]
theorem equalIn_nil {t : TypeId} {ms : Array (String × TypeId)} (hu : P.underlying t = some (.interface ms)) (d : Nat) : (Op.equalIn (d + 1) t .nilIface .nilIface).run P w = .ok true w := by
  simp [Op.equalIn, run_underlying hu]
theorem run_nilEq {t : TypeId} {ms : Array (String × TypeId)} (hu : P.underlying t = some (.interface ms)) {x y : Operand} (hk : (isK x || isK y) = true) (op : BinOp) (hn : op = .eql ∨ op = .neq) :
    (do eqGuard op t x y .nilIface .nilIface; binOp op t .nilIface .nilIface).run P w = .ok (.bool (if op = .eql then true else false)) w := by
  have h1 : (Op.equal t .nilIface .nilIface).run P w = .ok true w := equalIn_nil hu 9999
  have hg : eqGuard op t x y .nilIface .nilIface = pure () := by
    rcases hn with rfl | rfl <;> cases x <;> cases y <;> first | rfl | cases hk
  rw [hg]
  rcases hn with rfl | rfl <;> simp [binOp, h1]
theorem assert_hit {at' xt : TypeId} {d : TypeDesc} (hu : P.underlying at' = some d) (hd : ∀ ms, d ≠ .interface ms) (y : Value) (ok : Bool) : (Instr.typeAssert (.iface at' y) xt at' ok).run P w = .ok (cond ok (.tuple #[y, .bool true]) y) w := by
  unfold Instr.typeAssert
  simp only [Sem.run_bind, run_underlying hu, Result.andThen_ok]
  cases d <;> first | exact absurd rfl (hd _) | (cases ok <;> simp)
theorem assert_miss {at' xt t : TypeId} {d : TypeDesc} {z : Value} (hu : P.underlying at' = some d) (hd : ∀ ms, d ≠ .interface ms) (ht : t ≠ at') (y : Value) (hz : (zeroValue at').run P w = .ok z w) : (Instr.typeAssert (.iface t y) xt at' true).run P w = .ok (.tuple #[z, .bool false]) w := by
  unfold Instr.typeAssert
  simp only [Sem.run_bind, run_underlying hu, Result.andThen_ok]
  cases d <;> first | exact absurd rfl (hd _) | simp [ht, hz]
theorem assert_nil {at' xt : TypeId} {d : TypeDesc} {z : Value} (hu : P.underlying at' = some d) (hd : ∀ ms, d ≠ .interface ms) (hz : (zeroValue at').run P w = .ok z w) : (Instr.typeAssert .nilIface xt at' true).run P w = .ok (.tuple #[z, .bool false]) w := by
  unfold Instr.typeAssert
  simp only [Sem.run_bind, run_underlying hu, Result.andThen_ok]
  cases d <;> first | exact absurd rfl (hd _) | simp [hz]
theorem cellsB_some {b : Nat} (q : cellsB h b = true) : ∃ l t o, h.get b = some (.cells l t o) := by
  unfold cellsB at q
  split at q
  · rename_i l t o hg; exact ⟨l, t, o, hg⟩
  · cases q
theorem run_ptrNe (R : Rel w0 e h w) {op : BinOp} {t : TypeId} {x y v : V} {x' y' : Value} (hx : vrel e x x') (hy : vrel e y y') (q : ptrNe P h op t x y = some v) (xo yo : Operand) :
    ∃ z, (do eqGuard op t xo yo x' y'; binOp op t x' y').run P w = .ok z w ∧ vrel e v z := by
  unfold ptrNe at q
  split at q
  · rename_i p1 p2
    obtain ⟨b1, o1⟩ := p1
    obtain ⟨b2, o2⟩ := p2
    split at q
    · rename_i el hu
      split at q
      · rename_i n hs
        cases hc : (!(Nat.beq b1 b2 && Nat.beq o1 o2) && cellsB h b1 && cellsB h b2) with
        | false => simp only [hc] at q; cases q
        | true =>
          simp only [hc, cond_true] at q
          simp only [Bool.and_eq_true, Bool.not_eq_true'] at hc
          obtain ⟨⟨c1, c2⟩, c3⟩ := hc
          obtain ⟨l1, t1, q1, g1⟩ := cellsB_some c2
          obtain ⟨l2, t2, q2, g2⟩ := cellsB_some c3
          simp only [vrel] at hx hy
          obtain ⟨k1, hk1, rfl⟩ := hx
          obtain ⟨k2, hk2, rfl⟩ := hy
          obtain ⟨vs1, r1, w1, _⟩ := R.cells g1 hk1
          obtain ⟨vs2, r2, w2, _⟩ := R.cells g2 hk2
          have hne : (⟨k1, o1, none⟩ : Addr) ≠ ⟨k2, o2, none⟩ := by
            intro hh
            injection hh with hh1 hh2
            subst hh1 hh2
            have := R.inj b1 b2 k1 _ _ hk1 hk2 g1 g2
            subst this
            simp at c1
          have heq : (Op.equal t (.pointer (some ⟨k1, o1, none⟩)) (.pointer (some ⟨k2, o2, none⟩))).run P w = .ok false w := by
            have hsa := run_sameAddr_other (P := P) w hne w1 w2
            have h1 : ∀ d, (Op.equalIn (d + 1) t (.pointer (some ⟨k1, o1, none⟩)) (.pointer (some ⟨k2, o2, none⟩))).run P w = .ok false w := fun d => by simp [Op.equalIn, run_underlying hu, run_sz hs, hsa]
            exact h1 9999
          have hg : ∀ op, eqGuard op t xo yo (.pointer (some ⟨k1, o1, none⟩)) (.pointer (some ⟨k2, o2, none⟩)) = pure () := fun op => by rw [eqGuard_at_pointer]
          split at q
          · cases q
            exact ⟨.bool false, by rw [hg]; simp [binOp, heq], by simp only [vrel]⟩
          · cases q
            exact ⟨.bool true, by rw [hg]; simp [binOp, heq], by simp only [vrel]⟩
          · cases q
      · cases q
    · cases q
  · cases q
theorem run_pureOp (R : Rel w0 e h w) {o : Oper} {v : V} (hop : ∀ x ∈ o.op.operands.toList, ∀ v, evO tm x = some v → vrel e v (a.eval x)) (q : pureOp P h tm o.op = some v) :
    ∃ x, (execOp a.eval o).run P w = .ok (.value x) w ∧ vrel e v x := by
  obtain ⟨dst, op, ty, pos, aft, gd⟩ := o
  cases op
  all_goals try (simp only [pureOp] at q; cases q; done)
  all_goals simp only [pureOp] at q
  case move x => exact ⟨_, rfl, hop x (by simp [Op.operands]) v q⟩
  case assign x => exact ⟨_, rfl, hop x (by simp [Op.operands]) v q⟩
  case pick c x y =>
    split at q
    · rename_i hc
      have := hop c (by simp [Op.operands]) _ hc
      simp only [vrel] at this
      exact ⟨_, by simp [execOp, this, asBool], hop x (by simp [Op.operands]) v q⟩
    · rename_i hc
      have := hop c (by simp [Op.operands]) _ hc
      simp only [vrel] at this
      exact ⟨_, by simp [execOp, this, asBool], hop y (by simp [Op.operands]) v q⟩
    · cases q
  case build t parts =>
    split at q
    · rename_i ps hps
      have h1 := evP_rel (e := e) (a := a) (l := parts.toList) (fun x hx => hop x (by simpa [Op.operands] using hx)) hps
      obtain ⟨z, h2, h3⟩ := run_buildV (P := P) (w := w) (ps' := parts.map fun p => (p.1, a.eval p.2)) (by simpa using h1) q
      exact ⟨z, by simp [execOp, h2], h3⟩
    · cases q
  case load t x =>
    split at q
    · rename_i p hp
      have := hop x (by simp [Op.operands]) _ hp
      obtain ⟨b, off⟩ := p
      simp only [vrel] at this
      obtain ⟨k, hk, h1⟩ := this
      obtain ⟨z, h2, h3⟩ := run_loadV (P := P) (a := (b, off)) R hk q
      exact ⟨z, by simp [execOp, h1, Instr.loadAt, Instr.sureAddr, h2], h3⟩
    · cases q
  case nilCheck x =>
    split at q
    · rename_i p hp
      have h0 := hop x (by simp [Op.operands]) _ hp
      cases q
      obtain ⟨b, off⟩ := p
      have := h0
      simp only [vrel] at this
      obtain ⟨k, hk, h1⟩ := this
      exact ⟨_, by simp [execOp, h1]; rfl, by rw [← h1]; exact h0⟩
    · rename_i f fs cs hp
      have h0 := hop x (by simp [Op.operands]) _ hp
      cases q
      have := h0
      simp only [vrel] at this
      obtain ⟨fs', cs', h1, _⟩ := this
      exact ⟨_, by simp [execOp, h1]; rfl, by rw [← h1]; exact h0⟩
    · rename_i l hp
      have h0 := hop x (by simp [Op.operands]) _ hp
      cases q
      have := h0
      simp only [vrel] at this
      obtain ⟨k, hk, h1⟩ := this
      exact ⟨_, by simp [execOp, h1]; rfl, by rw [← h1]; exact h0⟩
    · rename_i t u hp
      have h0 := hop x (by simp [Op.operands]) _ hp
      cases q
      have := h0
      simp only [vrel] at this
      obtain ⟨y, h1, _⟩ := this
      exact ⟨_, by simp [execOp, h1]; rfl, by rw [← h1]; exact h0⟩
    · cases q
  case typeAssert x xt at' ok =>
    split at q
    · cases q
    · rename_i d t u hni hu hx
      have h0 := hop x (by simp [Op.operands]) _ hx
      simp only [vrel] at h0
      obtain ⟨y, h1, h2⟩ := h0
      have hd : ∀ ms, d ≠ .interface ms := fun ms hms => by subst hms; exact hni ms rfl
      cases hb : Nat.beq t at' with
      | true =>
        rw [hb] at q
        cases q
        have hb := Nat.eq_of_beq_eq_true hb
        subst hb
        refine ⟨cond ok (.tuple #[y, .bool true]) y, by simp [execOp, h1, assert_hit (xt := xt) (w := w) hu hd y ok], ?_⟩
        cases ok with
        | false => exact h2
        | true => simp only [cond_true, vrel]; exact ⟨[y, .bool true], rfl, vrels_cons.2 ⟨_, _, rfl, h2, vrels_one (by simp only [vrel])⟩⟩
      | false =>
        rw [hb] at q
        simp only [cond_false] at q
        have hne : t ≠ at' := fun e1 => by subst e1; simp at hb
        cases ok with
        | false => cases q
        | true =>
          simp only [cond_true] at q
          split at q
          · rename_i z hz
            cases q
            obtain ⟨z', r1, r2, r3⟩ := run_zer (w := w) hz
            refine ⟨.tuple #[z', .bool false], by simp [execOp, h1, assert_miss (xt := xt) hu hd hne y r1], ?_⟩
            simp only [vrel]
            exact ⟨[z', .bool false], rfl, vrels_cons.2 ⟨_, _, rfl, r3 e, vrels_one (by simp only [vrel])⟩⟩
          · cases q
    · rename_i d hni hu hx
      have h1 := hop x (by simp [Op.operands]) _ hx
      simp only [vrel] at h1
      have hd : ∀ ms, d ≠ .interface ms := fun ms hms => by subst hms; exact hni ms rfl
      cases ok with
      | false => cases q
      | true =>
        simp only [cond_true] at q
        split at q
        · rename_i z hz
          cases q
          obtain ⟨z', r1, r2, r3⟩ := run_zer (w := w) hz
          refine ⟨.tuple #[z', .bool false], by simp [execOp, h1, assert_nil (xt := xt) hu hd r1], ?_⟩
          simp only [vrel]
          exact ⟨[z', .bool false], rfl, vrels_cons.2 ⟨_, _, rfl, r3 e, vrels_one (by simp only [vrel])⟩⟩
        · cases q
    · cases q
  case binOp op t x y yt =>
    split at q
    · rename_i h1 h2
      have hx := hop x (by simp [Op.operands]) _ h1
      have hy := hop y (by simp [Op.operands]) _ h2
      simp only [vrel] at hx hy
      cases hk : (isK x || isK y) with
      | false => rw [hk] at q; cases q
      | true =>
        rw [hk] at q
        simp only [cond_true] at q
        split at q
        · rename_i ms hu
          cases q
          have := run_nilEq (w := w) hu hk .eql (.inl rfl)
          exact ⟨.bool true, by simp only [execOp, Sem.run_bind, hx, hy] at this ⊢; simp [this], by simp only [vrel]⟩
        · rename_i ms hu
          cases q
          have := run_nilEq (w := w) hu hk .neq (.inr rfl)
          exact ⟨.bool false, by simp only [execOp, Sem.run_bind, hx, hy] at this ⊢; simp [this], by simp only [vrel]⟩
        · cases q
    · rename_i u1 u2 h1 h2
      split at q
      · rename_i v' hbv
        cases q
        obtain ⟨z, h3, h4⟩ := run_binV (P := P) (w := w) (hop x (by simp [Op.operands]) _ h1) (hop y (by simp [Op.operands]) _ h2) hbv x y
        exact ⟨z, by simp only [execOp, Sem.run_bind] at h3 ⊢; simp [h3], h4⟩
      · obtain ⟨z, h3, h4⟩ := run_ptrNe R (hop x (by simp [Op.operands]) _ h1) (hop y (by simp [Op.operands]) _ h2) q x y
        exact ⟨z, by simp only [execOp, Sem.run_bind] at h3 ⊢; simp [h3], h4⟩
    · cases q
  case unOp op t x =>
    split at q
    · rename_i u1 h1
      obtain ⟨z, h3, h4⟩ := run_unV (P := P) (w := w) (hop x (by simp [Op.operands]) _ h1) q
      exact ⟨z, by simp [execOp, h3], h4⟩
    · cases q
  case convert s d x =>
    split at q
    · rename_i u1 h1
      obtain ⟨z, h3, h4⟩ := run_convV (P := P) (w := w) (hop x (by simp [Op.operands]) _ h1) q
      exact ⟨z, by simp [execOp, h3], h4⟩
    · cases q
  case makeInterface t x =>
    split at q
    · cases q
    · rename_i d u hd h1 h2
      cases q
      refine ⟨.iface t (a.eval x), ?_, by simp only [vrel]; exact ⟨_, rfl, hop x (by simp [Op.operands]) _ h2⟩⟩
      cases d <;> first
        | (exact (hd _ rfl).elim)
        | (exact (hd _ h1).elim)
        | (simp [execOp, Instr.makeInterface, run_underlying h1])
    · cases q
  case makeFunc fn f c =>
    split at q
    · rename_i u1 u2 h1 h2
      cases q
      have r1 := evL_rel (e := e) (a := a) (l := f.toList) (fun x hx => hop x (by simp [Op.operands]; exact .inl (by simpa using hx))) h1
      have r2 := evL_rel (e := e) (a := a) (l := c.toList) (fun x hx => hop x (by simp [Op.operands]; exact .inr (by simpa using hx))) h2
      refine ⟨.func fn (f.map a.eval) (c.map a.eval), by simp [execOp, Instr.makeFunc], ?_⟩
      simp only [vrel]
      exact ⟨(f.map a.eval).toList, (c.map a.eval).toList, rfl, by simpa using r1, by simpa using r2⟩
    · cases q
  case slice t x lo hi mx =>
    split at q
    · rename_i u1 u2 u3 u4 h1 h2 h3 h4
      obtain ⟨z, h5, h6⟩ := run_sliceV (P := P) (w := w) (hop x (by simp [Op.operands]) _ h1) (evOO_rel (e := e) (a := a) (fun y hy => hop y (by simp [Op.operands, hy])) h2)
        (evOO_rel (e := e) (a := a) (fun y hy => hop y (by simp [Op.operands, hy])) h3) (evOO_rel (e := e) (a := a) (fun y hy => hop y (by simp [Op.operands, hy])) h4) q
      exact ⟨z, by simp [execOp, h5], h6⟩
    · cases q
  case fieldAddr s x f =>
    split at q
    · rename_i u1 h1
      obtain ⟨z, h3, h4⟩ := run_fieldA (P := P) (w := w) (hop x (by simp [Op.operands]) _ h1) q
      exact ⟨z, by simp [execOp, h3], h4⟩
    · cases q
  case field s x f =>
    split at q
    · rename_i u1 h1
      obtain ⟨z, h3, h4⟩ := run_fieldV (P := P) (w := w) (hop x (by simp [Op.operands]) _ h1) q
      exact ⟨z, by simp [execOp, h3], h4⟩
    · cases q
  case indexAddr t x i =>
    split at q
    · rename_i u1 u2 h1 h2
      obtain ⟨z, h3, h4⟩ := run_idxA (P := P) (w := w) (hop x (by simp [Op.operands]) _ h1) (hop i (by simp [Op.operands]) _ h2) q
      exact ⟨z, by simp [execOp, h3], h4⟩
    · cases q
  case index t x i =>
    split at q
    · rename_i u1 u2 h1 h2
      obtain ⟨z, h3, h4⟩ := run_idxV (P := P) (w := w) (hop x (by simp [Op.operands]) _ h1) (hop i (by simp [Op.operands]) _ h2) q
      exact ⟨z, by simp [execOp, h3], h4⟩
    · cases q
  case lookup t x i ok =>
    split at q
    · rename_i u1 u2 h1 h2
      obtain ⟨z, h3, h4⟩ := run_lookV (P := P) R (hop x (by simp [Op.operands]) _ h1) (hop i (by simp [Op.operands]) _ h2) q
      exact ⟨z, by simp [execOp, h3], h4⟩
    · cases q
  case entry it =>
    split at q
    · rename_i b hb
      have hv := hop it (by simp [Op.operands]) _ hb
      simp only [vrel] at hv
      obtain ⟨k, hk, hv⟩ := hv
      split at q
      · rename_i m olds seen ls hg
        obtain ⟨m', since, seen', last, r1, _, r3, r4, r5, r6, r7, r8, _⟩ := R.heap b _ k hg hk
        obtain ⟨km, hkm, rfl⟩ := r3 m rfl
        split at q
        · rename_i es ls' s hgm hs
          cases hl : sameLs ls ls' with
          | false => rw [hl] at q; cases q
          | true =>
            have hl' := sameLs_eq hl
            subst hl'
            rw [hl] at q
            simp only [cond_true] at q
            obtain ⟨l, clk, es', t1, tp, t2, t3, t4, t5⟩ := R.map hgm hkm
            have hclk := crel_eq r8 t5
            subst hclk
            split at q
            · rename_i k0 v0 s0 hf
              cases q
              obtain ⟨n, hn, hnl⟩ := srel_last r4 hs
              have hs0 : s0 = s := Nat.eq_of_beq_eq_true (by simpa using List.find?_some hf)
              subst hs0
              obtain ⟨x, hx, hxk, hxv, hxf⟩ := mrel_find t2 t4 hn (tp.mem_iff.1 (List.mem_of_find?_eq_some hf))
              refine ⟨.tuple #[x.key, x.val], ?_, ?_⟩
              · have hback : (⟨seen'⟩ : Array Nat).back? = some n := by simpa [Array.back?_eq_getElem?, List.getLast?_eq_getElem?] using hnl
                have hgo : (getObj k).run P w = .ok (.mapIter (some km) since ⟨seen'⟩ last) w := by simp [getObj, Sem.run, r1]
                simp [execOp, Instr.entry, hv, hgo, hback, run_getMap (P := P) t1, hxf]
              · simp only [vrel]
                exact ⟨[x.key, x.val], rfl, vrels_cons.2 ⟨_, _, rfl, hxk, vrels_one hxv⟩⟩
            · cases q
        · cases q
      · cases q
    · cases q
  case extract t i =>
    split at q
    · rename_i vs h1
      have := hop t (by simp [Op.operands]) _ h1
      simp only [vrel] at this
      obtain ⟨xs, h2, h3⟩ := this
      obtain ⟨z, h4, h5⟩ := vrels_get i h3 q
      exact ⟨z, by simp [execOp, Instr.extract, h2, h4], h5⟩
    · cases q
  case call c =>
    split at q
    · rename_i x hc hl
      have r1 := evL_rel (e := e) (a := a) (l := c.args.toList) (fun y hy => hop y (by simp [Op.operands, Call.operands, hc]; simpa using hy)) hl
      obtain ⟨x', r, h1, h2, h3⟩ := vrels_cons.1 r1
      obtain rfl := vrels_nil.1 h3
      have hargs : c.args.map a.eval = #[x'] := by
        apply Array.ext'
        simpa using h1
      split at q
      · rename_i t ht
        obtain ⟨z, h4, h5⟩ := run_lenV (P := P) (ty := ty) R ht h2 q
        exact ⟨z, by simp [execOp, resolve, hc, invoke, builtin, hargs, h4], h5⟩
      · cases q
    · rename_i x hc hl
      have r1 := evL_rel (e := e) (a := a) (l := c.args.toList) (fun y hy => hop y (by simp [Op.operands, Call.operands, hc]; simpa using hy)) hl
      obtain ⟨x', r, h1, h2, h3⟩ := vrels_cons.1 r1
      obtain rfl := vrels_nil.1 h3
      have hargs : c.args.map a.eval = #[x'] := by
        apply Array.ext'
        simpa using h1
      split at q
      · rename_i t ht
        unfold capV at q
        split at q
        · rename_i el sa sn cc hu
          cases q
          have hx : ∃ a', x' = .slice a' sn cc := by
            cases sa with
            | none => simp only [vrel] at h2; exact ⟨_, h2⟩
            | some p => obtain ⟨b, o⟩ := p; simp only [vrel] at h2; obtain ⟨k, _, h2⟩ := h2; exact ⟨_, h2⟩
          obtain ⟨a', rfl⟩ := hx
          exact ⟨.int .i64 cc, by simp [execOp, resolve, hc, invoke, builtin, hargs, Builtin.cap_, ht, run_underlying hu, goInt], by simp only [vrel]⟩
        · cases q
      · cases q
    · rename_i x l hc hl
      have r1 := evL_rel (e := e) (a := a) (l := c.args.toList) (fun y hy => hop y (by simp [Op.operands, Call.operands, hc]; simpa using hy)) hl
      obtain ⟨x', r, h1, h2, h3⟩ := vrels_cons.1 r1
      have hargs : c.args.map a.eval = (x' :: r).toArray := by
        apply Array.ext'
        simpa using h1
      obtain ⟨z, h4, h5⟩ := run_minL (P := P) (w := w) l x x' r v h2 h3 q
      exact ⟨z, by simp [execOp, resolve, hc, invoke, builtin, hargs, Builtin.min_, h4], h5⟩
    · rename_i x l hc hl
      have r1 := evL_rel (e := e) (a := a) (l := c.args.toList) (fun y hy => hop y (by simp [Op.operands, Call.operands, hc]; simpa using hy)) hl
      obtain ⟨x', r, h1, h2, h3⟩ := vrels_cons.1 r1
      have hargs : c.args.map a.eval = (x' :: r).toArray := by
        apply Array.ext'
        simpa using h1
      obtain ⟨z, h4, h5⟩ := run_maxL (P := P) (w := w) l x x' r v h2 h3 q
      exact ⟨z, by simp [execOp, resolve, hc, invoke, builtin, hargs, Builtin.max_, h4], h5⟩
    · cases q
end
end Go.Proofs.YtjngkcnanhnopaaGreatDoor.Ev

import Derived.Test.YtjngkcnanhnopaaGreatDoorKa
/-! The evaluator: the abstract heap, and what it stands for ('Rel'). -/
namespace Go.Proofs.YtjngkcnanhnopaaGreatDoor.Ev
open Go Go.RowKit
set_option linter.unusedVariables false
set_option linter.unusedSimpArgs false

/-- A loop over a function. -/
structure Rec where
  state : LoopState
  pending : Option Code
  tmps : Tr V
  ntm : Nat
  params : List Tmp
  assign : Code
  body : Code
  mark : Nat
/-- What lies in a block: cells (of an array that may be longer: how many cells its elements have); a map; who goes over one; a loop over a function; the block for deferred calls. -/
inductive O where
  | cells (l : List V) (elem : TypeId) (opn : Option Nat)
  | map (es : List (V × V × Nat)) (ls : Option Nat)
  | iter (m : Option Nat) (olds seen : List Nat) (ls : Option Nat)
  | loop (r : Rec)
  | mark
structure H where
  heap : Tr O
  nxt : Nat
  frz : Nat
  log : List Nat
def H.get (h : H) (b : Nat) : Option O := h.heap.get b
def H.set (h : H) (b : Nat) (o : Option O) : H := match h with
  | ⟨hp, nx, fz, lg⟩ => ⟨hp.set b o, nx, fz, cond (Nat.ble fz b) lg (b :: lg)⟩
def H.new (h : H) (o : O) : H := match h with
  | ⟨hp, nx, fz, lg⟩ => ⟨hp.set nx (some o), nx + 1, fz, lg⟩
def H.bump (h : H) : H := match h with
  | ⟨hp, nx, fz, lg⟩ => ⟨hp, nx + 1, fz, lg⟩
/-- A block that is written: of those below 'frz' the log tells. -/
def H.getW (h : H) (b : Nat) : Option O := h.get b
theorem H.getW_some {h : H} {b : Nat} {o : O} (q : h.getW b = some o) : True ∧ h.get b = some o := ⟨trivial, q⟩
theorem H.get_set (h : H) (b b' : Nat) (o : Option O) : (h.set b o).get b' = if b' = b then o else h.get b' := Tr.get_set _ _ _ _
theorem H.get_new (h : H) (b' : Nat) (o : O) : (h.new o).get b' = if b' = h.nxt then some o else h.get b' := Tr.get_set _ _ _ _

def trel (e : E) (tm : Tr V) (n : Nat) (tmps : Array Value) : Prop := tmps.size = n ∧ ∀ t v, tm.get t = some v → ∃ x, tmps[t]? = some x ∧ vrel e v x
theorem trel.sub {e e' : E} {tm : Tr V} {n : Nat} {tmps : Array Value} (h : trel e tm n tmps) (hl : e.sub e') : trel e' tm n tmps :=
  ⟨h.1, fun t v q => let ⟨x, h1, h2⟩ := h.2 t v q; ⟨x, h1, vrel_sub hl _ _ h2⟩⟩
theorem trel.mono {e e' : E} {tm : Tr V} {n : Nat} {tmps : Array Value} (h : trel e tm n tmps) (hl : e.le e') : trel e' tm n tmps := h.sub hl.sub
/-- The entries of a map. -/
def mrel (e : E) : List (V × V × Nat) → List MapEntry → Prop
  | [], l => l = []
  | (k, v, s) :: es, l => ∃ x r, l = x :: r ∧ vrel e k x.key ∧ vrel e v x.val ∧ e.κ s = some x.born ∧ mrel e es r
theorem mrel_sub {e e' : E} (h : e.sub e') : ∀ {es : List (V × V × Nat)} {l : List MapEntry}, mrel e es l → mrel e' es l
  | [], _, q => q
  | (k, v, s) :: es, _, ⟨x, r, h1, h2, h3, h4, h5⟩ => ⟨x, r, h1, vrel_sub h _ _ h2, vrel_sub h _ _ h3, h.κ _ _ h4, mrel_sub h h5⟩
def srel (e : E) : List Nat → List Nat → Prop
  | [], l => l = []
  | s :: ss, l => ∃ x r, l = x :: r ∧ e.κ s = some x ∧ srel e ss r
theorem srel_sub {e e' : E} (h : e.sub e') : ∀ {es l : List Nat}, srel e es l → srel e' es l
  | [], _, q => q
  | s :: es, _, ⟨x, r, h1, h2, h3⟩ => ⟨x, r, h1, h.κ _ _ h2, srel_sub h h3⟩
/-- A map's clock, by the stamp of the last entry that was put. -/
def crel (e : E) : Option Nat → Nat → Prop
  | none, c => c = 0
  | some s, c => ∃ n, e.κ s = some n ∧ c = n + 1
theorem crel_sub {e e' : E} (h : e.sub e') : ∀ {ls : Option Nat} {c : Nat}, crel e ls c → crel e' ls c
  | none, _, q => q
  | some s, _, ⟨n, h1, h2⟩ => ⟨n, h.κ _ _ h1, h2⟩
theorem crel_eq {e : E} : ∀ {ls : Option Nat} {c c' : Nat}, crel e ls c → crel e ls c' → c = c'
  | none, _, _, q, q' => by have q : _ = 0 := q; have q' : _ = 0 := q'; omega
  | some s, _, _, ⟨n, h1, h2⟩, ⟨n', h1', h2'⟩ => by rw [h1] at h1'; cases h1'; omega
/-- What a block holds. -/
def orel (e : E) (b : Nat) : O → Option Obj → Prop
  | .cells l t none, ob => ∃ vs, ob = some (.cells ⟨vs⟩ t (0, 0)) ∧ vrels e l vs
  | .cells l t (some s), ob => ∃ vs rest c, ob = some (.cells ⟨vs ++ rest⟩ t (0, 0)) ∧ vrels e l vs ∧ e.κ b = some c ∧ (vs ++ rest).length = c * s
  | .map es ls, ob => ∃ l clk es', ob = some (.map ⟨l⟩ clk) ∧ es.Perm es' ∧ mrel e es' l ∧ (∀ x ∈ l, x.born < clk) ∧ (l.map (·.born)).Nodup ∧ crel e ls clk
  | .iter m olds seen ls, ob => ∃ m' since seen' last, ob = some (.mapIter m' since ⟨seen'⟩ last) ∧ (m = none → m' = none) ∧ (∀ r, m = some r → ∃ k, e.ρ r = some k ∧ m' = some k) ∧ srel e seen seen' ∧
      (∀ s ∈ olds, ∀ n, e.κ s = some n → n < since) ∧ (∀ s ∈ olds, ∃ n, e.κ s = some n) ∧ since = last ∧ crel e ls last ∧
      (∀ s ∈ seen, s ∈ olds) ∧ (∀ s ∈ olds, ∀ s' ∈ olds, e.κ s = e.κ s' → s = s')
  | .loop r, ob => ∃ fn tmps dk, ob = some (.loop { state := r.state, pending := r.pending, fn := fn, tmps := tmps, params := ⟨r.params⟩, assign := r.assign, body := r.body, defers := dk }) ∧ trel e r.tmps r.ntm tmps ∧ e.ρ r.mark = some dk
  | .mark, ob => ob = some (.deferred (some []))
theorem orel_sub {e e' : E} (h : e.sub e') {b : Nat} : ∀ {o : O} {ob : Option Obj}, orel e b o ob → orel e' b o ob
  | .cells l t none, _, ⟨vs, h1, h2⟩ => ⟨vs, h1, vrels_sub h _ _ h2⟩
  | .cells l t (some s), _, ⟨vs, rest, c, h1, h2, h3, h4⟩ => ⟨vs, rest, c, h1, vrels_sub h _ _ h2, h.κ _ _ h3, h4⟩
  | .map es ls, _, ⟨l, clk, es', h1, hp, h2, h3, h4, h5⟩ => ⟨l, clk, es', h1, hp, mrel_sub h h2, h3, h4, crel_sub h h5⟩
  | .iter m olds seen ls, _, ⟨m', since, seen', last, h1, h2, h3, h4, h5, h6, h7, h8, h9, h10⟩ => ⟨m', since, seen', last, h1, h2, fun r hr => let ⟨k, q1, q2⟩ := h3 r hr; ⟨k, h.ρ _ _ q1, q2⟩, srel_sub h h4,
      fun s hs n hn => by
        obtain ⟨n', q⟩ := h6 s hs
        have := h.κ _ _ q
        rw [this] at hn
        cases hn
        exact h5 s hs _ q, fun s hs => let ⟨n, q⟩ := h6 s hs; ⟨n, h.κ _ _ q⟩, h7, crel_sub h h8, h9, fun s hs s' hs' q => by
        obtain ⟨n, q1⟩ := h6 s hs
        obtain ⟨n', q2⟩ := h6 s' hs'
        have q3 := h.κ _ _ q1
        have q4 := h.κ _ _ q2
        exact h10 s hs s' hs' (by rw [q1, q2]; rw [q3, q4] at q; exact q)⟩
  | .loop r, _, ⟨fn, tmps, dk, h1, h2, h3⟩ => ⟨fn, tmps, dk, h1, h2.sub h, h.ρ _ _ h3⟩
  | .mark, _, q => q
theorem mrel_mono {e e' : E} (h : e.le e') {es : List (V × V × Nat)} {l : List MapEntry} (q : mrel e es l) : mrel e' es l := mrel_sub h.sub q
theorem srel_mono {e e' : E} (h : e.le e') {es l : List Nat} (q : srel e es l) : srel e' es l := srel_sub h.sub q
theorem crel_mono {e e' : E} (h : e.le e') {ls : Option Nat} {c : Nat} (q : crel e ls c) : crel e' ls c := crel_sub h.sub q
theorem orel_mono {e e' : E} (h : e.le e') {b : Nat} {o : O} {ob : Option Obj} (q : orel e b o ob) : orel e' b o ob := orel_sub h.sub q
/-- What has changed of an older world: nothing but the blocks X. -/
structure BelX (w0 w : World) (X : Nat → Prop) : Prop where
  os : w.os = w0.os
  tape : w.tape = w0.tape
  output : w.output = w0.output
  size : w0.heap.size ≤ w.heap.size
  block : ∀ k, k < w0.heap.size → ¬ X k → w.heap[k]? = w0.heap[k]?
theorem BelX.mono {w0 w : World} {X Y : Nat → Prop} (h : BelX w0 w X) (hx : ∀ k, X k → Y k) : BelX w0 w Y := ⟨h.os, h.tape, h.output, h.size, fun k hk hn => h.block k hk fun q => hn (hx k q)⟩
theorem BelX.drew {w0 w : World} {X : Nat → Prop} (h : BelX w0 w X) : BelX w0 w.drew X := ⟨h.os, h.tape, h.output, h.size, h.block⟩
theorem BelX.grown {w0 w w' : World} {X : Nat → Prop} {row : Option Nat} (h : BelX w0 w X) (hg : w.grownBy w' row) (hr : ∀ k, row = some k → k < w0.heap.size → X k) : BelX w0 w' X :=
  ⟨hg.os.trans h.os, hg.tape.trans h.tape, hg.output.trans h.output, Nat.le_trans h.size hg.size, fun k hk hn => (hg.block k (Nat.lt_of_lt_of_le hk h.size) (fun e => hn (hr k e.symm hk))).trans (h.block k hk hn)⟩
theorem BelX.below {w0 w : World} {X : Nat → Prop} (h : BelX w0 w X) (hn : ∀ k, ¬ X k) : Below w0.heap.size w0 w := ⟨h.os, h.tape, h.output, h.size, fun k hk => h.block k hk (hn k)⟩
/-- The older blocks that were written. -/
def logged (e : E) (l : List Nat) (k : Nat) : Prop := ∃ b ∈ l, e.ρ b = some k
theorem logged.mono {e e' : E} {l l' : List Nat} {k : Nat} (hr : ∀ b k, e.ρ b = some k → e'.ρ b = some k) (hl : ∀ b ∈ l, b ∈ l') (h : logged e l k) : logged e' l' k := by
  obtain ⟨b, h1, h2⟩ := h
  exact ⟨b, hl b h1, hr b k h2⟩
theorem H.log_set (h : H) (b : Nat) (o : Option O) : ∀ x ∈ h.log, x ∈ (h.set b o).log := fun x hx => by
  show x ∈ cond (Nat.ble h.frz b) h.log (b :: h.log)
  cases Nat.ble h.frz b
  · exact List.mem_cons_of_mem _ hx
  · exact hx
theorem H.log_put (h : H) (b : Nat) (o : Option O) : h.frz ≤ b ∨ b ∈ (h.set b o).log := by
  show h.frz ≤ b ∨ b ∈ cond (Nat.ble h.frz b) h.log (b :: h.log)
  cases hb : Nat.ble h.frz b
  · exact .inr List.mem_cons_self
  · exact .inl (Nat.le_of_ble_eq_true hb)
/-- What the abstract heap stands for: 'w0' is the world when the law began. -/
structure Rel (w0 : World) (e : E) (h : H) (w : World) : Prop where
  heap : ∀ b o k, h.get b = some o → e.ρ b = some k → orel e b o w.heap[k]?
  lt : ∀ b k, e.ρ b = some k → b < h.nxt
  klt : ∀ b k, e.κ b = some k → b < h.nxt
  inj : ∀ b b' k o o', e.ρ b = some k → e.ρ b' = some k → h.get b = some o → h.get b' = some o' → b = b'
  new : ∀ b k, e.ρ b = some k → (h.frz ≤ b → w0.heap.size ≤ k ∨ logged e h.log k) ∧ k < w.heap.size
  bel : BelX w0 w (logged e h.log)
  fresh : ∀ b, h.nxt ≤ b → h.get b = none
  lim : e.lim = h.nxt
def E.up (e : E) : E := ⟨e.ρ, e.κ, e.lim + 1⟩
theorem E.up_le (e : E) : e.le e.up := ⟨fun _ _ h => h, fun _ _ h => h, Nat.le_succ _, fun _ _ h => h, fun _ _ h => h⟩
section
variable {w0 w w' : World} {e : E} {h : H}
theorem Rel.drew (R : Rel w0 e h w) : Rel w0 e h w.drew := ⟨R.heap, R.lt, R.klt, R.inj, R.new, R.bel.drew, R.fresh, R.lim⟩
theorem Rel.rn (R : Rel w0 e h w) : e.ρ h.nxt = none := by
  cases q : e.ρ h.nxt with
  | none => rfl
  | some k => have := R.lt _ _ q; omega
theorem Rel.kn (R : Rel w0 e h w) : e.κ h.nxt = none := by
  cases q : e.κ h.nxt with
  | none => rfl
  | some k => have := R.klt _ _ q; omega
theorem Rel.ll (R : Rel w0 e h w) : e.lim ≤ h.nxt := Nat.le_of_eq R.lim
/-- A block that no world has yet. -/
theorem Rel.add (R : Rel w0 e h w) (o : O) : Rel w0 e.up (h.new o) w where
  heap := fun b o' k hb hk => by
    rw [H.get_new] at hb
    by_cases q : b = h.nxt
    · subst q; have hk : e.ρ h.nxt = some k := hk; rw [R.rn] at hk; cases hk
    · rw [if_neg q] at hb; exact orel_mono (E.up_le e) (R.heap b o' k hb hk)
  lt := fun b k hk => Nat.lt_succ_of_lt (R.lt b k hk)
  klt := fun b k hk => Nat.lt_succ_of_lt (R.klt b k hk)
  inj := fun b b' k o1 o2 h1 h2 h3 h4 => by
    have n1 := R.lt _ _ h1
    have n2 := R.lt _ _ h2
    rw [H.get_new, if_neg (by omega)] at h3 h4
    exact R.inj b b' k o1 o2 h1 h2 h3 h4
  new := R.new
  bel := R.bel
  fresh := fun b hb => by
    have hb : h.nxt + 1 ≤ b := hb
    rw [H.get_new, if_neg (by omega)]
    exact R.fresh b (by omega)
  lim := by
    show e.lim + 1 = h.nxt + 1
    rw [R.lim]
/-- A block forgotten. -/
theorem Rel.del (R : Rel w0 e h w) (b : Nat) : Rel w0 e (h.set b none) w where
  heap := fun b1 o' k hb hk => by
    rw [H.get_set] at hb
    by_cases q : b1 = b
    · rw [if_pos q] at hb; cases hb
    · rw [if_neg q] at hb; exact R.heap b1 o' k hb hk
  lt := R.lt
  klt := R.klt
  inj := fun b1 b' k o1 o2 h1 h2 h3 h4 => by
    rw [H.get_set] at h3 h4
    by_cases q : b1 = b
    · rw [if_pos q] at h3; cases h3
    · by_cases q' : b' = b
      · rw [if_pos q'] at h4; cases h4
      · rw [if_neg q] at h3; rw [if_neg q'] at h4; exact R.inj b1 b' k o1 o2 h1 h2 h3 h4
  new := fun b1 k q => ⟨fun hf => ((R.new b1 k q).1 hf).imp id fun q => q.mono (fun _ _ q => q) (H.log_set _ _ _), (R.new b1 k q).2⟩
  bel := R.bel.mono fun k q => q.mono (fun _ _ q => q) (H.log_set _ _ _)
  fresh := fun b1 hb => by
    rw [H.get_set]
    split
    · rfl
    · exact R.fresh b1 hb
  lim := R.lim
theorem Rel.put_at (R : Rel w0 e h w) {b k : Nat} (o : Option O) (hk : e.ρ b = some k) : w0.heap.size ≤ k ∨ logged e (h.set b o).log k := by
  rcases H.log_put h b o with q | q
  · exact ((R.new _ _ hk).1 q).imp id fun q => q.mono (fun _ _ q => q) (H.log_set _ _ _)
  · exact .inr ⟨b, q, hk⟩
theorem grown_below (R : Rel w0 e h w) {b k : Nat} (o : Option O) (hk : e.ρ b = some k) (hg : w.grownBy w' (some k)) : BelX w0 w' (logged e (h.set b o).log) :=
  (R.bel.mono fun k q => q.mono (fun _ _ q => q) (H.log_set _ _ _)).grown hg fun k1 e1 hlt => by
    cases e1
    exact (R.put_at o hk).resolve_left (Nat.not_le.2 hlt)
/-- A block that is written. -/
theorem Rel.upd (R : Rel w0 e h w) {b k : Nat} {o o' : O} (hk : e.ρ b = some k) (hfz : True) (hb : h.get b = some o) (hg : w.grownBy w' (some k)) (ho : orel e b o' w'.heap[k]?) : Rel w0 e (h.set b (some o')) w' where
  heap := fun b1 o1 k1 hb1 hk1 => by
    rw [H.get_set] at hb1
    by_cases q : b1 = b
    · rw [if_pos q] at hb1
      subst q
      cases hb1
      rw [hk] at hk1
      cases hk1
      exact ho
    · rw [if_neg q] at hb1
      have hne : k1 ≠ k := fun e1 => by subst e1; exact q (R.inj b1 b k1 o1 o hk1 hk hb1 hb)
      rw [hg.block k1 (R.new _ _ hk1).2 (fun e1 => hne (by cases e1; rfl))]
      exact R.heap b1 o1 k1 hb1 hk1
  lt := R.lt
  klt := R.klt
  inj := fun b1 b' k o1 o2 h1 h2 h3 h4 => by
    have live : ∀ b2 o2, (h.set b (some o')).get b2 = some o2 → ∃ o3, h.get b2 = some o3 := fun b2 o2 q => by
      rw [H.get_set] at q
      by_cases e1 : b2 = b
      · subst e1; exact ⟨o, hb⟩
      · rw [if_neg e1] at q; exact ⟨_, q⟩
    obtain ⟨o3, q3⟩ := live _ _ h3
    obtain ⟨o4, q4⟩ := live _ _ h4
    exact R.inj b1 b' k o3 o4 h1 h2 q3 q4
  new := fun b1 k1 q => ⟨((R.del b).new b1 k1 q).1, Nat.lt_of_lt_of_le (R.new b1 k1 q).2 hg.size⟩
  bel := grown_below R _ hk hg
  fresh := fun b1 hb1 => by
    rw [H.get_set, if_neg (fun e1 => by subst e1; have := R.lt _ _ hk; have : h.nxt ≤ b1 := hb1; omega)]
    exact R.fresh b1 hb1
  lim := R.lim
def E.bind (e : E) (b : Nat) (k : Option Nat) (c : Option Nat) : E := ⟨fun i => if i = b then k else e.ρ i, fun i => if i = b then c else e.κ i, max e.lim (b + 1)⟩
theorem E.bind_sub {e : E} {b : Nat} {k c : Option Nat} (h1 : e.ρ b = none) (h2 : e.κ b = none) : e.sub (e.bind b k c) :=
  ⟨fun i j q => by
    show (if i = b then k else e.ρ i) = some j
    rw [if_neg (fun e1 => by subst e1; rw [h1] at q; cases q)]
    exact q, fun i j q => by
    show (if i = b then c else e.κ i) = some j
    rw [if_neg (fun e1 => by subst e1; rw [h2] at q; cases q)]
    exact q⟩
theorem E.bind_le {e : E} {b : Nat} {k c : Option Nat} (h1 : e.ρ b = none) (h2 : e.κ b = none) (h3 : e.lim ≤ b) : e.le (e.bind b k c) :=
  ⟨(E.bind_sub h1 h2).ρ, (E.bind_sub h1 h2).κ, Nat.le_max_left _ _, fun i hi q => by
    show (if i = b then k else e.ρ i) = none
    rw [if_neg (by omega)]
    exact q, fun i hi q => by
    show (if i = b then c else e.κ i) = none
    rw [if_neg (by omega)]
    exact q⟩
theorem E.bind_ρ (e : E) (b : Nat) (k c : Option Nat) : (e.bind b k c).ρ b = k := by simp [E.bind]
theorem E.bind_κ (e : E) (b : Nat) (k c : Option Nat) : (e.bind b k c).κ b = c := by simp [E.bind]
/-- A block that no world had gets its place. -/
theorem Rel.bind (R : Rel w0 e h w) {b k : Nat} {c : Option Nat} {o : O} {row : Option Nat} (hb : h.get b = some o) (h1 : e.ρ b = none) (h2 : e.κ b = none) (hlt : b < h.nxt) (hg : w.grownBy w' row)
    (hrow : ∀ j, row = some j → j = k) (hfree : ∀ b' o', h.get b' = some o' → e.ρ b' ≠ some k) (hk0 : w0.heap.size ≤ k ∨ logged e h.log k) (hk : k < w'.heap.size) (ho : orel (e.bind b (some k) c) b o w'.heap[k]?) :
    Rel w0 (e.bind b (some k) c) h w' where
  heap := fun b1 o1 k1 hb1 hk1 => by
    by_cases q : b1 = b
    · subst q
      rw [E.bind_ρ] at hk1
      cases hk1
      rw [hb] at hb1
      cases hb1
      exact ho
    · have hk2 : e.ρ b1 = some k1 := by simpa [E.bind, q] using hk1
      have hne : k1 ≠ k := fun e1 => hfree b1 o1 hb1 (e1 ▸ hk2)
      rw [hg.block k1 (R.new _ _ hk2).2 (fun e1 => hne (hrow k1 e1.symm))]
      exact orel_sub (E.bind_sub h1 h2) (R.heap b1 o1 k1 hb1 hk2)
  lt := fun b1 k1 q => by
    by_cases e1 : b1 = b
    · subst e1; exact hlt
    · exact R.lt b1 k1 (by simpa [E.bind, e1] using q)
  klt := fun b1 k1 q => by
    by_cases e1 : b1 = b
    · subst e1; exact hlt
    · exact R.klt b1 k1 (by simpa [E.bind, e1] using q)
  inj := fun b1 b2 k1 o1 o2 q1 q2 q3 q4 => by
    by_cases e1 : b1 = b
    · by_cases e2 : b2 = b
      · rw [e1, e2]
      · subst e1
        rw [E.bind_ρ] at q1
        cases q1
        exact absurd (show e.ρ b2 = some k by simpa [E.bind, e2] using q2) (hfree b2 o2 q4)
    · by_cases e2 : b2 = b
      · subst e2
        rw [E.bind_ρ] at q2
        cases q2
        exact absurd (show e.ρ b1 = some k by simpa [E.bind, e1] using q1) (hfree b1 o1 q3)
      · exact R.inj b1 b2 k1 o1 o2 (by simpa [E.bind, e1] using q1) (by simpa [E.bind, e2] using q2) q3 q4
  new := fun b1 k1 q => by
    by_cases e1 : b1 = b
    · subst e1
      rw [E.bind_ρ] at q
      cases q
      exact ⟨fun _ => hk0.imp id fun q => q.mono (E.bind_sub h1 h2).ρ (fun _ q => q), hk⟩
    · have := R.new b1 k1 (by simpa [E.bind, e1] using q)
      exact ⟨fun hf => (this.1 hf).imp id fun q => q.mono (E.bind_sub h1 h2).ρ (fun _ q => q), Nat.lt_of_lt_of_le this.2 hg.size⟩
  bel := (R.bel.mono fun k' q => q.mono (E.bind_sub h1 h2).ρ (fun _ q => q)).grown hg (fun j e1 hlt => by rw [hrow j e1] at hlt ⊢; exact (hk0.resolve_left (Nat.not_le.2 hlt)).mono (E.bind_sub h1 h2).ρ (fun _ q => q))
  fresh := R.fresh
  lim := by
    show max e.lim (b + 1) = h.nxt
    rw [R.lim]
    omega
/-- A stamp and its number. -/
theorem Rel.stamp (R : Rel w0 e h w) (n : Nat) : Rel w0 (e.bind h.nxt none (some n)) h.bump w := by
  have hle : e.le (e.bind h.nxt none (some n)) := E.bind_le R.rn R.kn R.ll
  have back : ∀ b k, (e.bind h.nxt none (some n)).ρ b = some k → e.ρ b = some k := fun b k q => by
    by_cases e1 : b = h.nxt
    · subst e1; rw [E.bind_ρ] at q; cases q
    · simpa [E.bind, e1] using q
  refine ⟨fun b o k q1 q2 => orel_mono hle (R.heap b o k q1 (back b k q2)), fun b k q => Nat.lt_succ_of_lt (R.lt b k (back b k q)), fun b k q => ?_, fun b b' k o o' q1 q2 => R.inj b b' k o o' (back _ _ q1) (back _ _ q2), fun b k q => ⟨fun hf => ((R.new b k (back b k q)).1 hf).imp id fun q => q.mono hle.ρ (fun _ q => q), (R.new b k (back b k q)).2⟩, R.bel.mono fun k q => q.mono hle.ρ (fun _ q => q), fun b hb => R.fresh b (Nat.le_of_succ_le hb), ?_⟩
  · by_cases e1 : b = h.nxt
    · subst e1; exact Nat.lt_succ_self _
    · exact Nat.lt_succ_of_lt (R.klt b k (by simpa [E.bind, e1] using q))
  · show max e.lim (h.nxt + 1) = h.nxt + 1
    rw [R.lim]
    omega
theorem E.up_bind {e : E} {b : Nat} (k c : Option Nat) (hb : e.lim = b) : e.up.bind b k c = e.bind b k c := by
  unfold E.bind E.up
  congr 1
  show max (e.lim + 1) (b + 1) = max e.lim (b + 1)
  omega
/-- A block made at once. -/
theorem Rel.made (R : Rel w0 e h w) {k : Nat} {c : Option Nat} {o : O} (hg : w.grownBy w' none) (hk0 : w.heap.size ≤ k) (hk : k < w'.heap.size) (ho : orel (e.bind h.nxt (some k) c) h.nxt o w'.heap[k]?) :
    Rel w0 (e.bind h.nxt (some k) c) (h.new o) w' :=
  E.up_bind (some k) c R.lim ▸ (R.add o).bind (by rw [H.get_new, if_pos rfl]) R.rn R.kn (Nat.lt_succ_self _) hg (fun j e1 => by cases e1) (fun b' o' _ q => by have := (R.new _ _ q).2; omega) (.inl (Nat.le_trans R.bel.size hk0)) hk (by rw [E.up_bind (some k) c R.lim]; exact ho)
/-- What can be loaded. -/
theorem Rel.cells (R : Rel w0 e h w) {b k : Nat} {l : List V} {t : TypeId} {opn : Option Nat} (hb : h.get b = some (.cells l t opn)) (hk : e.ρ b = some k) :
    ∃ vs rest, w.heap[k]? = some (.cells ⟨vs ++ rest⟩ t (0, 0)) ∧ vrels e l vs ∧ (opn = none → rest = []) ∧ ∀ s, opn = some s → ∃ c, e.κ b = some c ∧ (vs ++ rest).length = c * s := by
  have := R.heap b _ k hb hk
  cases opn with
  | none =>
    obtain ⟨vs, h1, h2⟩ := this
    exact ⟨vs, [], by simpa using h1, h2, fun _ => rfl, fun s q => nomatch q⟩
  | some s =>
    obtain ⟨vs, rest, c, h1, h2, h3, h4⟩ := this
    exact ⟨vs, rest, h1, h2, (fun q => nomatch q), (fun s' q => by cases q; exact ⟨c, h3, h4⟩)⟩
theorem Rel.cells_mk {b k : Nat} {l : List V} {t : TypeId} {opn : Option Nat} {vs rest : List Value} {ob : Option Obj} (hw : ob = some (.cells ⟨vs ++ rest⟩ t (0, 0))) (hl : vrels e l vs) (h0 : opn = none → rest = [])
    (h1 : ∀ s, opn = some s → ∃ c, e.κ b = some c ∧ (vs ++ rest).length = c * s) : orel e b (.cells l t opn) ob := by
  cases opn with
  | none => rw [h0 rfl] at hw; exact ⟨vs, by simpa using hw, hl⟩
  | some s =>
    obtain ⟨c, q1, q2⟩ := h1 s rfl
    exact ⟨vs, rest, c, hw, hl, q1, q2⟩
end
end Go.Proofs.YtjngkcnanhnopaaGreatDoor.Ev

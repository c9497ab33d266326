import Derived.Maps.OwnSet
import Derived.Maps.OwnOps
import Derived.WideKeyEntry
import Derived.OwnWalk
import Derived.Below
import Derived.Deep.Draws
import Derived.WalkKit
/-! Worlds: what a call changes ('Chg'). Maps as functions ('MapOf'): look-up, store, delete, 'm[k] op= v'. -/
namespace Go.Proofs.Ytdammjolkcjogaa
open Go.RowKit Go.Maps Go.MapKept
open Go.ChangeMaps (setBlock heap_setBlock_same heap_setBlock_other)

/-- w' is w but for the blocks of S and for what is new. -/
structure Chg (w w' : World) (S : Nat → Prop) : Prop where
  os : w'.os = w.os
  tape : w'.tape = w.tape
  output : w'.output = w.output
  size : w.heap.size ≤ w'.heap.size
  block : ∀ k, k < w.heap.size → ¬ S k → w'.heap[k]? = w.heap[k]?

section
variable {w w1 w2 : World} {S S1 S2 : Nat → Prop}
theorem Chg.refl (w : World) (S : Nat → Prop) : Chg w w S := ⟨rfl, rfl, rfl, Nat.le_refl _, fun _ _ _ => rfl⟩
theorem Chg.mono (h : Chg w w1 S) (hs : ∀ k, k < w.heap.size → S k → S1 k) : Chg w w1 S1 :=
  ⟨h.os, h.tape, h.output, h.size, fun k hk hn => h.block k hk (fun hS => hn (hs k hk hS))⟩
theorem Chg.trans (h : Chg w w1 S1) (h2 : Chg w1 w2 S2) (a : ∀ k, k < w.heap.size → S1 k → S k) (b : ∀ k, k < w.heap.size → S2 k → S k) : Chg w w2 S :=
  ⟨h2.os.trans h.os, h2.tape.trans h.tape, h2.output.trans h.output, Nat.le_trans h.size h2.size, fun k hk hn =>
    (h2.block k (Nat.lt_of_lt_of_le hk h.size) (fun hS => hn (b k hk hS))).trans (h.block k hk (fun hS => hn (a k hk hS)))⟩
theorem Chg.of_below (h : Below w.heap.size w w1) (S : Nat → Prop) : Chg w w1 S := ⟨h.os, h.tape, h.output, h.size, fun k hk _ => h.block k hk⟩
theorem Chg.of_grown {row : Option Nat} (h : w.grownBy w1 row) : Chg w w1 (fun k => some k = row) := ⟨h.os, h.tape, h.output, h.size, fun k hk hn => h.block k hk hn⟩
theorem Chg.grown {row : Option Nat} (h : Chg w w1 (fun k => some k = row)) : w.grownBy w1 row := ⟨h.os, h.tape, h.output, h.size, fun k hk hn => h.block k hk hn⟩
theorem Chg.below (h : Chg w w1 S) {B : Nat} (hB : B ≤ w.heap.size) (hS : ∀ k, S k → B ≤ k) : Below B w w1 :=
  ⟨h.os, h.tape, h.output, h.size, fun k hk => h.block k (by omega) (fun hs => by have := hS k hs; omega)⟩
theorem Chg.alloc (h : Chg w w1 S) (o : Obj) : Chg w (w1.alloc o) S :=
  h.trans (Chg.of_below ((Below.refl _ _).alloc (Nat.le_refl _) o) (fun _ => False)) (fun _ _ h => h) (fun _ _ h => h.elim)
theorem Chg.drew (h : Chg w w1 S) : Chg w w1.drew S := ⟨h.os, h.tape, h.output, h.size, h.block⟩
theorem Chg.drewN (h : Chg w w1 S) (n : Nat) : Chg w (w1.drewN n) S := ⟨h.os, h.tape, h.output, h.size, h.block⟩
theorem Chg.setCell (h : Chg w w1 S) {p : Addr} (hp : S p.block ∨ w.heap.size ≤ p.block) (u : Value) : Chg w (w1.setCell p u) S :=
  ⟨h.os, h.tape, h.output, by have := h.size; simpa [World.setCell] using this, fun k hk hn =>
    (Below.heap_setCell w1 p u k (fun e => by subst e; rcases hp with hp | hp; exact hn hp; omega)).trans (h.block k hk hn)⟩
theorem Chg.then_below (h : Chg w w1 S) (hb : Below w1.heap.size w1 w2) : Chg w w2 S :=
  h.trans (Chg.of_below hb (fun _ => False)) (fun _ _ h => h) (fun _ _ h => h.elim)
theorem Chg.then_ (h : Chg w w1 S) (h2 : Chg w1 w2 S2) (b : ∀ k, k < w.heap.size → S2 k → S k) : Chg w w2 S := h.trans h2 (fun _ _ h => h) b
theorem Chg.obj (h : Chg w w1 S) {k : Nat} {o : Obj} (hk : w.heap[k]? = some o) (hn : ¬ S k) : w1.heap[k]? = some o :=
  (h.block k (Array.getElem?_eq_some_iff.1 hk).1 hn).trans hk
theorem Chg.cell (h : Chg w w1 S) {p : Addr} (hlt : p.block < w.heap.size) (hn : ¬ S p.block) : w1.cell? p = w.cell? p := World.cell?_of_block (h.block p.block hlt hn)
theorem Chg.frozen (h : Chg w w1 S) {p : Addr} (hlt : p.block < w.heap.size) (hn : ¬ S p.block) : w1.frozen? p = w.frozen? p := World.frozen?_of_block (h.block p.block hlt hn)
theorem Chg.cell_some (h : Chg w w1 S) {p : Addr} {v : Value} (hc : w.cell? p = some v) (hn : ¬ S p.block) : w1.cell? p = some v := (h.cell (World.block_lt_of_cell? w p hc) hn).trans hc
end

/-- A key's kind: how keys of type k are encoded. -/
structure KeyEnc {α : Type} (P : Program) (k : TypeId) (kv : α → Value) (ok : α → Prop) : Prop where
  keyed : Keyed P k
  lit : ∀ a, ok a → ∃ l, keyOf P k (kv a) = some l
  inj : ∀ a b, kv a = kv b → a = b

/-- Block b is a map that reads as the function g. -/
def MapOf {α β : Type} (kv : α → Value) (ev : β → Value) (ok : α → Prop) (w : World) (b : Nat) (g : α → Option β) : Prop :=
  ∃ es clock, w.heap[b]? = some (.map es clock) ∧ Stamped es clock ∧
    (∀ e ∈ es.toList, ∃ a v, e.key = kv a ∧ e.val = ev v ∧ g a = some v) ∧
    (∀ a v, g a = some v → ok a ∧ ∃ e ∈ es.toList, e.key = kv a ∧ e.val = ev v)

def upd {α β : Type} [DecidableEq α] (g : α → Option β) (a : α) (v : Option β) : α → Option β := fun x => if x = a then v else g x
theorem upd_same {α β : Type} [DecidableEq α] (g : α → Option β) (a : α) (v : Option β) : upd g a v a = v := by simp [upd]
theorem upd_other {α β : Type} [DecidableEq α] (g : α → Option β) {a x : α} (v : Option β) (h : x ≠ a) : upd g a v x = g x := by simp [upd, h]

section
variable {α β : Type} {P : Program} {k t e : TypeId} {kv : α → Value} {ev : β → Value} {ok : α → Prop} {w w1 : World} {b : Nat} {g : α → Option β}

theorem MapOf.made (w : World) (kv : α → Value) (ev : β → Value) (ok : α → Prop) : MapOf kv ev ok (w.alloc (.map #[] 0)) w.heap.size (fun _ => none) :=
  ⟨#[], 0, heap_alloc_new w _, stamped_empty 0, by simp, by simp⟩
theorem MapOf.lt (h : MapOf kv ev ok w b g) : b < w.heap.size := by
  obtain ⟨es, clock, hb, _⟩ := h
  exact (Array.getElem?_eq_some_iff.1 hb).1
theorem MapOf.move (h : MapOf kv ev ok w b g) (hb : w1.heap[b]? = w.heap[b]?) : MapOf kv ev ok w1 b g := by
  obtain ⟨es, clock, hb', r⟩ := h
  exact ⟨es, clock, hb.trans hb', r⟩
theorem MapOf.chg {S : Nat → Prop} (h : MapOf kv ev ok w b g) (hc : Chg w w1 S) (hn : ¬ S b) : MapOf kv ev ok w1 b g := h.move (hc.block b h.lt hn)
theorem MapOf.alloc (h : MapOf kv ev ok w b g) (o : Obj) : MapOf kv ev ok (w.alloc o) b g := h.move (Below.heap_alloc w o b h.lt)
theorem MapOf.drewN (h : MapOf kv ev ok w b g) (m : Nat) : MapOf kv ev ok (w.drewN m) b g := h.move rfl
theorem MapOf.drew (h : MapOf kv ev ok w b g) : MapOf kv ev ok w.drew b g := h.move rfl
theorem MapOf.isMap (h : MapOf kv ev ok w b g) : ∃ es clock, w.heap[b]? = some (.map es clock) := by
  obtain ⟨es, clock, hb, _⟩ := h
  exact ⟨es, clock, hb⟩
/-- A map's block is none of cells. -/
theorem MapOf.no_cell (h : MapOf kv ev ok w b g) {p : Addr} {v : Value} (hc : w.cell? p = some v) : p.block ≠ b := by
  rintro rfl
  obtain ⟨es, clock, hb, _⟩ := h
  simp [World.cell?, hb] at hc
theorem MapOf.good (h : MapOf kv ev ok w b g) {a : α} {v : β} (hg : g a = some v) : ok a := by
  obtain ⟨es, clock, hb, hs, h1, h2⟩ := h
  exact (h2 a v hg).1
theorem MapOf.congr (h : MapOf kv ev ok w b g) {g' : α → Option β} (he : ∀ a, g' a = g a) : MapOf kv ev ok w b g' := by
  rw [show g' = g from funext he]; exact h

theorem entries_keys (KE : KeyEnc P k kv ok) {es : Array MapEntry} (h1 : ∀ e ∈ es.toList, ∃ a v, e.key = kv a ∧ e.val = ev v ∧ g a = some v) (h2 : ∀ a v, g a = some v → ok a ∧ ∃ e ∈ es.toList, e.key = kv a ∧ e.val = ev v) :
    ∀ e ∈ es.toList, ∃ l, keyOf P k e.key = some l := fun e he => by
  obtain ⟨a, v, hk, _, hg⟩ := h1 e he
  rw [hk]
  exact KE.lit a (h2 a v hg).1

/-- 'm[k]', 'v, ok := m[k]'. -/
theorem MapOf.look (h : MapOf kv ev ok w b g) (KE : KeyEnc P k kv ok) (ht : P.underlying t = some (.map k e)) {z : Value} (hz : (zeroValue e).run P w = .ok z w) (c : Bool) {a : α} (ha : ok a) :
    (Instr.lookup t (.map (some b)) (kv a) c).run P w = .ok (match g a with
      | some v => if c then .tuple #[ev v, .bool true] else ev v
      | none => if c then .tuple #[z, .bool false] else z) w := by
  obtain ⟨es, clock, hb, hs, h1, h2⟩ := h
  obtain ⟨l, hl⟩ := KE.lit a ha
  rcases KE.keyed.find w hl es.toList (entries_keys KE h1 h2) with ⟨f1, f2⟩ | ⟨j, e0, f1, f2, f3⟩
  · have hg : g a = none := by
      cases hga : g a with
      | none => rfl
      | some v =>
        obtain ⟨_, e0, he0, hk, _⟩ := h2 a v hga
        exact absurd hk (f2 e0 he0)
    simp [Instr.lookup, run_underlying ht, MapKept.run_getObj_map hb, KE.keyed.check w _ hl, f1, hz, Result.andThen, hg]
  · obtain ⟨a', v, hk, hv, hg⟩ := h1 e0 (List.mem_of_getElem? f2)
    have : a' = a := KE.inj a' a (hk.symm.trans f3)
    subst this
    simp [Instr.lookup, run_underlying ht, MapKept.run_getObj_map hb, KE.keyed.check w _ hl, f1, Result.andThen, hg, hv]

theorem nil_look (K : Keyed P k) (ht : P.underlying t = some (.map k e)) {z : Value} (hz : (zeroValue e).run P w = .ok z w) (c : Bool) {key : Value} {l : Lit} (hl : keyOf P k key = some l) :
    (Instr.lookup t (.map none) key c).run P w = .ok (if c then .tuple #[z, .bool false] else z) w := by
  rcases K.find w hl [] (by simp) with ⟨f1, _⟩ | ⟨j, e0, f1, f2, _⟩
  · simp [Instr.lookup, run_underlying ht, K.check w _ hl, f1, hz, Result.andThen]
  · simp at f2

variable [DecidableEq α]
theorem mapof_push {es : Array MapEntry} {clock : Nat} (hs : Stamped es clock) (h1 : ∀ e ∈ es.toList, ∃ a v, e.key = kv a ∧ e.val = ev v ∧ g a = some v) (h2 : ∀ a v, g a = some v → ok a ∧ ∃ e ∈ es.toList, e.key = kv a ∧ e.val = ev v)
    {a : α} (ha : ok a) (f2 : ∀ x ∈ es.toList, x.key ≠ kv a) (v : β) :
    Stamped (es.push ⟨kv a, ev v, clock⟩) (clock + 1) ∧ (∀ e ∈ (es.push ⟨kv a, ev v, clock⟩).toList, ∃ x y, e.key = kv x ∧ e.val = ev y ∧ upd g a (some v) x = some y) ∧
      (∀ x y, upd g a (some v) x = some y → ok x ∧ ∃ e ∈ (es.push ⟨kv a, ev v, clock⟩).toList, e.key = kv x ∧ e.val = ev y) := by
  refine ⟨stamped_push hs f2, ?_, ?_⟩
  · intro e0 he
    rw [Array.toList_push, List.mem_append, List.mem_singleton] at he
    rcases he with he | rfl
    · obtain ⟨x, y, hk, hv, hg⟩ := h1 e0 he
      refine ⟨x, y, hk, hv, ?_⟩
      rw [upd_other]
      · exact hg
      · rintro rfl
        exact f2 e0 he hk
    · exact ⟨a, v, rfl, rfl, upd_same _ _ _⟩
  · intro x y hxy
    by_cases hx : x = a
    · subst hx
      rw [upd_same] at hxy
      cases hxy
      exact ⟨ha, _, by rw [Array.toList_push]; exact List.mem_append_right _ (List.mem_singleton_self _), rfl, rfl⟩
    · rw [upd_other _ _ hx] at hxy
      obtain ⟨hox, e0, he, hk, hv⟩ := h2 x y hxy
      exact ⟨hox, e0, by rw [Array.toList_push]; exact List.mem_append_left _ he, hk, hv⟩

theorem mem_modify {es : Array MapEntry} {j : Nat} {f : MapEntry → MapEntry} {e0 : MapEntry} (hj : es.toList[j]? = some e0) (x : MapEntry) :
    x ∈ (es.modify j f).toList ↔ x = f e0 ∨ ∃ i, i ≠ j ∧ es.toList[i]? = some x := by
  constructor
  · intro hx
    obtain ⟨i, hi⟩ := List.getElem?_of_mem hx
    rw [Array.toList_modify, List.getElem?_modify] at hi
    by_cases hij : j = i
    · subst hij
      rw [hj] at hi
      simp at hi
      exact .inl hi.symm
    · refine .inr ⟨i, Ne.symm hij, ?_⟩
      cases h0 : es.toList[i]? with
      | none => simp [h0] at hi
      | some y => simp [h0, hij] at hi; rw [hi]
  · rintro (rfl | ⟨i, hne, hi⟩)
    · refine List.mem_of_getElem? (i := j) ?_
      rw [Array.toList_modify, List.getElem?_modify, hj]
      simp
    · refine List.mem_of_getElem? (i := i) ?_
      rw [Array.toList_modify, List.getElem?_modify, hi]
      simp [Ne.symm hne]

theorem mapof_modify {es : Array MapEntry} {clock : Nat} (hs : Stamped es clock) (h1 : ∀ e ∈ es.toList, ∃ a v, e.key = kv a ∧ e.val = ev v ∧ g a = some v) (h2 : ∀ a v, g a = some v → ok a ∧ ∃ e ∈ es.toList, e.key = kv a ∧ e.val = ev v)
    (inj : ∀ a b, kv a = kv b → a = b) {a : α} (ha : ok a) {j : Nat} {e0 : MapEntry} (f2 : es.toList[j]? = some e0) (f3 : e0.key = kv a) (v : β) :
    Stamped (es.modify j (fun e => { e with key := kv a, val := ev v })) clock ∧ (∀ e ∈ (es.modify j (fun e => { e with key := kv a, val := ev v })).toList, ∃ x y, e.key = kv x ∧ e.val = ev y ∧ upd g a (some v) x = some y) ∧
      (∀ x y, upd g a (some v) x = some y → ok x ∧ ∃ e ∈ (es.modify j (fun e => { e with key := kv a, val := ev v })).toList, e.key = kv x ∧ e.val = ev y) := by
  have hkey : ∀ i x, i ≠ j → es.toList[i]? = some x → x.key ≠ kv a := fun i x hne hi hk => by
    have hp := ((stamped_iff es clock).1 hs).2.2
    rw [List.pairwise_iff_getElem] at hp
    obtain ⟨hil, rfl⟩ := List.getElem?_eq_some_iff.1 hi
    obtain ⟨hjl, rfl⟩ := List.getElem?_eq_some_iff.1 f2
    rcases Nat.lt_or_gt_of_ne hne with hlt | hlt
    · exact hp i j hil hjl hlt (hk.trans f3.symm)
    · exact hp j i hjl hil hlt (f3.trans hk.symm)
  refine ⟨stamped_modify hs j _ (fun _ _ => rfl) (fun e he hj => ?_), ?_, ?_⟩
  · have : es.toList[j]? = some e := by simpa using hj
    rw [f2] at this
    cases this
    exact f3.symm
  · intro x hx
    rcases (mem_modify f2 x).1 hx with rfl | ⟨i, hne, hi⟩
    · exact ⟨a, v, rfl, rfl, upd_same _ _ _⟩
    · obtain ⟨x', y', hk, hv, hg⟩ := h1 x (List.mem_of_getElem? hi)
      refine ⟨x', y', hk, hv, ?_⟩
      rw [upd_other]
      · exact hg
      · rintro rfl
        exact hkey i x hne hi hk
  · intro x y hxy
    by_cases hx : x = a
    · subst hx
      rw [upd_same] at hxy
      cases hxy
      exact ⟨ha, _, (mem_modify f2 _).2 (.inl rfl), rfl, rfl⟩
    · rw [upd_other _ _ hx] at hxy
      obtain ⟨hox, e1, he, hk, hv⟩ := h2 x y hxy
      obtain ⟨i, hi⟩ := List.getElem?_of_mem he
      refine ⟨hox, e1, (mem_modify f2 _).2 (.inr ⟨i, ?_, hi⟩), hk, hv⟩
      rintro rfl
      rw [f2] at hi
      cases hi
      exact hx (inj _ _ (hk.symm.trans f3))

theorem chg_setBlock {es : Array MapEntry} {clock : Nat} (hb : w.heap[b]? = some (.map es clock)) (o : Obj) : Chg w (setBlock w b o) (fun k => k = b) :=
  ⟨rfl, rfl, rfl, by simp [setBlock], fun k _ hn => heap_setBlock_other hb o hn⟩

/-- 'm[k] = v'. -/
theorem MapOf.store (h : MapOf kv ev ok w b g) (KE : KeyEnc P k kv ok) (ht : P.underlying t = some (.map k e)) {a : α} (ha : ok a) (v : β) :
    ∃ w', (Instr.mapUpdate t (.map (some b)) (kv a) (ev v)).run P w = .ok () w' ∧ MapOf kv ev ok w' b (upd g a (some v)) ∧ Chg w w' (fun k => k = b) ∧ w'.heap.size = w.heap.size := by
  obtain ⟨es, clock, hb, hs, h1, h2⟩ := h
  obtain ⟨l, hl⟩ := KE.lit a ha
  rcases KE.keyed.find w hl es.toList (entries_keys KE h1 h2) with ⟨f1, f2⟩ | ⟨j, e0, f1, f2, f3⟩
  · obtain ⟨r1, r2, r3⟩ := mapof_push hs h1 h2 ha f2 v
    refine ⟨setBlock w b (.map (es.push ⟨kv a, ev v, clock⟩) (clock + 1)), ?_, ⟨_, _, heap_setBlock_same hb _, r1, r2, r3⟩, chg_setBlock hb _, by simp [setBlock]⟩
    simp [Instr.mapUpdate, run_underlying ht, MapKept.run_getObj_map hb, KE.keyed.check w false hl, f1, MapKept.run_setObj_map _ hb, Result.andThen, setBlock]
  · have hj : es[j]? = some e0 := by simpa using f2
    obtain ⟨r1, r2, r3⟩ := mapof_modify hs h1 h2 KE.inj ha f2 f3 v
    refine ⟨setBlock w b (.map (es.modify j (fun e => { e with key := kv a, val := ev v })) clock), ?_, ⟨_, _, heap_setBlock_same hb _, r1, r2, r3⟩, chg_setBlock hb _, by simp [setBlock]⟩
    simp [Instr.mapUpdate, run_underlying ht, MapKept.run_getObj_map hb, KE.keyed.check w false hl, f1, hj, f3, KE.keyed.stays w hl, MapKept.run_setObj_map _ hb, Result.andThen, setBlock]

/-- 'm[k] op= v': the entry is taken, then stored. -/
theorem MapOf.entry (h : MapOf kv ev ok w b g) (KE : KeyEnc P k kv ok) (ht : P.underlying t = some (.map k e)) {z : β} (hz : ∀ u : World, (zeroValue e).run P u = .ok (ev z) u) {a : α} (ha : ok a) :
    ∃ st w1, (Instr.mapEntry t (.map (some b)) (kv a)).run P w = .ok (.tuple #[ev ((g a).getD z), goInt st]) w1 ∧ MapOf kv ev ok w1 b (upd g a (some ((g a).getD z))) ∧ Chg w w1 (fun k => k = b) ∧ w1.heap.size = w.heap.size ∧
      ∀ (w2 : World) (v : β), w2.heap[b]? = w1.heap[b]? → ∃ w3, (Instr.entryStore t (.map (some b)) (goInt st) (ev v)).run P w2 = .ok () w3 ∧ MapOf kv ev ok w3 b (upd g a (some v)) ∧ Chg w2 w3 (fun k => k = b) ∧ w3.heap.size = w2.heap.size := by
  obtain ⟨es, clock, hb, hs, h1, h2⟩ := h
  obtain ⟨l, hl⟩ := KE.lit a ha
  have s2 := hs.2.1
  rcases KE.keyed.find w hl es.toList (entries_keys KE h1 h2) with ⟨f1, f2⟩ | ⟨j, e0, f1, f2, f3⟩
  · have hg : g a = none := by
      cases hga : g a with
      | none => rfl
      | some v =>
        obtain ⟨_, e0, he0, hk, _⟩ := h2 a v hga
        exact absurd hk (f2 e0 he0)
    obtain ⟨r1, r2, r3⟩ := mapof_push hs h1 h2 ha f2 z
    refine ⟨clock, setBlock w b (.map (es.push ⟨kv a, ev z, clock⟩) (clock + 1)), ?_, ⟨_, _, heap_setBlock_same hb _, r1, by rw [hg]; exact r2, by rw [hg]; exact r3⟩, chg_setBlock hb _, by simp [setBlock], fun w2 v hw2 => ?_⟩
    · simp [Instr.mapEntry, run_underlying ht, MapKept.run_getObj_map hb, KE.keyed.check w false hl, f1, hz, MapKept.run_setObj_map _ hb, Result.andThen, setBlock, hg]
    · have hw2' := hw2.trans (heap_setBlock_same hb _)
      have hidx : (es.push ⟨kv a, ev z, clock⟩).findIdx? (fun e => ((e.born : Nat) : Int) == ((clock : Nat) : Int)) = some es.size := by
        rw [WideElems.findIdx_arr]
        have := WideElems.findIdx_born (l := (es.push ⟨kv a, ev z, clock⟩).toList) (j := es.size) (e0 := ⟨kv a, ev z, clock⟩) r1.2.1 (by simp)
        exact this
      have hmod : (es.push ⟨kv a, ev z, clock⟩).modify es.size (fun e => { e with val := ev v }) = es.push ⟨kv a, ev v, clock⟩ := by
        apply Array.ext'
        rw [Array.toList_modify, Array.toList_push, Array.toList_push, ← Array.length_toList, WideElems.modify_last]
      obtain ⟨q1, q2, q3⟩ := mapof_push hs h1 h2 ha f2 v
      refine ⟨setBlock w2 b (.map (es.push ⟨kv a, ev v, clock⟩) (clock + 1)), ?_, ⟨_, _, heap_setBlock_same hw2' _, q1, q2, q3⟩, chg_setBlock hw2' _, by simp [setBlock]⟩
      simp [Instr.entryStore, MapKept.run_getObj_map hw2', asInt, asIntOf, goInt, hidx, hmod, MapKept.run_setObj_map _ hw2', Result.andThen, setBlock]
  · have hj : es[j]? = some e0 := by simpa using f2
    obtain ⟨a', v0, hk, hv, hg⟩ := h1 e0 (List.mem_of_getElem? f2)
    have : a' = a := KE.inj a' a (hk.symm.trans f3)
    subst this
    have hsame : es.modify j (fun e => { e with key := kv a' }) = es := by
      apply Array.ext'
      rw [Array.toList_modify, ChangeMaps.modify_eq_set _ _ _ _ f2]
      have : ({ e0 with key := kv a' } : MapEntry) = e0 := by rw [← f3]
      rw [this]
      exact WideElems.set_self _ _ _ f2
    have hupd : upd g a' (some ((g a').getD z)) = g := by
      funext x
      by_cases hx : x = a'
      · subst hx; rw [upd_same, hg]; rfl
      · rw [upd_other _ _ hx]
    refine ⟨e0.born, setBlock w b (.map es clock), ?_, ⟨_, _, heap_setBlock_same hb _, hs, by rw [hupd]; exact h1, by rw [hupd]; exact h2⟩, chg_setBlock hb _, by simp [setBlock], fun w2 v hw2 => ?_⟩
    · simp [Instr.mapEntry, run_underlying ht, MapKept.run_getObj_map hb, KE.keyed.check w false hl, f1, hj, f3, KE.keyed.stays w hl, hsame, MapKept.run_setObj_map _ hb, Result.andThen, setBlock, hg, hv]
    · have hw2' := hw2.trans (heap_setBlock_same hb _)
      have hidx : es.findIdx? (fun e => ((e.born : Nat) : Int) == ((e0.born : Nat) : Int)) = some j := by
        rw [WideElems.findIdx_arr]
        exact WideElems.findIdx_born s2 f2
      have hmod : es.modify j (fun e => { e with val := ev v }) = es.modify j (fun e' => { e' with key := kv a', val := ev v }) := by
        apply Array.ext'
        rw [Array.toList_modify, Array.toList_modify, ChangeMaps.modify_eq_set _ _ _ _ f2, ChangeMaps.modify_eq_set _ _ _ _ f2, ← f3]
      obtain ⟨q1, q2, q3⟩ := mapof_modify hs h1 h2 KE.inj ha f2 f3 v
      refine ⟨setBlock w2 b (.map (es.modify j (fun e' => { e' with key := kv a', val := ev v })) clock), ?_, ⟨_, _, heap_setBlock_same hw2' _, q1, q2, q3⟩, chg_setBlock hw2' _, by simp [setBlock]⟩
      simp [Instr.entryStore, MapKept.run_getObj_map hw2', asInt, asIntOf, goInt, hidx, hmod, MapKept.run_setObj_map _ hw2', Result.andThen, setBlock]

/-- 'delete(m, k)'. -/
theorem MapOf.del {ty : TypeId} (h : MapOf kv ev ok w b g) (KE : KeyEnc P k kv ok) (ht : P.underlying t = some (.map k e)) {a : α} (ha : ok a) :
    ∃ w', (Builtin.delete_ #[t, k] ty #[.map (some b), kv a]).run P w = .ok (.tuple #[]) w' ∧ MapOf kv ev ok w' b (upd g a none) ∧ Chg w w' (fun k => k = b) ∧ w'.heap.size = w.heap.size := by
  obtain ⟨es, clock, hb, hs, h1, h2⟩ := h
  obtain ⟨l, hl⟩ := KE.lit a ha
  rcases KE.keyed.find w hl es.toList (entries_keys KE h1 h2) with ⟨f1, f2⟩ | ⟨j, e0, f1, f2, f3⟩
  · refine ⟨setBlock w b (.map es clock), ?_, ⟨_, _, heap_setBlock_same hb _, hs, fun x hx => ?_, fun x y hxy => ?_⟩, chg_setBlock hb _, by simp [setBlock]⟩
    · simp [Builtin.delete_, run_underlying ht, MapKept.run_getObj_map hb, KE.keyed.check w _ hl, f1, MapKept.run_setObj_map _ hb, Result.andThen, setBlock]
    · obtain ⟨a', v', hk, hv, hg⟩ := h1 x hx
      refine ⟨a', v', hk, hv, ?_⟩
      rw [upd_other]
      · exact hg
      · rintro rfl; exact f2 x hx hk
    · by_cases hx : x = a
      · subst hx; rw [upd_same] at hxy; cases hxy
      · rw [upd_other _ _ hx] at hxy; exact h2 x y hxy
  · obtain ⟨hjl, he0⟩ := List.getElem?_eq_some_iff.1 f2
    have hjs : j < es.size := by simpa using hjl
    have hmem : ∀ x, x ∈ (es.eraseIdxIfInBounds j).toList ↔ ∃ i, i ≠ j ∧ es.toList[i]? = some x := fun x => by
      rw [Array.eraseIdxIfInBounds, dif_pos hjs, Array.toList_eraseIdx, List.mem_eraseIdx_iff_getElem?]
    have hkey : ∀ i x, i ≠ j → es.toList[i]? = some x → x.key ≠ kv a := fun i x hne hi hk => by
      have hp := ((stamped_iff es clock).1 hs).2.2
      rw [List.pairwise_iff_getElem] at hp
      obtain ⟨hil, rfl⟩ := List.getElem?_eq_some_iff.1 hi
      subst he0
      rcases Nat.lt_or_gt_of_ne hne with hlt | hlt
      · exact hp i j hil hjl hlt (hk.trans f3.symm)
      · exact hp j i hjl hil hlt (f3.trans hk.symm)
    refine ⟨setBlock w b (.map (es.eraseIdxIfInBounds j) clock), ?_, ⟨_, _, heap_setBlock_same hb _, stamped_erase hs j, fun x hx => ?_, fun x y hxy => ?_⟩, chg_setBlock hb _, by simp [setBlock]⟩
    · simp [Builtin.delete_, run_underlying ht, MapKept.run_getObj_map hb, KE.keyed.check w _ hl, f1, MapKept.run_setObj_map _ hb, Result.andThen, setBlock]
    · obtain ⟨i, hne, hi⟩ := (hmem x).1 hx
      obtain ⟨a', v', hk, hv, hg⟩ := h1 x (List.mem_of_getElem? hi)
      refine ⟨a', v', hk, hv, ?_⟩
      rw [upd_other]
      · exact hg
      · rintro rfl; exact hkey i x hne hi hk
    · by_cases hx : x = a
      · subst hx; rw [upd_same] at hxy; cases hxy
      · rw [upd_other _ _ hx] at hxy
        obtain ⟨hox, e1, he, hk, hv⟩ := h2 x y hxy
        obtain ⟨i, hi⟩ := List.getElem?_of_mem he
        refine ⟨hox, e1, (hmem e1).2 ⟨i, ?_, hi⟩, hk, hv⟩
        rintro rfl
        rw [f2] at hi
        cases hi
        exact hx (KE.inj _ _ (hk.symm.trans f3))
end

/-- Keys of the kind int. -/
theorem intKey {P : Program} {k : TypeId} (hk : P.underlying k = some (.int .i64)) : KeyEnc P k (Value.int .i64) (fun a => (Lit.int .i64 a).wf = true) :=
  ⟨int_keyed hk, fun a ha => ⟨_, keyOf_int_mk hk ha⟩, fun a b h => by injection h⟩
end Go.Proofs.Ytdammjolkcjogaa

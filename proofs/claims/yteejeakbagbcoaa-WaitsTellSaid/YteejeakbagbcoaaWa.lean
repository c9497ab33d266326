import Derived.Test.YteejeakbagbcoaaRw
import Derived.Test.YteejeakbagbcoaaDg
import Derived.Test.YteejeakbagbcoaaWp
import Derived.Test.YteejeakbagbcoaaMs
import Derived.Test.YteejeakbagbcoaaWLast
import Derived.Deep.RegionHeld3
/-! waits.along: waits, by who waits. -/
namespace Go.Proofs.Yteejeakbagbcoaa
open Go.RowKit Go.Maps Go.MapKept Go.WideMaps
open Go.Proofs.YteejeakbagbcoaaW.PrintWords Go.Proofs.YteejeakbagbcoaaW.PrintLast Go.Proofs.YteejeakbagbcoaaW.PrintMore
set_option linter.unusedVariables false
set_option linter.unusedSimpArgs false

def okI (a : Int) : Prop := (Lit.int .i64 a).wf = true
theorem keyInt : KeyEnc Try.prog 3 (Value.int .i64) okI := intKey Try.underlying3
theorem Try.laidOut : laidOutB Try.prog = true := by kernel_rfl
theorem Try.infoInt : (Try.prog.info? 3).map (fun i => (i.zero, i.size, i.bytes)) = some (some (.int .i64 0), 1, 8) := by kernel_rfl
theorem Try.zeroRow (u : World) : (zeroValue 26).run Try.prog u = .ok (id (Value.slice none 0 0)) u := by kernel_rfl
theorem Try.zeroIntW (u : World) : (zeroValue 3).run Try.prog u = .ok (Value.int .i64 0) u := by kernel_rfl
abbrev kInt : Kd Int := Kd.int .i64
def kEdge : Kd (Int × Int) := Kd.pair (Kd.int .i64) (Kd.int .i64)
theorem kEdge_openM {w : World} {base : Nat} {ok : Nat → Prop} {e : Int × Int} {cs : List Value} (h : kEdge.M w base ok e cs) : cs = [.int .i64 e.1, .int .i64 e.2] := by
  obtain ⟨_, _, rfl, rfl, rfl⟩ := h
  rfl
theorem kEdge_mkM (w : World) (base : Nat) (ok : Nat → Prop) (e : Int × Int) : kEdge.M w base ok e [.int .i64 e.1, .int .i64 e.2] := ⟨[.int .i64 e.1], [.int .i64 e.2], rfl, rfl, rfl⟩
theorem kEdge_openK {w : World} {e : Int × Int} {cs : List Value} (h : kEdge.K w e cs) : cs = [.int .i64 e.1, .int .i64 e.2] := by
  obtain ⟨_, _, rfl, rfl, rfl⟩ := h
  rfl

/-- The cells of the edge number i. -/
theorem edge_cells {w : World} {A : Option Addr} {n : Nat} {es : Edges} (h : Kd.C kEdge w A n es) {i : Nat} (hi : i < es.length) : ∃ ad, A = some ad ∧ w.cell? (ad.add (i * 2)) = some (.int .i64 es[i].1) ∧ w.cell? ⟨(ad.add (i * 2)).block, (ad.add (i * 2)).off + 1, none⟩ = some (.int .i64 es[i].2) := by
  obtain ⟨h1, _, h2⟩ := h
  obtain ⟨ad, e1, h3⟩ := h2 (by omega)
  obtain ⟨c, hc, hK, hu⟩ := h3 i es[i] (List.getElem?_eq_getElem hi)
  obtain rfl := kEdge_openK hK
  exact ⟨ad, e1, hu 0 _ rfl, by rw [← add_field _ _ 1 (by omega)]; exact hu 1 _ rfl⟩

/-- For whom n waits, in the row in which it stands. -/
def outs (es : Edges) (n : Int) : List Int := (es.filter fun e => e.1 == n).map (·.2)
theorem mem_outs {es : Edges} {n k : Int} : k ∈ outs es n ↔ (n, k) ∈ es := by
  unfold outs
  rw [List.mem_map]
  constructor
  · rintro ⟨⟨a, b⟩, h, rfl⟩
    obtain ⟨h1, h2⟩ := List.mem_filter.1 h
    simp at h2
    subst h2
    exact h1
  · intro h
    exact ⟨(n, k), List.mem_filter.2 ⟨h, by simp⟩, rfl⟩
theorem outs_len (es : Edges) (n : Int) : (outs es n).length ≤ es.length := by
  unfold outs
  rw [List.length_map]
  exact List.length_filter_le _ _
theorem outs_hit (es : Edges) (a b : Int) : outs (es ++ [(a, b)]) a = outs es a ++ [b] := by simp [outs, List.filter_append]
theorem outs_miss (es : Edges) {a b n : Int} (h : n ≠ a) : outs (es ++ [(a, b)]) n = outs es n := by
  have : (a == n) = false := beq_eq_false_iff_ne.2 (Ne.symm h)
  simp [outs, List.filter_append, this]

/-- The map at b has the waits of es, by who waits, in blocks from base on. -/
structure Next (w : World) (b : Nat) (mg : Int → Option Value) (base : Nat) (es : Edges) : Prop where
  map : MapOf (Value.int .i64) id okI w b mg
  rowv : ∀ n v, mg n = some v → Kd.R kInt 3 w 0 (fun k => base ≤ k) v (outs es n) ∧ outs es n ≠ []
  rown : ∀ n, mg n = none → outs es n = []
  apart : ∀ n m u v k, mg n = some u → mg m = some v → u.ownBlock = some k → v.ownBlock = some k → n = m

section
variable {w w1 W W1 w5 : World} {b base : Nat} {mg : Int → Option Value} {es : Edges} {a c n : Int} {v0 v1 : Value} {l : List Int} {cells : List (Addr × Value)}
theorem Next.below (H : Next w b mg base es) (hB : Below w.heap.size w w1) : Next w1 b mg base es :=
  ⟨H.map.move (hB.block b H.map.lt), fun n v h => ⟨Kd.R_below (H.rowv n v h).1 hB, (H.rowv n v h).2⟩, H.rown, H.apart⟩
theorem Next.row (H : Next w b mg base es) (n : Int) : Kd.R kInt 3 w 0 (fun k => base ≤ k) ((mg n).getD (.slice none 0 0)) (outs es n) := by
  cases h : mg n with
  | none => rw [H.rown n h]; exact Kd.R_nil _ _ _ _ _
  | some v => exact (H.rowv n v h).1
theorem Next.look (H : Next w b mg base es) {n : Int} (hn : okI n) : (Instr.lookup 38 (.map (some b)) (.int .i64 n) false).run Try.prog w = .ok ((mg n).getD (.slice none 0 0)) w := by
  have := H.map.look keyInt Try.underlying38 (Try.zeroRow w) false hn
  rw [this]
  cases mg n <;> rfl

structure NextB (w5 : World) (b : Nat) (mg : Int → Option Value) (v0 : Value) (l : List Int) (cells : List (Addr × Value)) (W : World) : Prop where
  map : MapOf (Value.int .i64) id okI W b mg
  row : Kd.R kInt 3 W 0 (fun k => some k = v0.ownBlock) v0 l
  cell : ∀ x ∈ cells, W.cell? x.1 = some x.2
  chg : Chg w5 W (fun _ => False)
structure NextC (w5 : World) (b : Nat) (mg : Int → Option Value) (v0 v1 : Value) (l : List Int) (cells : List (Addr × Value)) (W : World) : Prop where
  map : MapOf (Value.int .i64) id okI W b mg
  row : Kd.R kInt 3 W 0 (fun k => some k = v0.ownBlock ∨ w5.heap.size ≤ k) v1 l
  cell : ∀ x ∈ cells, W.cell? x.1 = some x.2
  chg : Chg w5 W (fun k => some k = v0.ownBlock)
theorem cells_allocW (h : ∀ x ∈ cells, W.cell? x.1 = some x.2) (o : Obj) : ∀ x ∈ cells, (W.alloc o).cell? x.1 = some x.2 := fun x hx => by
  rw [World.cell?_of_block (w := W) (Below.heap_alloc W o _ (World.block_lt_of_cell? W _ (h x hx)))]
  exact h x hx
theorem NextB.drew (h : NextB w5 b mg v0 l cells W) : NextB w5 b mg v0 l cells W.drew := ⟨h.map.drew, Kd.R_drew h.row, h.cell, h.chg.drew⟩
theorem NextB.alloc1 (h : NextB w5 b mg v0 l cells W) (v : Value) (t : TypeId) : NextB w5 b mg v0 l ((⟨W.heap.size, 0, none⟩, v) :: cells) (W.alloc (.cells #[v] t)) :=
  ⟨h.map.alloc _, Kd.R_alloc h.row _, fun x hx => by
    rcases List.mem_cons.1 hx with rfl | hx
    · exact blk_cell (blk_new W _) 0
    · exact cells_allocW h.cell _ x hx, h.chg.alloc _⟩

section
variable {ops : Array Oper} {o : Oper} {ac : Act} {Q : Exit → Act → World → Prop} {K : Act → World → Prop} {E : Prop}
theorem step_nextB (hgd : o.guard = none) (s x : Operand) (ho : o.op = .call { callee := .builtin .append, args := #[s, x], argTypes := #[26, 26] }) (hs : ac.eval s = v0) {nb : Nat} {n : Int} (hx : ac.eval x = .slice (some ⟨nb, 0, none⟩) 1 1)
    (hn : W.cell? ⟨nb, 0, none⟩ = some (.int .i64 n)) (h : NextB w5 b mg v0 l cells W) (hl : l.length < 17592186044000) (hcell : ∀ x ∈ cells, some x.1.block ≠ v0.ownBlock)
    (hk : ∀ v1 W1, NextC w5 b mg v0 v1 (l ++ [n]) cells W1 → (v1.ownBlock = v0.ownBlock ∨ ∃ b, v1.ownBlock = some b ∧ w5.heap.size ≤ b) → K (ac.put o.dst v1) W1) :
    if Region.wanted o (yielded ops ac.tmps) = true then Oper.wp Try.prog o ac W K Q else E := by
  have hread : Kd.C kInt W (some ⟨nb, 0, none⟩) 1 [n] := ⟨rfl, by omega, fun _ => ⟨_, rfl, fun j q hj => by
    match j, hj with
    | 0, hj =>
      simp at hj
      subst hj
      exact ⟨[.int .i64 n], rfl, rfl, fun i u hu => by
        match i, hu with
        | 0, hu => simp at hu; subst hu; simpa [Addr.add] using hn⟩⟩⟩
  have hsz := h.chg.size
  have step := Kd.R_append_rows_step (P := Try.prog) (ops := ops) (o := o) (a := ac) (Q := Q) (Kc := K) kInt (w0 := W) (W := W) 0 (by simp [Region.wanted, hgd]) s x 26 3 (.int .i64 0) 8 ho Try.underlying26 Try.infoInt rfl (by decide) (by omega) v0 l [n] (some ⟨nb, 0, none⟩) 1 1
    (fun k => some k = v0.ownBlock ∨ w5.heap.size ≤ k) (fun _ => False) hs hx (Kd.R_mono h.row (fun k hk => .inl hk)) hread (fun x cs hx => hx) (fun _ h => h.elim) (fun k hk => .inr (Nat.le_trans hsz hk)) (Below.refl 0 W) (Nat.zero_le _) (by omega)
    (fun v1 W1 h1 _ h3 h4 => by
      have hc : Chg W W1 (fun k => some k = v0.ownBlock) := Chg.of_grown h3
      have hrb : some b ≠ v0.ownBlock := fun e => by
        obtain ⟨es, cl, hb⟩ := h.map.isMap
        obtain ⟨cs, hc⟩ := (R_block h.row e.symm).2
        rw [hb] at hc
        cases hc
      refine hk v1 W1 ⟨h.map.chg hc hrb, h1, fun x hx => hc.cell_some (h.cell x hx) (hcell x hx), h.chg.trans hc (fun _ _ h => h.elim) (fun _ _ h => h)⟩ ?_
      rcases h4 with h4 | ⟨b, h4, h5⟩
      · exact .inl h4
      · exact .inr ⟨b, h4, Nat.le_trans hsz h5⟩)
  rw [if_pos (by simp [Region.wanted, hgd])] at step
  rw [if_pos (by simp [Region.wanted, hgd])]
  exact step
end
/-- One wait more. -/
theorem Next.more (H : Next w b mg base es) (hbase : base ≤ w5.heap.size) (hw : Below w.heap.size w w5) (hv0 : v0 = (mg a).getD (.slice none 0 0)) (h : NextC w5 b mg v0 v1 (outs es a ++ [c]) cells W)
    (hat : v1.ownBlock = v0.ownBlock ∨ ∃ k, v1.ownBlock = some k ∧ w5.heap.size ≤ k) (hm : MapOf (Value.int .i64) id okI W1 b (upd mg a (some v1))) (hc : Chg W W1 (fun k => k = b)) : Next W1 b (upd mg a (some v1)) base (es ++ [(a, c)]) := by
  have hown : ∀ k, v0.ownBlock = some k → ∃ u, mg a = some u ∧ u.ownBlock = some k := fun k hk => by
    cases hg : mg a with
    | none => rw [hv0, hg] at hk; simp [Value.ownBlock] at hk
    | some u => rw [hv0, hg] at hk; exact ⟨u, rfl, hk⟩
  have hR1 := R_map h.row h.map hc
  refine ⟨hm, fun n v hn => ?_, fun n hn => ?_, fun n m u v k hn hm' hu hv => ?_⟩
  · by_cases hna : n = a
    · subst hna
      rw [upd_same] at hn
      cases hn
      rw [outs_hit]
      refine ⟨Kd.R_mono hR1 (fun k hk => ?_), by simp⟩
      rcases hk with hk | hk
      · obtain ⟨u, hu, hub⟩ := hown k hk.symm
        exact (R_block (H.rowv _ u hu).1 hub).1
      · omega
    · rw [upd_other _ _ hna] at hn
      rw [outs_miss es hna]
      obtain ⟨h1, h2⟩ := H.rowv n v hn
      refine ⟨?_, h2⟩
      have h3 := Kd.R_below (Kd.R_tight rfl h1) hw
      have h4 := R_chg h3 h.chg (fun k q cells hk _ _ hs => by
        obtain ⟨u, hu, hub⟩ := hown k hs.symm
        exact hna (H.apart n a v u k hn hu hk.symm hub))
      exact Kd.R_mono (R_map h4 h.map hc) (fun k hk => (R_block h1 hk.symm).1)
  · by_cases hna : n = a
    · subst hna
      rw [upd_same] at hn
      cases hn
    · rw [upd_other _ _ hna] at hn
      rw [outs_miss es hna]
      exact H.rown n hn
  · have key : ∀ n v k, upd mg a (some v1) n = some v → v.ownBlock = some k → n = a ∨ (mg n = some v ∧ n ≠ a) := fun n v k hn hv => by
      by_cases hna : n = a
      · exact .inl hna
      · rw [upd_other _ _ hna] at hn
        exact .inr ⟨hn, hna⟩
    have clash : ∀ n v k, mg n = some v → n ≠ a → v.ownBlock = some k → v1.ownBlock = some k → False := fun n v k hn hna hv h1 => by
      obtain ⟨cs, hcs⟩ := (R_block (H.rowv n v hn).1 hv).2
      rcases hat with he | ⟨k', hk', hle⟩
      · rw [h1] at he
        obtain ⟨u, hu, hub⟩ := hown k he.symm
        exact hna (H.apart n a v u k hn hu hv hub)
      · rw [h1] at hk'
        injection hk' with hk'
        have h2 := blk_lt hcs
        have h3 := hw.size
        omega
    rcases key n u k hn hu with rfl | ⟨h1, h1'⟩
    · rw [upd_same] at hn
      cases hn
      rcases key m v k hm' hv with rfl | ⟨h2, h2'⟩
      · rfl
      · exact (clash m v k h2 h2' hv hu).elim
    · rcases key m v k hm' hv with rfl | ⟨h2, h2'⟩
      · rw [upd_same] at hm'
        cases hm'
        exact (clash n u k h1 h1' hu hv).elim
      · exact H.apart n m u v k h1 h2 hu hv
end
end Go.Proofs.Yteejeakbagbcoaa

import Derived.Test.YtljahhgankcalaaHq
import Derived.Deep.RegionHeld3
/-! Put's statement 'h.rows[w] = append(h.rows[w], n)': one region that draws its order. What holds ahead of its operations (RowA), behind the entry that is taken (RowB), behind the append (RowC), and behind it all (RowD). -/
namespace Go.Proofs.Ytljahhgankcalaa
open Go.RowKit Go.Maps Go.MapKept Go.WideMaps
open Go.Proofs.YtljahhgankcalaaW.PrintWords Go.Proofs.YtljahhgankcalaaW.PrintLast Go.Proofs.YtljahhgankcalaaW.PrintMore
open PHeapThere
set_option linter.unusedVariables false
set_option linter.unusedSimpArgs false

theorem Try.zeroRow (u : World) : (zeroValue 53).run Try.prog u = .ok (id (Value.slice none 0 0)) u := by kernel_rfl
theorem Try.infoInt : (Try.prog.info? 3).map (fun i => (i.zero, i.size, i.bytes)) = some (some (.int .i64 0), 1, 8) := by kernel_rfl
abbrev kInt : Kd Int := Kd.int .i64

structure RowA (w5 : World) (rb : Nat) (rg : Int × Int → Option Value) (p : Int × Int) (v0 : Value) (l : List Int) (cells : List (Addr × Value)) (W : World) : Prop where
  map : MapOf kvW id okW W rb rg
  row : Kd.R kInt 3 W 0 (fun k => some k = v0.ownBlock) v0 l
  cell : ∀ x ∈ cells, W.cell? x.1 = some x.2
  chg : Chg w5 W (fun _ => False)
structure RowB (w5 : World) (rb : Nat) (rg : Int × Int → Option Value) (p : Int × Int) (v0 : Value) (l : List Int) (cells : List (Addr × Value)) (st : Int) (W : World) : Prop where
  map : MapOf kvW id okW W rb (upd rg p (some v0))
  row : Kd.R kInt 3 W 0 (fun k => some k = v0.ownBlock) v0 l
  cell : ∀ x ∈ cells, W.cell? x.1 = some x.2
  chg : Chg w5 W (fun k => k = rb)
  sto : Storable Try.prog 103 kvW id okW rb rg p st W
structure RowC (w5 : World) (rb : Nat) (rg : Int × Int → Option Value) (p : Int × Int) (v0 v1 : Value) (l : List Int) (cells : List (Addr × Value)) (st : Int) (W : World) : Prop where
  row : Kd.R kInt 3 W 0 (fun k => some k = v0.ownBlock ∨ w5.heap.size ≤ k) v1 l
  cell : ∀ x ∈ cells, W.cell? x.1 = some x.2
  chg : Chg w5 W (fun k => k = rb ∨ some k = v0.ownBlock)
  ismap : ∃ es cl, W.heap[rb]? = some (.map es cl)
  sto : Storable Try.prog 103 kvW id okW rb rg p st W

section
variable {w5 W W1 : World} {rb : Nat} {rg : Int × Int → Option Value} {p : Int × Int} {v0 v1 : Value} {l : List Int} {cells : List (Addr × Value)} {st : Int}
theorem Storable.move {P : Program} {t : TypeId} {α β : Type} [DecidableEq α] {kv : α → Value} {ev : β → Value} {ok : α → Prop} {b : Nat} {g : α → Option β} {x : α} {st : Int} (h : Storable P t kv ev ok b g x st W) (hb : W1.heap[b]? = W.heap[b]?) : Storable P t kv ev ok b g x st W1 :=
  fun w2 v h2 => h w2 v (h2.trans hb)
theorem cells_alloc (h : ∀ x ∈ cells, W.cell? x.1 = some x.2) (o : Obj) : ∀ x ∈ cells, (W.alloc o).cell? x.1 = some x.2 := fun x hx => by
  rw [World.cell?_of_block (w := W) (Below.heap_alloc W o _ (World.block_lt_of_cell? W _ (h x hx)))]
  exact h x hx
theorem RowA.drew (h : RowA w5 rb rg p v0 l cells W) : RowA w5 rb rg p v0 l cells W.drew := ⟨h.map.drew, Kd.R_drew h.row, h.cell, h.chg.drew⟩
theorem RowA.alloc (h : RowA w5 rb rg p v0 l cells W) (o : Obj) : RowA w5 rb rg p v0 l cells (W.alloc o) := ⟨h.map.alloc o, Kd.R_alloc h.row o, cells_alloc h.cell o, h.chg.alloc o⟩
theorem cells_alloc1 (h : ∀ x ∈ cells, W.cell? x.1 = some x.2) (v : Value) (t : TypeId) : ∀ x ∈ (⟨W.heap.size, 0, none⟩, v) :: cells, (W.alloc (.cells #[v] t)).cell? x.1 = some x.2 := fun x hx => by
  rcases List.mem_cons.1 hx with rfl | hx
  · exact blk_cell (blk_new W _) 0
  · exact cells_alloc h _ x hx
theorem RowA.alloc1 (h : RowA w5 rb rg p v0 l cells W) (v : Value) (t : TypeId) : RowA w5 rb rg p v0 l ((⟨W.heap.size, 0, none⟩, v) :: cells) (W.alloc (.cells #[v] t)) := ⟨h.map.alloc _, Kd.R_alloc h.row _, cells_alloc1 h.cell v t, h.chg.alloc _⟩
theorem RowB.alloc1 (h : RowB w5 rb rg p v0 l cells st W) (v : Value) (t : TypeId) : RowB w5 rb rg p v0 l ((⟨W.heap.size, 0, none⟩, v) :: cells) st (W.alloc (.cells #[v] t)) :=
  ⟨h.map.alloc _, Kd.R_alloc h.row _, cells_alloc1 h.cell v t, h.chg.alloc _, h.sto.move (Below.heap_alloc W _ rb h.map.lt)⟩
theorem RowB.alloc (h : RowB w5 rb rg p v0 l cells st W) (o : Obj) : RowB w5 rb rg p v0 l cells st (W.alloc o) :=
  ⟨h.map.alloc o, Kd.R_alloc h.row o, cells_alloc h.cell o, h.chg.alloc o, h.sto.move (Below.heap_alloc W o rb h.map.lt)⟩

theorem RowA.entry (h : RowA w5 rb rg p ((rg p).getD (.slice none 0 0)) l cells W) (hp : okW p) : ∃ st W1, (Instr.mapEntry 103 (.map (some rb)) (.agg #[.int .i64 p.1, .int .i64 p.2])).run Try.prog W = .ok (.tuple #[(rg p).getD (.slice none 0 0), .int .i64 st]) W1 ∧
    RowB w5 rb rg p ((rg p).getD (.slice none 0 0)) l cells st W1 ∧ W1.heap.size = W.heap.size := by
  obtain ⟨st, W1, hrun, h1, h2, h3, h4⟩ := h.map.entry keyWhere Try.underlying103 Try.zeroRow hp
  exact ⟨st, W1, hrun, ⟨h1, R_map h.row h.map h2, fun x hx => h2.cell_some (h.cell x hx) (h.map.no_cell (h.cell x hx)), h.chg.trans h2 (fun _ _ h => h.elim) (fun _ _ h => h), h4⟩, h3⟩
/-- What is left when the entry is stored. -/
structure RowD (w5 : World) (rb : Nat) (rg : Int × Int → Option Value) (p : Int × Int) (v0 v1 : Value) (l : List Int) (cells : List (Addr × Value)) (W : World) : Prop where
  map : MapOf kvW id okW W rb (upd rg p (some v1))
  row : Kd.R kInt 3 W 0 (fun k => some k = v0.ownBlock ∨ w5.heap.size ≤ k) v1 l
  cell : ∀ x ∈ cells, W.cell? x.1 = some x.2
  chg : Chg w5 W (fun k => k = rb ∨ some k = v0.ownBlock)
theorem RowC.store (h : RowC w5 rb rg p v0 v1 l cells st W) : ∃ W1, (Instr.entryStore 103 (.map (some rb)) (.int .i64 st) v1).run Try.prog W = .ok () W1 ∧ RowD w5 rb rg p v0 v1 l cells W1 := by
  obtain ⟨W1, hrun, h1, h2, h3⟩ := h.sto W v1 rfl
  obtain ⟨es, cl, hb⟩ := h.ismap
  refine ⟨W1, hrun, h1, R_chg h.row h2 (fun k q cs _ _ hk e => ?_), fun x hx => h2.cell_some (h.cell x hx) (fun e => ?_), h.chg.trans h2 (fun _ _ h => h) (fun _ _ h => .inl h)⟩
  · have e : k = rb := e
    rw [e, hb] at hk
    cases hk
  · have hc := h.cell x hx
    have e : x.1.block = rb := e
    simp [World.cell?, e, hb] at hc

section
variable {ops : Array Oper} {o : Oper} {a : Act} {Q : Exit → Act → World → Prop} {K : Act → World → Prop} {E : Prop}
theorem step_rowB (hgd : o.guard = none) (s x : Operand) (ho : o.op = .call { callee := .builtin .append, args := #[s, x], argTypes := #[53, 53] }) (hs : a.eval s = v0) {nb : Nat} {n : Int} (hx : a.eval x = .slice (some ⟨nb, 0, none⟩) 1 1)
    (hn : W.cell? ⟨nb, 0, none⟩ = some (.int .i64 n)) (h : RowB w5 rb rg p v0 l cells st W) (hl : l.length < 17592186044000) (hcell : ∀ x ∈ cells, some x.1.block ≠ v0.ownBlock)
    (hk : ∀ v1 W1, RowC w5 rb rg p v0 v1 (l ++ [n]) cells st W1 → (v1.ownBlock = v0.ownBlock ∨ ∃ b, v1.ownBlock = some b ∧ w5.heap.size ≤ b) → K (a.put o.dst v1) W1) :
    if Region.wanted o (yielded ops a.tmps) = true then Oper.wp Try.prog o a W K Q else E := by
  have hread : Kd.C kInt W (some ⟨nb, 0, none⟩) 1 [n] := ⟨rfl, by omega, fun _ => ⟨_, rfl, fun j q hj => by
    match j, hj with
    | 0, hj =>
      simp at hj
      subst hj
      exact ⟨[.int .i64 n], rfl, rfl, fun i u hu => by
        match i, hu with
        | 0, hu => simp at hu; subst hu; simpa [Addr.add] using hn⟩⟩⟩
  have hsz := h.chg.size
  have step := Kd.R_append_rows_step (P := Try.prog) (ops := ops) (o := o) (a := a) (Q := Q) (Kc := K) kInt (w0 := W) (W := W) 0 (by simp [Region.wanted, hgd]) s x 53 3 (.int .i64 0) 8 ho Try.underlying53 Try.infoInt rfl (by decide) (by omega) v0 l [n] (some ⟨nb, 0, none⟩) 1 1
    (fun k => some k = v0.ownBlock ∨ w5.heap.size ≤ k) (fun _ => False) hs hx (Kd.R_mono h.row (fun k hk => .inl hk)) hread (fun x cs hx => hx) (fun _ h => h.elim) (fun k hk => .inr (Nat.le_trans hsz hk)) (Below.refl 0 W) (Nat.zero_le _) (by omega)
    (fun v1 W1 h1 _ h3 h4 => by
      have hc : Chg W W1 (fun k => some k = v0.ownBlock) := Chg.of_grown h3
      have hrb : some rb ≠ v0.ownBlock := fun e => by
        obtain ⟨es, cl, hb⟩ := h.map.isMap
        obtain ⟨cs, hc⟩ := (R_block h.row e.symm).2
        rw [hb] at hc
        cases hc
      refine hk v1 W1 ⟨h1, fun x hx => hc.cell_some (h.cell x hx) (hcell x hx), h.chg.trans hc (fun _ _ h => .inl h) (fun _ _ h => .inr h), ?_, h.sto.move (hc.block rb h.map.lt hrb)⟩ ?_
      · obtain ⟨es, cl, hb⟩ := h.map.isMap
        exact ⟨es, cl, (hc.block rb h.map.lt hrb).trans hb⟩
      · rcases h4 with h4 | ⟨b, h4, h5⟩
        · exact .inl h4
        · exact .inr ⟨b, h4, Nat.le_trans hsz h5⟩)
  rw [if_pos (by simp [Region.wanted, hgd])] at step
  rw [if_pos (by simp [Region.wanted, hgd])]
  exact step
end
end
end Go.Proofs.Ytljahhgankcalaa

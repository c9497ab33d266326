import Derived.Test.YtljahhgankcalaaG2
import Derived.Test.YtljahhgankcalaaMs
import Derived.Deep.RegionHeld3
/-! What single stores do to the heap as a value. -/
namespace Go.Proofs.Ytljahhgankcalaa
open Go.RowKit Go.Maps Go.MapKept Go.WideMaps
open Go.Proofs.YtljahhgankcalaaW.PrintWords Go.Proofs.YtljahhgankcalaaW.PrintLast Go.Proofs.YtljahhgankcalaaW.PrintMore
open PHeapThere
set_option linter.unusedVariables false
set_option linter.unusedSimpArgs false

theorem chg_setCells (w : World) (g o : Nat) (l : List Value) : Chg w (w.setCells g o l) (fun k => k = g) := by
  obtain ⟨h1, h2, h3, h4⟩ := setCells_same g l o w
  exact ⟨h1, h2, h3, by rw [h4]; exact Nat.le_refl _, fun k _ hn => setCells_far l o k hn⟩

/-- An element of a row is stored whole. -/
theorem R_setCells {α : Type} {d : Kd α} {e g base cap : Nat} {w : World} {ok : Nat → Prop} {v : Value} {xs : List α} (h : d.R e w base ok v xs) {i : Nat} (hi : i < xs.length) (hv : v = .slice (some ⟨g, 0, none⟩) xs.length cap)
    {cur : Array Value} (hg : w.heap[g]? = some (.cells cur e (0, 0))) (hsz : cur.size = cap * d.sz) (hcap : xs.length ≤ cap) {x : α} {c : List Value} (hx : d.M (w.setCells g (i * d.sz) c) base (fun k => ok k ∧ k ≠ g) x c) :
    d.R e (w.setCells g (i * d.sz) c) base ok v (xs.set i x) := by
  have hcl := d.K_len (d.K_of_M hx)
  have hle : i * d.sz + d.sz ≤ cap * d.sz := by rw [← Nat.succ_mul]; exact Nat.mul_le_mul_right _ (Nat.lt_of_lt_of_le hi hcap)
  obtain ⟨cur', h1, h2, h3⟩ := setCells_row c (i * d.sz) w cur hg (by omega)
  have hlen : cur.toList.length = cap * d.sz := by rw [← hsz]; simp
  refine R_upd h hi hv hg (chg_setCells w g _ c) (fun k _ hk => hk) h1 h2 (fun k hk => ?_) hx (fun j hj => ?_)
  · rw [← Array.getElem?_toList, ← Array.getElem?_toList, h3]
    rcases hk with hk | hk
    · rw [List.append_assoc, List.getElem?_append_left (by rw [List.length_take]; omega), List.getElem?_take, if_pos hk]
    · rw [List.getElem?_append_right (by rw [List.length_append, List.length_take]; omega), List.getElem?_drop]
      congr 1
      rw [List.length_append, List.length_take]
      omega
  · rw [← Array.getElem?_toList, h3, List.append_assoc, List.getElem?_append_right (by rw [List.length_take]; omega), List.getElem?_append_left (by rw [List.length_take]; omega)]
    congr 1
    rw [List.length_take]
    omega

section
variable {w w1 w2 : World} {h : Nat} {A : AH} {F : Nat → Prop} {sv : Value} {rb gb : Nat} {rg : Int × Int → Option Value} {gg : Int → Option Int}

/-- A tuple is stored into a slot; its row is new. -/
theorem HeapAt.setSlot (H : HeapAt w1 h A F sv rb gb rg gg) (hb : Below w1.heap.size w1 w2) {i g cap : Nat} {cur : Array Value} (hi : i < A.slots.length) (hsv : sv = .slice (some ⟨g, 0, none⟩) A.slots.length cap) (hcap : A.slots.length ≤ cap)
    (hg : w1.heap[g]? = some (.cells cur 39 (0, 0))) (hsz : cur.size = cap * 7) {v6 : Value} {T : ATup} (ho : Kd.R kVal 91 w2 w1.heap.size (fun _ => True) v6 T.f6) :
    HeapAt (w2.setCells g (i * 7) [.int .i64 T.f0, .int .i64 T.f1, .int .i64 T.f2, .int .i64 T.f3, .int .i64 T.f4, .int .i64 T.f5, v6]) h { A with slots := A.slots.set i T } (ext F w1 w2) sv rb gb rg gg := by
  have hbl := hb.block
  have H2 : HeapAt w2 h A (ext F w1 w2) sv rb gb rg gg := (H.chg (Chg.of_below hb (fun _ => False)) (fun _ _ h => h)).mono (fun k hk => .inl hk) (fun k hk => by
    rcases hk with hk | hk
    · exact Nat.lt_of_lt_of_le (H.bound k hk) hb.size
    · exact hk.2)
  have hg2 : w2.heap[g]? = some (.cells cur 39 (0, 0)) := (hbl g (blk_lt hg)).trans hg
  have hch := chg_setCells w2 g (i * 7) [.int .i64 T.f0, .int .i64 T.f1, .int .i64 T.f2, .int .i64 T.f3, .int .i64 T.f4, .int .i64 T.f5, v6]
  refine H2.slotwise hg2 hch ?_
  refine R_setCells (d := kTup) H2.slots hi hsv hg2 hsz hcap (k32_mkM _ 0 _ T ?_)
  refine Kd.R_lower (Kd.R_mono (Kd.R_bound (R_chg (Kd.R_bound ho) hch (fun k q cells hk _ _ e => ?_))) (fun k hk => ?_)) (Nat.zero_le _)
  · have h1 := hk.2.1
    have h2 : k = g := e
    have := blk_lt hg
    omega
  · have h1 := hk.1.2
    have := blk_lt hg
    exact ⟨.inr ⟨h1.1, h1.2.1⟩, by have := h1.1; omega⟩

/-- The field 'many' is stored. -/
theorem HeapAt.setMany (H : HeapAt w h A F sv rb gb rg gg) (m : Int) : HeapAt (w.setCell ⟨h, 3, none⟩ (.int .i64 m)) h { A with many := m } F sv rb gb rg gg := by
  have hch : Chg w (w.setCell ⟨h, 3, none⟩ (.int .i64 m)) (fun k => k = h) := (Chg.refl w (fun k => k = h)).setCell (p := ⟨h, 3, none⟩) (.inl rfl) _
  have hmap : ∀ {α β : Type} {kv : α → Value} {ev : β → Value} {okk : α → Prop} {b : Nat} {f : α → Option β}, MapOf kv ev okk w b f → MapOf kv ev okk (w.setCell ⟨h, 3, none⟩ (.int .i64 m)) b f := fun hm => hm.chg hch (fun e => by
    obtain ⟨es, cl, hb⟩ := hm.isMap
    have hh := H.blk
    rw [← e, hb] at hh
    cases hh)
  exact {
    blk := blk_put H.blk 3 _ rfl
    slots := R_typ H.slots H.blk (by decide) hch
    rmap := hmap H.rmap
    gmap := hmap H.gmap
    rowv := fun p v hp => ⟨R_typ (H.rowv p v hp).1 H.blk (by intro q hq; simp [Kd.int, Kd.scalar] at hq; subst hq; decide) hch, (H.rowv p v hp).2⟩
    rown := H.rown
    apart := H.apart
    givn := H.givn
    hF := H.hF
    rF := H.rF
    gF := H.gF
    ne := H.ne
    bound := fun k hk => Nat.lt_of_lt_of_le (H.bound k hk) hch.size }

/-- The greatest ID of a table is stored. -/
theorem HeapAt.setGiven (H : HeapAt w h A F sv rb gb rg gg) {no x : Int} (hm : MapOf (Value.int .i64) (Value.int .i64) okI w1 gb (upd gg no (some x))) (hch : Chg w w1 (fun k => k = gb)) :
    HeapAt w1 h { A with given := fun y => if y = no then x else A.given y } F sv rb gb rg (upd gg no (some x)) where
  blk := hch.obj H.blk (fun e => by
    obtain ⟨es, cl, hb⟩ := H.gmap.isMap
    have hh := H.blk
    rw [e, hb] at hh
    cases hh)
  slots := R_map H.slots H.gmap hch
  rmap := H.rmap.chg hch H.ne
  gmap := hm
  rowv := fun p v hp => ⟨R_map (H.rowv p v hp).1 H.gmap hch, (H.rowv p v hp).2⟩
  rown := H.rown
  apart := H.apart
  givn := fun y => by
    by_cases hy : y = no
    · subst hy; rw [upd_same]; simp
    · rw [upd_other _ _ hy]; simp [hy, H.givn y]
  hF := H.hF
  rF := H.rF
  gF := H.gF
  ne := H.ne
  bound := fun k hk => Nat.lt_of_lt_of_le (H.bound k hk) hch.size

/-- A row's slots are stored: in the row's own block, or in one that is new; none other's. -/
theorem HeapAt.setRow (H : HeapAt w h A F sv rb gb rg gg) {p : Int × Int} {l : List Int} (hl : l ≠ []) {v : Value} {S : Nat → Prop} (hch : Chg w w1 S) (hS : ∀ k, S k → k < w.heap.size → k = rb ∨ ∃ u, rg p = some u ∧ u.ownBlock = some k)
    (hm : MapOf kvW id okW w1 rb (upd rg p (some v))) (hR : Kd.R (Kd.int .i64) 3 w1 0 (fun _ => True) v l) (hat : ∀ b, v.ownBlock = some b → w.heap.size ≤ b ∨ ∃ u, rg p = some u ∧ u.ownBlock = some b) :
    HeapAt w1 h { A with rows := fun q => if q = p then l else A.rows q } (ext F w w1) sv rb gb (upd rg p (some v)) gg := by
  have hint : ∀ k u, rg p = some u → u.ownBlock = some k → ∃ cells, w.heap[k]? = some (.cells cells 3 (0, 0)) := fun k u hu hk => (R_block (H.rowv p u hu).1 hk).2
  have hcase : ∀ k, S k → k < w.heap.size → k = rb ∨ ∃ cells, w.heap[k]? = some (.cells cells 3 (0, 0)) := fun k hk hlt => by
    rcases hS k hk hlt with h1 | ⟨u, hu, hb⟩
    · exact .inl h1
    · exact .inr (hint k u hu hb)
  have hrb : ∃ es cl, w.heap[rb]? = some (.map es cl) := H.rmap.isMap
  have hbl := blk_lt H.blk
  refine {
    blk := hch.obj H.blk (fun hs => ?_)
    slots := Kd.R_mono (R_chg H.slots hch (fun k q cells _ hq hk hs => ?_)) (fun k hk => .inl hk)
    rmap := hm
    gmap := H.gmap.chg hch (fun hs => ?_)
    rowv := fun q u hq => ?_
    rown := fun q hq => ?_
    apart := fun a b u1 u2 k h1 h2 e1 e2 => ?_
    givn := H.givn
    hF := .inl H.hF
    rF := .inl H.rF
    gF := .inl H.gF
    ne := H.ne
    bound := fun k hk => ?_ }
  · rcases hcase h hs hbl with e | ⟨cells, hc⟩
    · obtain ⟨es, cl, hb⟩ := hrb
      have hh := H.blk
      rw [e, hb] at hh
      cases hh
    · have hh := H.blk
      rw [hc] at hh
      simp at hh
  · rcases hcase k hs (blk_lt hk) with e | ⟨cells', hc⟩
    · obtain ⟨es, cl, hb⟩ := hrb
      rw [e, hb] at hk
      cases hk
    · rw [hc] at hk
      injection hk with hk
      injection hk with _ hk
      subst hk
      revert hq
      decide
  · rcases hcase gb hs (H.gmap.lt) with e | ⟨cells', hc⟩
    · exact H.ne e.symm
    · obtain ⟨es, cl, hb⟩ := H.gmap.isMap
      rw [hc] at hb
      cases hb
  · by_cases hqp : q = p
    · subst hqp
      rw [upd_same] at hq
      cases hq
      simp only [if_true]
      refine ⟨Kd.R_mono (Kd.R_bound (Kd.R_tight rfl hR)) (fun k hk => ?_), hl⟩
      rcases hat k hk.1.symm with h1 | ⟨u, hu, hb⟩
      · exact .inr ⟨h1, hk.2.2.1⟩
      · exact .inl (R_block (H.rowv q u hu).1 hb).1
    · rw [upd_other _ _ hqp] at hq
      simp only [if_neg hqp]
      obtain ⟨h1, h2⟩ := H.rowv q u hq
      refine ⟨Kd.R_mono (R_chg (Kd.R_tight rfl h1) hch (fun k t cells hk _ hc hs => ?_)) (fun k hk => .inl (h1.1 k hk.symm)), h2⟩
      rcases hS k hs (blk_lt hc) with e | ⟨u', hu', hb⟩
      · obtain ⟨es, cl, hb⟩ := hrb
        rw [e, hb] at hc
        cases hc
      · exact hqp (H.apart q p u u' k hq hu' hk.symm hb)
  · by_cases hqp : q = p
    · subst hqp; rw [upd_same] at hq; cases hq
    · rw [upd_other _ _ hqp] at hq
      simp only [if_neg hqp]
      exact H.rown q hq
  · have key : ∀ q u, q ≠ p → rg q = some u → u.ownBlock = some k → v.ownBlock = some k → False := fun q u hq hu hb hv => by
      rcases hat k hv with h1 | ⟨u', hu', hb'⟩
      · obtain ⟨cells, hc⟩ := (R_block (H.rowv q u hu).1 hb).2
        have := blk_lt hc
        omega
      · exact hq (H.apart q p u u' k hu hu' hb hb')
    by_cases ha : a = p
    · by_cases hb : b = p
      · rw [ha, hb]
      · subst ha
        rw [upd_same] at h1
        rw [upd_other _ _ hb] at h2
        cases h1
        exact (key b u2 hb h2 e2 e1).elim
    · rw [upd_other _ _ ha] at h1
      by_cases hb : b = p
      · subst hb
        rw [upd_same] at h2
        cases h2
        exact (key a u1 ha h1 e1 e2).elim
      · rw [upd_other _ _ hb] at h2
        exact H.apart a b u1 u2 k h1 h2 e1 e2
  · rcases hk with hk | hk
    · exact Nat.lt_of_lt_of_le (H.bound k hk) hch.size
    · exact hk.2
end
end Go.Proofs.Ytljahhgankcalaa

/-! Put's statement 'h.rows[w] = append(h.rows[w], n)': one region that draws its order. What holds ahead of its operations (RowA), behind the entry that is taken (RowB), behind the append (RowC), and behind it all (RowD). -/
namespace Go.Proofs.Ytljahhgankcalaa
open Go.RowKit Go.Maps Go.MapKept Go.WideMaps
open Go.Proofs.YtljahhgankcalaaW.PrintWords Go.Proofs.YtljahhgankcalaaW.PrintLast Go.Proofs.YtljahhgankcalaaW.PrintMore
open PHeapThere
set_option linter.unusedVariables false
set_option linter.unusedSimpArgs false

theorem Try.zeroRow (u : World) : (zeroValue 53).run Try.prog u = .ok (id (Value.slice none 0 0)) u := by kernel_rfl
theorem Try.infoInt : (Try.prog.info? 3).map (fun i => (i.zero, i.size, i.bytes)) = some (some (.int .i64 0), 1, 8) := by kernel_rfl
abbrev kInt : Kd Int := Kd.int .i64

structure RowA (w5 : World) (rb : Nat) (rg : Int × Int → Option Value) (p : Int × Int) (v0 : Value) (l : List Int) (cells : List (Addr × Value)) (W : World) : Prop where
  map : MapOf kvW id okW W rb rg
  row : Kd.R kInt 3 W 0 (fun k => some k = v0.ownBlock) v0 l
  cell : ∀ x ∈ cells, W.cell? x.1 = some x.2
  chg : Chg w5 W (fun _ => False)
structure RowB (w5 : World) (rb : Nat) (rg : Int × Int → Option Value) (p : Int × Int) (v0 : Value) (l : List Int) (cells : List (Addr × Value)) (st : Int) (W : World) : Prop where
  map : MapOf kvW id okW W rb (upd rg p (some v0))
  row : Kd.R kInt 3 W 0 (fun k => some k = v0.ownBlock) v0 l
  cell : ∀ x ∈ cells, W.cell? x.1 = some x.2
  chg : Chg w5 W (fun k => k = rb)
  sto : Storable Try.prog 103 kvW id okW rb rg p st W
structure RowC (w5 : World) (rb : Nat) (rg : Int × Int → Option Value) (p : Int × Int) (v0 v1 : Value) (l : List Int) (cells : List (Addr × Value)) (st : Int) (W : World) : Prop where
  row : Kd.R kInt 3 W 0 (fun k => some k = v0.ownBlock ∨ w5.heap.size ≤ k) v1 l
  cell : ∀ x ∈ cells, W.cell? x.1 = some x.2
  chg : Chg w5 W (fun k => k = rb ∨ some k = v0.ownBlock)
  ismap : ∃ es cl, W.heap[rb]? = some (.map es cl)
  sto : Storable Try.prog 103 kvW id okW rb rg p st W

section
variable {w5 W W1 : World} {rb : Nat} {rg : Int × Int → Option Value} {p : Int × Int} {v0 v1 : Value} {l : List Int} {cells : List (Addr × Value)} {st : Int}
theorem Storable.move {P : Program} {t : TypeId} {α β : Type} [DecidableEq α] {kv : α → Value} {ev : β → Value} {ok : α → Prop} {b : Nat} {g : α → Option β} {x : α} {st : Int} (h : Storable P t kv ev ok b g x st W) (hb : W1.heap[b]? = W.heap[b]?) : Storable P t kv ev ok b g x st W1 :=
  fun w2 v h2 => h w2 v (h2.trans hb)
theorem cells_alloc (h : ∀ x ∈ cells, W.cell? x.1 = some x.2) (o : Obj) : ∀ x ∈ cells, (W.alloc o).cell? x.1 = some x.2 := fun x hx => by
  rw [World.cell?_of_block (w := W) (Below.heap_alloc W o _ (World.block_lt_of_cell? W _ (h x hx)))]
  exact h x hx
theorem RowA.drew (h : RowA w5 rb rg p v0 l cells W) : RowA w5 rb rg p v0 l cells W.drew := ⟨h.map.drew, Kd.R_drew h.row, h.cell, h.chg.drew⟩
theorem RowA.alloc (h : RowA w5 rb rg p v0 l cells W) (o : Obj) : RowA w5 rb rg p v0 l cells (W.alloc o) := ⟨h.map.alloc o, Kd.R_alloc h.row o, cells_alloc h.cell o, h.chg.alloc o⟩
theorem cells_alloc1 (h : ∀ x ∈ cells, W.cell? x.1 = some x.2) (v : Value) (t : TypeId) : ∀ x ∈ (⟨W.heap.size, 0, none⟩, v) :: cells, (W.alloc (.cells #[v] t)).cell? x.1 = some x.2 := fun x hx => by
  rcases List.mem_cons.1 hx with rfl | hx
  · exact blk_cell (blk_new W _) 0
  · exact cells_alloc h _ x hx
theorem RowA.alloc1 (h : RowA w5 rb rg p v0 l cells W) (v : Value) (t : TypeId) : RowA w5 rb rg p v0 l ((⟨W.heap.size, 0, none⟩, v) :: cells) (W.alloc (.cells #[v] t)) := ⟨h.map.alloc _, Kd.R_alloc h.row _, cells_alloc1 h.cell v t, h.chg.alloc _⟩
theorem RowB.alloc1 (h : RowB w5 rb rg p v0 l cells st W) (v : Value) (t : TypeId) : RowB w5 rb rg p v0 l ((⟨W.heap.size, 0, none⟩, v) :: cells) st (W.alloc (.cells #[v] t)) :=
  ⟨h.map.alloc _, Kd.R_alloc h.row _, cells_alloc1 h.cell v t, h.chg.alloc _, h.sto.move (Below.heap_alloc W _ rb h.map.lt)⟩
theorem RowB.alloc (h : RowB w5 rb rg p v0 l cells st W) (o : Obj) : RowB w5 rb rg p v0 l cells st (W.alloc o) :=
  ⟨h.map.alloc o, Kd.R_alloc h.row o, cells_alloc h.cell o, h.chg.alloc o, h.sto.move (Below.heap_alloc W o rb h.map.lt)⟩

theorem RowA.entry (h : RowA w5 rb rg p ((rg p).getD (.slice none 0 0)) l cells W) (hp : okW p) : ∃ st W1, (Instr.mapEntry 103 (.map (some rb)) (.agg #[.int .i64 p.1, .int .i64 p.2])).run Try.prog W = .ok (.tuple #[(rg p).getD (.slice none 0 0), .int .i64 st]) W1 ∧
    RowB w5 rb rg p ((rg p).getD (.slice none 0 0)) l cells st W1 ∧ W1.heap.size = W.heap.size := by
  obtain ⟨st, W1, hrun, h1, h2, h3, h4⟩ := h.map.entry keyWhere Try.underlying103 Try.zeroRow hp
  exact ⟨st, W1, hrun, ⟨h1, R_map h.row h.map h2, fun x hx => h2.cell_some (h.cell x hx) (h.map.no_cell (h.cell x hx)), h.chg.trans h2 (fun _ _ h => h.elim) (fun _ _ h => h), h4⟩, h3⟩
/-- What is left when the entry is stored. -/
structure RowD (w5 : World) (rb : Nat) (rg : Int × Int → Option Value) (p : Int × Int) (v0 v1 : Value) (l : List Int) (cells : List (Addr × Value)) (W : World) : Prop where
  map : MapOf kvW id okW W rb (upd rg p (some v1))
  row : Kd.R kInt 3 W 0 (fun k => some k = v0.ownBlock ∨ w5.heap.size ≤ k) v1 l
  cell : ∀ x ∈ cells, W.cell? x.1 = some x.2
  chg : Chg w5 W (fun k => k = rb ∨ some k = v0.ownBlock)
theorem RowC.store (h : RowC w5 rb rg p v0 v1 l cells st W) : ∃ W1, (Instr.entryStore 103 (.map (some rb)) (.int .i64 st) v1).run Try.prog W = .ok () W1 ∧ RowD w5 rb rg p v0 v1 l cells W1 := by
  obtain ⟨W1, hrun, h1, h2, h3⟩ := h.sto W v1 rfl
  obtain ⟨es, cl, hb⟩ := h.ismap
  refine ⟨W1, hrun, h1, R_chg h.row h2 (fun k q cs _ _ hk e => ?_), fun x hx => h2.cell_some (h.cell x hx) (fun e => ?_), h.chg.trans h2 (fun _ _ h => h) (fun _ _ h => .inl h)⟩
  · have e : k = rb := e
    rw [e, hb] at hk
    cases hk
  · have hc := h.cell x hx
    have e : x.1.block = rb := e
    simp [World.cell?, e, hb] at hc

section
variable {ops : Array Oper} {o : Oper} {a : Act} {Q : Exit → Act → World → Prop} {K : Act → World → Prop} {E : Prop}
theorem step_rowB (hgd : o.guard = none) (s x : Operand) (ho : o.op = .call { callee := .builtin .append, args := #[s, x], argTypes := #[53, 53] }) (hs : a.eval s = v0) {nb : Nat} {n : Int} (hx : a.eval x = .slice (some ⟨nb, 0, none⟩) 1 1)
    (hn : W.cell? ⟨nb, 0, none⟩ = some (.int .i64 n)) (h : RowB w5 rb rg p v0 l cells st W) (hl : l.length < 17592186044000) (hcell : ∀ x ∈ cells, some x.1.block ≠ v0.ownBlock)
    (hk : ∀ v1 W1, RowC w5 rb rg p v0 v1 (l ++ [n]) cells st W1 → (v1.ownBlock = v0.ownBlock ∨ ∃ b, v1.ownBlock = some b ∧ w5.heap.size ≤ b) → K (a.put o.dst v1) W1) :
    if Region.wanted o (yielded ops a.tmps) = true then Oper.wp Try.prog o a W K Q else E := by
  have hread : Kd.C kInt W (some ⟨nb, 0, none⟩) 1 [n] := ⟨rfl, by omega, fun _ => ⟨_, rfl, fun j q hj => by
    match j, hj with
    | 0, hj =>
      simp at hj
      subst hj
      exact ⟨[.int .i64 n], rfl, rfl, fun i u hu => by
        match i, hu with
        | 0, hu => simp at hu; subst hu; simpa [Addr.add] using hn⟩⟩⟩
  have hsz := h.chg.size
  have step := Kd.R_append_rows_step (P := Try.prog) (ops := ops) (o := o) (a := a) (Q := Q) (Kc := K) kInt (w0 := W) (W := W) 0 (by simp [Region.wanted, hgd]) s x 53 3 (.int .i64 0) 8 ho Try.underlying53 Try.infoInt rfl (by decide) (by omega) v0 l [n] (some ⟨nb, 0, none⟩) 1 1
    (fun k => some k = v0.ownBlock ∨ w5.heap.size ≤ k) (fun _ => False) hs hx (Kd.R_mono h.row (fun k hk => .inl hk)) hread (fun x cs hx => hx) (fun _ h => h.elim) (fun k hk => .inr (Nat.le_trans hsz hk)) (Below.refl 0 W) (Nat.zero_le _) (by omega)
    (fun v1 W1 h1 _ h3 h4 => by
      have hc : Chg W W1 (fun k => some k = v0.ownBlock) := Chg.of_grown h3
      have hrb : some rb ≠ v0.ownBlock := fun e => by
        obtain ⟨es, cl, hb⟩ := h.map.isMap
        obtain ⟨cs, hc⟩ := (R_block h.row e.symm).2
        rw [hb] at hc
        cases hc
      refine hk v1 W1 ⟨h1, fun x hx => hc.cell_some (h.cell x hx) (hcell x hx), h.chg.trans hc (fun _ _ h => .inl h) (fun _ _ h => .inr h), ?_, h.sto.move (hc.block rb h.map.lt hrb)⟩ ?_
      · obtain ⟨es, cl, hb⟩ := h.map.isMap
        exact ⟨es, cl, (hc.block rb h.map.lt hrb).trans hb⟩
      · rcases h4 with h4 | ⟨b, h4, h5⟩
        · exact .inl h4
        · exact .inr ⟨b, h4, Nat.le_trans hsz h5⟩)
  rw [if_pos (by simp [Region.wanted, hgd])] at step
  rw [if_pos (by simp [Region.wanted, hgd])]
  exact step
end
end
end Go.Proofs.Ytljahhgankcalaa

/-! (*Heap).Put. -/
namespace Go.Proofs.Ytljahhgankcalaa
open Go.RowKit Go.Maps Go.MapKept Go.WideMaps
open Go.Proofs.YtljahhgankcalaaW.PrintWords Go.Proofs.YtljahhgankcalaaW.PrintLast Go.Proofs.YtljahhgankcalaaW.PrintMore
open PHeapThere
theorem max2_mx (k k' : IntKind) (x y : Int) : Builtin.max2 (.int k x) (.int k' y) = pure (.int k (mx x y)) := by rw [max2_int]; rfl
theorem min2_mn (k k' : IntKind) (x y : Int) : Builtin.min2 (.int k x) (.int k' y) = pure (.int k (mn x y)) := by rw [min2_int]; rfl
attribute [local go_sem] max2_mx min2_mn max_two min_two
set_option linter.unusedVariables false
set_option linter.unusedSimpArgs false

theorem AH.least_lt_roomy (A : AH) : A.least < A.roomy.slots.length := by
  unfold AH.roomy
  have := A.least_le
  split
  · simp; omega
  · omega

/-- What Put does. -/
def AH.put (A : AH) (t : ATup) : AH where
  slots := A.roomy.slots.set A.least t
  rows := fun q => if q = (t.f0, t.f1) then A.rows (t.f0, t.f1) ++ [(A.least : Int)] else A.rows q
  given := fun y => if y = t.f0 then mx (A.given t.f0) t.f1 else A.given y
  many := A.many + 1

set_option maxRecDepth 100000 in
set_option maxHeartbeats 1000000 in
theorem put_ok (h : Nat) (no id mi cm ma cx : Int) (v6 : Value) (xs : List AVal) (okv : Nat → Prop) (A : AH) (F : Nat → Prop) (w : World) (H : HeapIs w h A F) (hA : A.Ok) (hl : A.slots.length < 2147483648)
    (hr : Kd.R kVal 91 w 0 okv v6 xs) (hx : xs.length < 3518437208883) (hd : ∀ k, okv k → ¬ F k) (hrl : (A.rows (no, id)).length < 17592186044000) (n1 : 1 ≤ no) (n2 : no ≤ 2147483647) (i1 : 1 ≤ id) (i2 : id ≤ 2147483647) :
    Calls Try.prog 38 #[.pointer (some ⟨h, 0, none⟩), .agg #[.int .i64 no, .int .i64 id, .int .i64 mi, .int .i64 cm, .int .i64 ma, .int .i64 cx, v6]] w fun e w' => e = .returned (.tuple #[.int .i64 A.least, .int .i64 0]) ∧ HeapIs w' h (A.put ⟨no, id, mi, cm, ma, cx, xs⟩) (ext F w w') ∧ Chg w w' F := by
  obtain ⟨A6, c6, hv, hc6, _⟩ := Kd.R_reads hr
  subst hv
  have HH := Aside0.mk H
  have HA := Aside0.mk hA
  have HL := Aside0.mk hl
  have HR := Aside0.mk hr
  have HX := Aside0.mk hx
  have HRL := Aside0.mk hrl
  have m1 : decide (mn no id < 1) = false := decide_eq_false (by unfold mn; split <;> omega)
  have m2 : decide (2147483647 < mx no id) = false := decide_eq_false (by unfold mx; split <;> omega)
  clear H hA hl hr hx hrl
  go_enter Try.func38, Try.ntmps38
  go_wp2_with fail
  refine (free_calls h A F _ (HH.out.below ((Below.refl _ w).alloc (Nat.le_refl _) _)) HA.out HL.out).mono ?_
  rintro e w1 ⟨rfl, H1, C1⟩
  have hbF : ¬ F w.heap.size := fun hf => Nat.lt_irrefl _ (HH.out.bound _ hf)
  have hbox := C1.obj (blk_new w _) hbF
  have hin := A.least_lt_roomy
  have HB1 := Aside0.mk hbox
  obtain ⟨sv, rb, gb, rg, gg, H1⟩ := H1
  have k0 := H1.cell 0
  obtain ⟨g, cap, cur, u6, hsv, hn, hm, hgF, hg, hsz, h6, x0, x1, x2, x3, x4, x5, x6⟩ := slot_cells H1.slots hin
  rw [hsv] at k0
  have HG := Aside0.mk hg
  have HR1 := Aside0.mk (show Kd.R kVal 91 w1 0 okv _ xs from Kd.R_step HR.out (fun k hk hlt => (C1.block k (by simp; omega) (hd k hk)).trans (Below.heap_alloc _ _ _ hlt)))
  have HSV := Aside0.mk hsv
  have HN := Aside0.mk (And.intro hn (And.intro hm hsz))
  have H1' := Aside0.mk H1
  have C1' := Aside0.mk C1
  have hlt : (A.least : Int) < (A.roomy.slots.length : Int) := by omega
  have hlt2 : (0 : Int) ≤ (A.least : Int) := by omega
  have q0 := blk_cell hbox 0
  have q1 := blk_cell hbox 1
  have q2 := blk_cell hbox 2
  have q3 := blk_cell hbox 3
  have q4 := blk_cell hbox 4
  have q5 := blk_cell hbox 5
  have q6 := blk_cell hbox 6
  simp at k0 q0 q1 q2 q3 q4 q5 q6
  have y0 := (blk_cell hg (A.least * 7)).trans x0
  have y1 := (blk_cell hg (A.least * 7 + 1)).trans x1
  have y2 := (blk_cell hg (A.least * 7 + 2)).trans x2
  have y3 := (blk_cell hg (A.least * 7 + 3)).trans x3
  have y4 := (blk_cell hg (A.least * 7 + 4)).trans x4
  have y5 := (blk_cell hg (A.least * 7 + 5)).trans x5
  have y6 := (blk_cell hg (A.least * 7 + 6)).trans x6
  have yz := fun i => blk_frozen hg i
  have hgl : g < w1.heap.size := blk_lt hg
  have hne1 : h ≠ g := fun e => by
    have hb := H1.blk
    rw [e, hg] at hb
    simp at hb
  have hne2 : w.heap.size ≠ g := fun e => by
    rcases hgF with hf | hf
    · exact hbF (by rw [e]; exact hf)
    · have := hf.1
      simp at this
      omega
  have hne3 : g ≠ h := Ne.symm hne1
  have hne4 : g ≠ w.heap.size := Ne.symm hne2
  clear H1 C1 hbox hg hn hm hsz hsv h6 x0 x1 x2 x3 x4 x5 x6
  generalize A.roomy.slots[A.least] = T at y0 y1 y2 y3 y4 y5
  go_wp2_with fail
  go_region_held3 (fun w' => w'.cell? ⟨h, 0, none⟩ = some (.slice (some ⟨g, 0, none⟩) A.roomy.slots.length cap) ∧ w'.cell? ⟨w.heap.size, 0, none⟩ = some (.int .i64 no) ∧ w'.cell? ⟨w.heap.size, 1, none⟩ = some (.int .i64 id) ∧ w'.cell? ⟨w.heap.size, 2, none⟩ = some (.int .i64 mi) ∧ w'.cell? ⟨w.heap.size, 3, none⟩ = some (.int .i64 cm) ∧ w'.cell? ⟨w.heap.size, 4, none⟩ = some (.int .i64 ma) ∧ w'.cell? ⟨w.heap.size, 5, none⟩ = some (.int .i64 cx) ∧ w'.cell? ⟨w.heap.size, 6, none⟩ = some (.slice A6 xs.length c6)) (go_keep) ((go_at_call 59; (refine (tclone_calls no id mi cm ma cx (.slice A6 xs.length c6) xs w1.drew okv (Kd.R_drew HR1.out) HX.out).mono ?_); rintro e w2 ⟨v, rfl, ho, hb⟩; obtain ⟨A7, c7, e7⟩ := Kd.R_slice ho; subst e7; replace ho := Aside0.mk ho; have r0 := (hb.cell (p := ⟨h, 0, none⟩) (World.block_lt_of_cell? w1 _ k0)).trans k0; have s0 := (hb.cell (p := ⟨w.heap.size, 0, none⟩) (World.block_lt_of_cell? w1 _ q0)).trans q0; have s1 := (hb.cell (p := ⟨w.heap.size, 1, none⟩) (World.block_lt_of_cell? w1 _ q1)).trans q1; have s2 := (hb.cell (p := ⟨w.heap.size, 2, none⟩) (World.block_lt_of_cell? w1 _ q2)).trans q2; have s3 := (hb.cell (p := ⟨w.heap.size, 3, none⟩) (World.block_lt_of_cell? w1 _ q3)).trans q3; have s4 := (hb.cell (p := ⟨w.heap.size, 4, none⟩) (World.block_lt_of_cell? w1 _ q4)).trans q4; have s5 := (hb.cell (p := ⟨w.heap.size, 5, none⟩) (World.block_lt_of_cell? w1 _ q5)).trans q5; have s6 := (hb.cell (p := ⟨w.heap.size, 6, none⟩) (World.block_lt_of_cell? w1 _ q6)).trans q6; have t0 := (hb.cell (p := ⟨g, A.least * 7, none⟩) (World.block_lt_of_cell? w1 _ y0)).trans y0; have t1 := (hb.cell (p := ⟨g, A.least * 7 + 1, none⟩) (World.block_lt_of_cell? w1 _ y1)).trans y1; have t2 := (hb.cell (p := ⟨g, A.least * 7 + 2, none⟩) (World.block_lt_of_cell? w1 _ y2)).trans y2; have t3 := (hb.cell (p := ⟨g, A.least * 7 + 3, none⟩) (World.block_lt_of_cell? w1 _ y3)).trans y3; have t4 := (hb.cell (p := ⟨g, A.least * 7 + 4, none⟩) (World.block_lt_of_cell? w1 _ y4)).trans y4; have t5 := (hb.cell (p := ⟨g, A.least * 7 + 5, none⟩) (World.block_lt_of_cell? w1 _ y5)).trans y5; have t6 := (hb.cell (p := ⟨g, A.least * 7 + 6, none⟩) (World.block_lt_of_cell? w1 _ y6)).trans y6; have tz : ∀ i : Nat, w2.frozen? ⟨g, i, none⟩ = false := fun i => (hb.frozen (p := ⟨g, i, none⟩) hgl).trans (yz i); replace hb := Aside0.mk (show Below w1.heap.size w1 w2 from ⟨hb.os, hb.tape, hb.output, hb.size, hb.block⟩)))
  change Exit.then _ _ Exit.normal _ (w2.setCells g (A.least * 7) [.int .i64 no, .int .i64 id, .int .i64 mi, .int .i64 cm, .int .i64 ma, .int .i64 cx, .slice A7 xs.length c7])
  have H3 := H1'.out.setSlot (T := ⟨no, id, mi, cm, ma, cx, xs⟩) hb.out hin HSV.out HN.out.1 HG.out HN.out.2.2 ho.out
  have hch3 := chg_setCells w2 g (A.least * 7) [.int .i64 no, .int .i64 id, .int .i64 mi, .int .i64 cm, .int .i64 ma, .int .i64 cx, .slice A7 xs.length c7]
  have hbox3 := hch3.obj ((hb.out.block _ (blk_lt HB1.out)).trans HB1.out) hne2
  have CW3 := Aside0.mk (((C1'.out.then_below hb.out).trans (S := fun k => F k ∨ w.heap.size ≤ k) hch3 (fun k _ hk => .inl hk) (fun k _ (hk : k = g) => by
    rw [hk]
    rcases hgF with hf | hf
    · exact .inl hf
    · exact .inr (by have := hf.1; simp at this; omega))))
  generalize w2.setCells g (A.least * 7) [.int .i64 no, .int .i64 id, .int .i64 mi, .int .i64 cm, .int .i64 ma, .int .i64 cx, .slice A7 xs.length c7] = w3 at H3 hch3 hbox3 CW3 ⊢
  have hn3 : w2.heap.size ≤ w3.heap.size := hch3.size
  have hmany : A.roomy.many = A.many := by unfold AH.roomy; split <;> rfl
  have hm0 : 0 ≤ A.many := by rw [HA.out.many]; omega
  have hm1 : A.many < 2147483648 := by
    rw [HA.out.many]
    have := nonfree_le A.slots
    have := HL.out
    omega
  have c3 := H3.cell 3
  have z3 := H3.frozen 3
  have c1 := H3.cell 1
  have c2 := H3.cell 2
  rw [show (#[sv, Value.map (some rb), Value.map (some gb), Value.int .i64 A.roomy.many] : Array Value)[3]? = some (.int .i64 A.roomy.many) from rfl, hmany] at c3
  have d0 := blk_cell hbox3 0
  have d1 := blk_cell hbox3 1
  simp at c1 c2 d0 d1
  replace H3 := Aside0.mk H3
  replace hbox3 := Aside0.mk hbox3
  replace hmany := Aside0.mk hmany
  clear hch3 k0 q0 q1 q2 q3 q4 q5 q6 y0 y1 y2 y3 y4 y5 y6 yz r0 s0 s1 s2 s3 s4 s5 s6 t0 t1 t2 t3 t4 t5 t6 tz
  go_wp2_with fail
  have H5 := ((H3.out.setMany (A.many + 1)).chg (Chg.of_below ((Below.refl _ _).alloc (Nat.le_refl _) (.cells #[.int .i64 no, .int .i64 id] 128)) (fun _ => False)) (fun _ _ h => h))
  have hs4 : (w3.setCell ⟨h, 3, none⟩ (.int .i64 (A.many + 1))).heap.size = w3.heap.size := by simp [World.setCell]
  have hbw : ((w3.setCell ⟨h, 3, none⟩ (.int .i64 (A.many + 1))).alloc (.cells #[.int .i64 no, .int .i64 id] 128)).heap[w3.heap.size]? = some (.cells #[.int .i64 no, .int .i64 id] 128 (0, 0)) := by
    have := blk_new (w3.setCell ⟨h, 3, none⟩ (.int .i64 (A.many + 1))) (.cells #[.int .i64 no, .int .i64 id] 128)
    rw [hs4] at this
    exact this
  have hbx : ((w3.setCell ⟨h, 3, none⟩ (.int .i64 (A.many + 1))).alloc (.cells #[.int .i64 no, .int .i64 id] 128)).heap[w.heap.size]? = some (.cells #[.int .i64 no, .int .i64 id, .int .i64 mi, .int .i64 cm, .int .i64 ma, .int .i64 cx, .slice A6 xs.length c6] 39 (0, 0)) :=
    blk_alloc (blk_far hbox3.out (p := ⟨h, 3, none⟩) (fun e => by have := HH.out.hF; exact hbF (by rw [e]; exact this)) _) _
  have CW5 := Aside0.mk ((CW3.out.setCell (p := ⟨h, 3, none⟩) (.inl (.inl HH.out.hF)) (.int .i64 (A.many + 1))).alloc (.cells #[.int .i64 no, .int .i64 id] 128))
  have h3lt : w3.heap.size < ((w3.setCell ⟨h, 3, none⟩ (.int .i64 (A.many + 1))).alloc (.cells #[.int .i64 no, .int .i64 id] 128)).heap.size := blk_lt hbw
  generalize (w3.setCell ⟨h, 3, none⟩ (.int .i64 (A.many + 1))).alloc (.cells #[.int .i64 no, .int .i64 id] 128) = w5 at H5 hbw hbx CW5 h3lt ⊢
  have e1 := H5.cell 1
  have e2 := H5.cell 2
  have v0 := blk_cell hbw 0
  have v1 := blk_cell hbw 1
  have d0' := blk_cell hbx 0
  have d1' := blk_cell hbx 1
  simp at e1 e2 v0 v1 d0' d1'
  obtain ⟨r0, hr0⟩ : ∃ r, r = (rg (no, id)).getD (.slice none 0 0) := ⟨_, rfl⟩
  have hrow : Kd.R kInt 3 w5 0 (fun k => some k = r0.ownBlock) r0 (A.rows (no, id)) := by
    have hrr : A.roomy.rows = A.rows := by unfold AH.roomy; split <;> rfl
    rw [← hrr]
    cases hg : rg (no, id) with
    | none =>
      rw [hg] at hr0
      subst hr0
      have := H5.rown _ hg
      rw [show A.roomy.rows (no, id) = [] from this]
      exact Kd.R_nil _ _ _ _ _
    | some u =>
      rw [hg] at hr0
      subst hr0
      exact Kd.R_tight rfl (H5.rowv _ _ hg).1
  have HRA := Aside0.mk (RowA.mk (w5 := w5) (rb := rb) (rg := rg) (p := (no, id)) (v0 := r0) (l := A.rows (no, id))
    (cells := [(⟨h, 1, none⟩, .map (some rb)), (⟨h, 2, none⟩, .map (some gb)), (⟨w.heap.size, 0, none⟩, .int .i64 no), (⟨w.heap.size, 1, none⟩, .int .i64 id), (⟨w3.heap.size, 0, none⟩, .int .i64 no), (⟨w3.heap.size, 1, none⟩, .int .i64 id)]) (W := w5)
    H5.rmap hrow (by simp [e1, e2, v0, v1, d0', d1']) (Chg.refl _ _))
  rw [hr0] at HRA
  have hokw : okW (no, id) := ⟨okI_of (by omega) (by omega), okI_of (by omega) (by omega)⟩
  clear hrow
  have H5 := Aside0.mk H5
  obtain ⟨sta, Wa, runA, hBa, hsa⟩ := (HRA.out.drew).entry hokw
  obtain ⟨stb, Wb, runB, hBb, hsb⟩ := ((HRA.out.alloc1 (.int .i64 A.least) 3).drew).entry hokw
  rw [← hr0] at runA runB hBa hBb
  have HR0 := Aside0.mk hr0
  clear hr0
  have hv0 : ∀ b, r0.ownBlock = some b → ∃ cs, w5.heap[b]? = some (.cells cs 3 (0, 0)) := fun b hb => (R_block (HR0.out ▸ HRA.out.row) hb).2
  have fa1 := hBa.cell (⟨h, 1, none⟩, .map (some rb)) (by simp)
  have fa2 := hBa.cell (⟨w3.heap.size, 0, none⟩, .int .i64 no) (by simp)
  have fa3 := hBa.cell (⟨w3.heap.size, 1, none⟩, .int .i64 id) (by simp)
  have fb1 := hBb.cell (⟨h, 1, none⟩, .map (some rb)) (by simp)
  have fb2 := hBb.cell (⟨w3.heap.size, 0, none⟩, .int .i64 no) (by simp)
  have fb3 := hBb.cell (⟨w3.heap.size, 1, none⟩, .int .i64 id) (by simp)
  have hcb : ∀ x ∈ [((⟨w5.heap.size, 0, none⟩ : Addr), Value.int .i64 A.least), (⟨h, 1, none⟩, .map (some rb)), (⟨h, 2, none⟩, .map (some gb)), (⟨w.heap.size, 0, none⟩, .int .i64 no), (⟨w.heap.size, 1, none⟩, .int .i64 id), (⟨w3.heap.size, 0, none⟩, .int .i64 no), (⟨w3.heap.size, 1, none⟩, .int .i64 id)], some x.1.block ≠ r0.ownBlock := fun x hx e => by
    obtain ⟨cs, hc⟩ := hv0 x.1.block e.symm
    have hh := H5.out.blk
    simp only [List.mem_cons, List.not_mem_nil, or_false] at hx
    rcases hx with rfl | rfl | rfl | rfl | rfl | rfl | rfl
    · exact absurd (blk_lt hc) (Nat.lt_irrefl _)
    · rw [hc] at hh; simp at hh
    · rw [hc] at hh; simp at hh
    · rw [hc] at hbx; simp at hbx
    · rw [hc] at hbx; simp at hbx
    · rw [hc] at hbw; simp at hbw
    · rw [hc] at hbw; simp at hbw
  replace hcb := Aside0.mk hcb
  replace hbx := Aside0.mk hbx
  replace hbw := Aside0.mk hbw
  replace hBa := Aside0.mk hBa
  replace hBb := Aside0.mk hBb
  replace hv0 := Aside0.mk hv0
  replace hsa := Aside0.mk hsa
  replace hsb := Aside0.mk hsb
  simp only at fa1 fa2 fa3 fb1 fb2 fb3
  go_region_held3 (fun w' => w'.cell? ⟨h, 1, none⟩ = some (.map (some rb)) ∧ w'.cell? ⟨w3.heap.size, 0, none⟩ = some (.int .i64 no) ∧ w'.cell? ⟨w3.heap.size, 1, none⟩ = some (.int .i64 id)) (go_keep) ((refine step_rowB (by rfl) (.tmp 53) (.tmp 55) (by rfl) (by rfl) (nb := w5.heap.size) (n := (A.least : Int)) (by rfl) (hBb.out.cell (⟨w5.heap.size, 0, none⟩, .int .i64 A.least) (by simp)) hBb.out HRL.out hcb.out ?_; intro v1 W1 hC hat; obtain ⟨W4, run4, hD⟩ := hC.store; have g1 := hC.cell (⟨h, 1, none⟩, .map (some rb)) (by simp); have g2 := hC.cell (⟨w3.heap.size, 0, none⟩, .int .i64 no) (by simp); have g3 := hC.cell (⟨w3.heap.size, 1, none⟩, .int .i64 id) (by simp); have l1 := hD.cell (⟨h, 1, none⟩, .map (some rb)) (by simp); have l2 := hD.cell (⟨w3.heap.size, 0, none⟩, .int .i64 no) (by simp); have l3 := hD.cell (⟨w3.heap.size, 1, none⟩, .int .i64 id) (by simp); simp only at g1 g2 g3 l1 l2 l3; replace hC := Aside0.mk hC; replace hD := Aside0.mk hD; replace hat := Aside0.mk hat))
  have hrr : A.roomy.rows = A.rows := by unfold AH.roomy; split <;> rfl
  have hgv : A.roomy.given = A.given := by unfold AH.roomy; split <;> rfl
  have H6 := Aside0.mk (H5.out.setRow (p := (no, id)) (l := A.rows (no, id) ++ [(A.least : Int)]) (by simp) (v := v1) (S := fun k => k = rb ∨ some k = r0.ownBlock) hD.out.chg
    (fun k hk _ => by
      rcases hk with hk | hk
      · exact .inl hk
      · rw [HR0.out] at hk
        cases hg : rg (no, id) with
        | none => rw [hg] at hk; simp [Value.ownBlock] at hk
        | some u => rw [hg] at hk; exact .inr ⟨u, rfl, by rw [hk]; rfl⟩)
    hD.out.map (Kd.R_mono hD.out.row (fun _ _ => trivial))
    (fun b hb => by
      rcases hat.out with he | ⟨b', hb', hle⟩
      · rw [hb, HR0.out] at he
        cases hg : rg (no, id) with
        | none => rw [hg] at he; simp [Value.ownBlock] at he
        | some u => rw [hg] at he; exact .inr ⟨u, rfl, he.symm⟩
      · rw [hb] at hb'
        injection hb' with hb'
        exact .inl (by omega)))
  have m1' := hD.out.cell (⟨h, 2, none⟩, .map (some gb)) (by simp)
  have m2' := hD.out.cell (⟨w.heap.size, 0, none⟩, .int .i64 no) (by simp)
  have m3' := hD.out.cell (⟨w.heap.size, 1, none⟩, .int .i64 id) (by simp)
  have hlk := gmap_look (H6.out.gmap.drew) hokw.1
  obtain ⟨W5, hup, hm5, hc5, hs5⟩ := H6.out.gmap.drew.store keyInt Try.underlying27 hokw.1 (mx (A.given no) id)
  have hgn := H6.out.givn no
  simp only [hgv] at hgn
  rw [hgn] at hlk
  simp only at m1' m2' m3' hlk hup
  have n1' := hc5.cell_some (p := ⟨h, 2, none⟩) m1' (H6.out.gmap.no_cell m1')
  have n2' := hc5.cell_some (p := ⟨w.heap.size, 0, none⟩) m2' (H6.out.gmap.no_cell m2')
  have n3' := hc5.cell_some (p := ⟨w.heap.size, 1, none⟩) m3' (H6.out.gmap.no_cell m3')
  replace hm5 := Aside0.mk hm5
  replace hc5 := Aside0.mk hc5
  replace hs5 := Aside0.mk hs5
  replace hgn := Aside0.mk hgn
  clear fa1 fa2 fa3 fb1 fb2 fb3 g1 g2 g3 runA runB run4 l1 l2 l3
  go_wp2_with fail
  go_region_held3 (fun w' => w'.cell? ⟨h, 2, none⟩ = some (.map (some gb)) ∧ w'.cell? ⟨w.heap.size, 0, none⟩ = some (.int .i64 no) ∧ w'.cell? ⟨w.heap.size, 1, none⟩ = some (.int .i64 id)) (go_keep) ((fail))
  go_wp2
  go_ret2
  have H7 := H6.out.setGiven (no := no) (x := mx (A.given no) id) (w1 := W5) hm5.out ⟨hc5.out.os, hc5.out.tape, hc5.out.output, hc5.out.size, hc5.out.block⟩
  have hF5 : ∀ k, ext (ext F (w.alloc (.cells #[.int .i64 no, .int .i64 id, .int .i64 mi, .int .i64 cm, .int .i64 ma, .int .i64 cx, .slice A6 xs.length c6] 39)) w1) w1 w2 k → F k ∨ w.heap.size ≤ k := fun k hk => by
    have z1 := C1'.out.size
    have z2 := hb.out.size
    simp at z1
    rcases hk with (hk | hk) | hk
    · exact .inl hk
    · exact .inr (by have := hk.1; simp at this; omega)
    · exact .inr (by have := hk.1; omega)
  have q5 : W4.heap.size ≤ W5.heap.size := hc5.out.size
  have q4 : w5.heap.size ≤ W4.heap.size := hD.out.chg.size
  have CW6 : Chg w w5 (fun k => F k ∨ w.heap.size ≤ k) := ((Chg.refl w (fun k => F k ∨ w.heap.size ≤ k)).alloc _).then_ CW5.out (fun k hk hs => by
    rcases hs with hs | hs
    · exact .inl hs
    · exact .inr hs)
  have hsz5 : w.heap.size ≤ w5.heap.size := CW6.size
  refine ⟨by simp, ⟨sv, rb, gb, upd rg (no, id) (some v1), upd gg no (some (mx (A.given no) id)), ?_⟩, ?_⟩
  · have hbd := H7.bound
    have H8 := H7.mono (G := ext F w W5) (fun k hk => by
      rcases hk with hk' | hk'
      · rcases hF5 k hk' with h1 | h1
        · exact .inl h1
        · exact .inr ⟨h1, hbd k (.inl hk')⟩
      · exact .inr ⟨by have := hk'.1; omega, hbd k (.inr hk')⟩) (fun k hk => by
      rcases hk with hk | hk
      · exact Nat.lt_of_lt_of_le (HH.out.bound k hk) (by omega)
      · exact hk.2)
    have e : A.put ⟨no, id, mi, cm, ma, cx, xs⟩ = _ := rfl
    rw [hrr, hgv] at H8
    exact H8
  · have k1 := CW6.trans (S := fun k => F k ∨ w.heap.size ≤ k) hD.out.chg (fun _ _ h => h) (fun k hk hs => by
      rcases hs with hs | hs
      · rw [hs]; exact hF5 _ H5.out.rF
      · have := hv0.out k hs.symm
        rw [HR0.out] at hs
        cases hg : rg (no, id) with
        | none => rw [hg] at hs; simp [Value.ownBlock] at hs
        | some u => rw [hg] at hs; exact hF5 _ (R_block (H5.out.rowv _ u hg).1 hs.symm).1)
    have k2 := k1.trans (S := fun k => F k ∨ w.heap.size ≤ k) (w2 := W5) ⟨hc5.out.os, hc5.out.tape, hc5.out.output, hc5.out.size, hc5.out.block⟩ (fun _ _ h => h) (fun k hk (hs : k = gb) => by rw [hs]; exact hF5 _ H5.out.gF)
    exact k2.mono (fun k hk hs => by rcases hs with hs | hs; exact hs; omega)
end Go.Proofs.Ytljahhgankcalaa

/-! (*Heap).Put, whatever it is given. -/
namespace Go.Proofs.Ytljahhgankcalaa
open Go.RowKit Go.Maps Go.MapKept Go.WideMaps
open Go.Proofs.YtljahhgankcalaaW.PrintWords Go.Proofs.YtljahhgankcalaaW.PrintLast Go.Proofs.YtljahhgankcalaaW.PrintMore
open PHeapThere
attribute [local go_sem] max2_mx min2_mn max_two min_two
set_option linter.unusedVariables false
set_option linter.unusedSimpArgs false

def badTup (t : ATup) : Prop := t.f0 < 1 ∨ t.f1 < 1 ∨ 2147483647 < t.f0 ∨ 2147483647 < t.f1
instance (t : ATup) : Decidable (badTup t) := by unfold badTup; infer_instance
/-- What Put tells, and leaves. -/
def AH.putE (A : AH) (t : ATup) : Int × Int × AH := if badTup t then (0, 1, A) else ((A.least : Int), 0, A.put t)

theorem put_bad (h : Nat) (no id mi cm ma cx : Int) (A6 : Option Addr) (n6 c6 : Nat) (w : World) (hb : no < 1 ∨ id < 1 ∨ 2147483647 < no ∨ 2147483647 < id) :
    Calls Try.prog 38 #[.pointer (some ⟨h, 0, none⟩), .agg #[.int .i64 no, .int .i64 id, .int .i64 mi, .int .i64 cm, .int .i64 ma, .int .i64 cx, .slice A6 n6 c6]] w fun e w' => e = .returned (.tuple #[.int .i64 0, .int .i64 1]) ∧ Below w.heap.size w w' := by
  by_cases h1 : mn no id < 1
  · have m1 : decide (mn no id < 1) = true := decide_eq_true h1
    clear h1 hb
    go_enter Try.func38, Try.ntmps38
    go_wp2
    go_ret2
    exact ⟨by simp, (Below.refl _ w).alloc (Nat.le_refl _) _⟩
  · have m1 : decide (mn no id < 1) = false := decide_eq_false h1
    have m2 : decide (2147483647 < mx no id) = true := decide_eq_true (by
      unfold mn at h1
      unfold mx
      split at h1 <;> split <;> omega)
    clear h1 hb
    go_enter Try.func38, Try.ntmps38
    go_wp2
    go_ret2
    exact ⟨by simp, (Below.refl _ w).alloc (Nat.le_refl _) _⟩

theorem put_calls (h : Nat) (t : ATup) (v6 : Value) (okv : Nat → Prop) (A : AH) (F : Nat → Prop) (w : World) (H : HeapIs w h A F) (hA : A.Ok) (hl : A.slots.length < 2147483648)
    (hr : Kd.R kVal 91 w 0 okv v6 t.f6) (hx : t.f6.length < 3518437208883) (hd : ∀ k, okv k → ¬ F k) :
    Calls Try.prog 38 #[.pointer (some ⟨h, 0, none⟩), .agg #[.int .i64 t.f0, .int .i64 t.f1, .int .i64 t.f2, .int .i64 t.f3, .int .i64 t.f4, .int .i64 t.f5, v6]] w fun e w' =>
      e = .returned (.tuple #[.int .i64 (A.putE t).1, .int .i64 (A.putE t).2.1]) ∧ HeapIs w' h (A.putE t).2.2 (ext F w w') ∧ Chg w w' F := by
  unfold AH.putE
  by_cases hb : badTup t
  · rw [if_pos hb]
    obtain ⟨a, c, rfl⟩ := Kd.R_slice hr
    refine (put_bad h t.f0 t.f1 t.f2 t.f3 t.f4 t.f5 a _ c w hb).mono ?_
    rintro e w' ⟨rfl, hB⟩
    refine ⟨rfl, ?_, Chg.of_below hB _⟩
    obtain ⟨sv, rb, gb, rg, gg, H⟩ := H
    exact ⟨sv, rb, gb, rg, gg, (H.chg (Chg.of_below hB (fun _ => False)) (fun _ _ h => h)).mono (fun k hk => .inl hk) (fun k hk => by
      rcases hk with hk | hk
      · exact Nat.lt_of_lt_of_le (H.bound k hk) hB.size
      · exact hk.2)⟩
  · rw [if_neg hb]
    unfold badTup at hb
    exact put_ok h t.f0 t.f1 t.f2 t.f3 t.f4 t.f5 v6 t.f6 okv A F w H hA hl hr hx hd (by have := hA.rows_len (t.f0, t.f1); omega) (by omega) (by omega) (by omega) (by omega)
end Go.Proofs.Ytljahhgankcalaa

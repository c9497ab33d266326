import Derived.Test.YtljahhgankcalaaHg
import Derived.Test.YtljahhgankcalaaMs
/-! What single stores do to the heap as a value. -/
namespace Go.Proofs.Ytljahhgankcalaa
open Go.RowKit Go.Maps Go.MapKept Go.WideMaps
open Go.Proofs.YtljahhgankcalaaW.PrintWords Go.Proofs.YtljahhgankcalaaW.PrintLast Go.Proofs.YtljahhgankcalaaW.PrintMore
open PHeapThere
set_option linter.unusedVariables false
set_option linter.unusedSimpArgs false

theorem chg_setCells (w : World) (g o : Nat) (l : List Value) : Chg w (w.setCells g o l) (fun k => k = g) := by
  obtain ⟨h1, h2, h3, h4⟩ := setCells_same g l o w
  exact ⟨h1, h2, h3, by rw [h4]; exact Nat.le_refl _, fun k _ hn => setCells_far l o k hn⟩

/-- An element of a row is stored whole. -/
theorem R_setCells {α : Type} {d : Kd α} {e g base cap : Nat} {w : World} {ok : Nat → Prop} {v : Value} {xs : List α} (h : d.R e w base ok v xs) {i : Nat} (hi : i < xs.length) (hv : v = .slice (some ⟨g, 0, none⟩) xs.length cap)
    {cur : Array Value} (hg : w.heap[g]? = some (.cells cur e (0, 0))) (hsz : cur.size = cap * d.sz) (hcap : xs.length ≤ cap) {x : α} {c : List Value} (hx : d.M (w.setCells g (i * d.sz) c) base (fun k => ok k ∧ k ≠ g) x c) :
    d.R e (w.setCells g (i * d.sz) c) base ok v (xs.set i x) := by
  have hcl := d.K_len (d.K_of_M hx)
  have hle : i * d.sz + d.sz ≤ cap * d.sz := by rw [← Nat.succ_mul]; exact Nat.mul_le_mul_right _ (Nat.lt_of_lt_of_le hi hcap)
  obtain ⟨cur', h1, h2, h3⟩ := setCells_row c (i * d.sz) w cur hg (by omega)
  have hlen : cur.toList.length = cap * d.sz := by rw [← hsz]; simp
  refine R_upd h hi hv hg (chg_setCells w g _ c) (fun k _ hk => hk) h1 h2 (fun k hk => ?_) hx (fun j hj => ?_)
  · rw [← Array.getElem?_toList, ← Array.getElem?_toList, h3]
    rcases hk with hk | hk
    · rw [List.append_assoc, List.getElem?_append_left (by rw [List.length_take]; omega), List.getElem?_take, if_pos hk]
    · rw [List.getElem?_append_right (by rw [List.length_append, List.length_take]; omega), List.getElem?_drop]
      congr 1
      rw [List.length_append, List.length_take]
      omega
  · rw [← Array.getElem?_toList, h3, List.append_assoc, List.getElem?_append_right (by rw [List.length_take]; omega), List.getElem?_append_left (by rw [List.length_take]; omega)]
    congr 1
    rw [List.length_take]
    omega

section
variable {w w1 w2 : World} {h : Nat} {A : AH} {F : Nat → Prop} {sv : Value} {rb gb : Nat} {rg : Int × Int → Option Value} {gg : Int → Option Int}

/-- A tuple is stored into a slot; its row is new. -/
theorem HeapAt.setSlot (H : HeapAt w1 h A F sv rb gb rg gg) (hb : Below w1.heap.size w1 w2) {i g cap : Nat} {cur : Array Value} (hi : i < A.slots.length) (hsv : sv = .slice (some ⟨g, 0, none⟩) A.slots.length cap) (hcap : A.slots.length ≤ cap)
    (hg : w1.heap[g]? = some (.cells cur 39 (0, 0))) (hsz : cur.size = cap * 7) {v6 : Value} {T : ATup} (ho : Kd.R kVal 91 w2 w1.heap.size (fun _ => True) v6 T.f6) :
    HeapAt (w2.setCells g (i * 7) [.int .i64 T.f0, .int .i64 T.f1, .int .i64 T.f2, .int .i64 T.f3, .int .i64 T.f4, .int .i64 T.f5, v6]) h { A with slots := A.slots.set i T } (ext F w1 w2) sv rb gb rg gg := by
  have hbl := hb.block
  have H2 : HeapAt w2 h A (ext F w1 w2) sv rb gb rg gg := (H.chg (Chg.of_below hb (fun _ => False)) (fun _ _ h => h)).mono (fun k hk => .inl hk) (fun k hk => by
    rcases hk with hk | hk
    · exact Nat.lt_of_lt_of_le (H.bound k hk) hb.size
    · exact hk.2)
  have hg2 : w2.heap[g]? = some (.cells cur 39 (0, 0)) := (hbl g (blk_lt hg)).trans hg
  have hch := chg_setCells w2 g (i * 7) [.int .i64 T.f0, .int .i64 T.f1, .int .i64 T.f2, .int .i64 T.f3, .int .i64 T.f4, .int .i64 T.f5, v6]
  refine H2.slotwise hg2 hch ?_
  refine R_setCells (d := kTup) H2.slots hi hsv hg2 hsz hcap (k32_mkM _ 0 _ T ?_)
  refine Kd.R_lower (Kd.R_mono (Kd.R_bound (R_chg (Kd.R_bound ho) hch (fun k q cells hk _ _ e => ?_))) (fun k hk => ?_)) (Nat.zero_le _)
  · have h1 := hk.2.1
    have h2 : k = g := e
    have := blk_lt hg
    omega
  · have h1 := hk.1.2
    have := blk_lt hg
    exact ⟨.inr ⟨h1.1, h1.2.1⟩, by have := h1.1; omega⟩

/-- The field 'many' is stored. -/
theorem HeapAt.setMany (H : HeapAt w h A F sv rb gb rg gg) (m : Int) : HeapAt (w.setCell ⟨h, 3, none⟩ (.int .i64 m)) h { A with many := m } F sv rb gb rg gg := by
  have hch : Chg w (w.setCell ⟨h, 3, none⟩ (.int .i64 m)) (fun k => k = h) := (Chg.refl w (fun k => k = h)).setCell (p := ⟨h, 3, none⟩) (.inl rfl) _
  have hmap : ∀ {α β : Type} {kv : α → Value} {ev : β → Value} {okk : α → Prop} {b : Nat} {f : α → Option β}, MapOf kv ev okk w b f → MapOf kv ev okk (w.setCell ⟨h, 3, none⟩ (.int .i64 m)) b f := fun hm => hm.chg hch (fun e => by
    obtain ⟨es, cl, hb⟩ := hm.isMap
    have hh := H.blk
    rw [← e, hb] at hh
    cases hh)
  exact {
    blk := blk_put H.blk 3 _ rfl
    slots := R_typ H.slots H.blk (by decide) hch
    rmap := hmap H.rmap
    gmap := hmap H.gmap
    rowv := fun p v hp => ⟨R_typ (H.rowv p v hp).1 H.blk (by intro q hq; simp [Kd.int, Kd.scalar] at hq; subst hq; decide) hch, (H.rowv p v hp).2⟩
    rown := H.rown
    apart := H.apart
    givn := H.givn
    hF := H.hF
    rF := H.rF
    gF := H.gF
    ne := H.ne
    bound := fun k hk => Nat.lt_of_lt_of_le (H.bound k hk) hch.size }

/-- The greatest ID of a table is stored. -/
theorem HeapAt.setGiven (H : HeapAt w h A F sv rb gb rg gg) {no x : Int} (hm : MapOf (Value.int .i64) (Value.int .i64) okI w1 gb (upd gg no (some x))) (hch : Chg w w1 (fun k => k = gb)) :
    HeapAt w1 h { A with given := fun y => if y = no then x else A.given y } F sv rb gb rg (upd gg no (some x)) where
  blk := hch.obj H.blk (fun e => by
    obtain ⟨es, cl, hb⟩ := H.gmap.isMap
    have hh := H.blk
    rw [e, hb] at hh
    cases hh)
  slots := R_map H.slots H.gmap hch
  rmap := H.rmap.chg hch H.ne
  gmap := hm
  rowv := fun p v hp => ⟨R_map (H.rowv p v hp).1 H.gmap hch, (H.rowv p v hp).2⟩
  rown := H.rown
  apart := H.apart
  givn := fun y => by
    by_cases hy : y = no
    · subst hy; rw [upd_same]; simp
    · rw [upd_other _ _ hy]; simp [hy, H.givn y]
  hF := H.hF
  rF := H.rF
  gF := H.gF
  ne := H.ne
  bound := fun k hk => Nat.lt_of_lt_of_le (H.bound k hk) hch.size

/-- A row's slots are stored: in the row's own block, or in one that is new; none other's. -/
theorem HeapAt.setRow (H : HeapAt w h A F sv rb gb rg gg) {p : Int × Int} {l : List Int} (hl : l ≠ []) {v : Value} {S : Nat → Prop} (hch : Chg w w1 S) (hS : ∀ k, S k → k < w.heap.size → k = rb ∨ ∃ u, rg p = some u ∧ u.ownBlock = some k)
    (hm : MapOf kvW id okW w1 rb (upd rg p (some v))) (hR : Kd.R (Kd.int .i64) 3 w1 0 (fun _ => True) v l) (hat : ∀ b, v.ownBlock = some b → w.heap.size ≤ b ∨ ∃ u, rg p = some u ∧ u.ownBlock = some b) :
    HeapAt w1 h { A with rows := fun q => if q = p then l else A.rows q } (ext F w w1) sv rb gb (upd rg p (some v)) gg := by
  have hint : ∀ k u, rg p = some u → u.ownBlock = some k → ∃ cells, w.heap[k]? = some (.cells cells 3 (0, 0)) := fun k u hu hk => (R_block (H.rowv p u hu).1 hk).2
  have hcase : ∀ k, S k → k < w.heap.size → k = rb ∨ ∃ cells, w.heap[k]? = some (.cells cells 3 (0, 0)) := fun k hk hlt => by
    rcases hS k hk hlt with h1 | ⟨u, hu, hb⟩
    · exact .inl h1
    · exact .inr (hint k u hu hb)
  have hrb : ∃ es cl, w.heap[rb]? = some (.map es cl) := H.rmap.isMap
  have hbl := blk_lt H.blk
  refine {
    blk := hch.obj H.blk (fun hs => ?_)
    slots := Kd.R_mono (R_chg H.slots hch (fun k q cells _ hq hk hs => ?_)) (fun k hk => .inl hk)
    rmap := hm
    gmap := H.gmap.chg hch (fun hs => ?_)
    rowv := fun q u hq => ?_
    rown := fun q hq => ?_
    apart := fun a b u1 u2 k h1 h2 e1 e2 => ?_
    givn := H.givn
    hF := .inl H.hF
    rF := .inl H.rF
    gF := .inl H.gF
    ne := H.ne
    bound := fun k hk => ?_ }
  · rcases hcase h hs hbl with e | ⟨cells, hc⟩
    · obtain ⟨es, cl, hb⟩ := hrb
      have hh := H.blk
      rw [e, hb] at hh
      cases hh
    · have hh := H.blk
      rw [hc] at hh
      simp at hh
  · rcases hcase k hs (blk_lt hk) with e | ⟨cells', hc⟩
    · obtain ⟨es, cl, hb⟩ := hrb
      rw [e, hb] at hk
      cases hk
    · rw [hc] at hk
      injection hk with hk
      injection hk with _ hk
      subst hk
      revert hq
      decide
  · rcases hcase gb hs (H.gmap.lt) with e | ⟨cells', hc⟩
    · exact H.ne e.symm
    · obtain ⟨es, cl, hb⟩ := H.gmap.isMap
      rw [hc] at hb
      cases hb
  · by_cases hqp : q = p
    · subst hqp
      rw [upd_same] at hq
      cases hq
      simp only [if_true]
      refine ⟨Kd.R_mono (Kd.R_bound (Kd.R_tight rfl hR)) (fun k hk => ?_), hl⟩
      rcases hat k hk.1.symm with h1 | ⟨u, hu, hb⟩
      · exact .inr ⟨h1, hk.2.2.1⟩
      · exact .inl (R_block (H.rowv q u hu).1 hb).1
    · rw [upd_other _ _ hqp] at hq
      simp only [if_neg hqp]
      obtain ⟨h1, h2⟩ := H.rowv q u hq
      refine ⟨Kd.R_mono (R_chg (Kd.R_tight rfl h1) hch (fun k t cells hk _ hc hs => ?_)) (fun k hk => .inl (h1.1 k hk.symm)), h2⟩
      rcases hS k hs (blk_lt hc) with e | ⟨u', hu', hb⟩
      · obtain ⟨es, cl, hb⟩ := hrb
        rw [e, hb] at hc
        cases hc
      · exact hqp (H.apart q p u u' k hq hu' hk.symm hb)
  · by_cases hqp : q = p
    · subst hqp; rw [upd_same] at hq; cases hq
    · rw [upd_other _ _ hqp] at hq
      simp only [if_neg hqp]
      exact H.rown q hq
  · have key : ∀ q u, q ≠ p → rg q = some u → u.ownBlock = some k → v.ownBlock = some k → False := fun q u hq hu hb hv => by
      rcases hat k hv with h1 | ⟨u', hu', hb'⟩
      · obtain ⟨cells, hc⟩ := (R_block (H.rowv q u hu).1 hb).2
        have := blk_lt hc
        omega
      · exact hq (H.apart q p u u' k hu hu' hb hb')
    by_cases ha : a = p
    · by_cases hb : b = p
      · rw [ha, hb]
      · subst ha
        rw [upd_same] at h1
        rw [upd_other _ _ hb] at h2
        cases h1
        exact (key b u2 hb h2 e2 e1).elim
    · rw [upd_other _ _ ha] at h1
      by_cases hb : b = p
      · subst hb
        rw [upd_same] at h2
        cases h2
        exact (key a u1 ha h1 e1 e2).elim
      · rw [upd_other _ _ hb] at h2
        exact H.apart a b u1 u2 k h1 h2 e1 e2
  · rcases hk with hk | hk
    · exact Nat.lt_of_lt_of_le (H.bound k hk) hch.size
    · exact hk.2
end
end Go.Proofs.Ytljahhgankcalaa

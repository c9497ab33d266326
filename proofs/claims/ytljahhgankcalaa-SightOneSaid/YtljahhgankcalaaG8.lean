import Derived.Test.YtljahhgankcalaaG4
/-! The table's ends: a state is set; who stands below one; the plain laws. -/
namespace Go.Proofs.Ytljahhgankcalaa
open Go.RowKit Go.Maps Go.MapKept Go.WideMaps Go.Shelf
open Go.Proofs.YtljahhgankcalaaW.PrintWords Go.Proofs.YtljahhgankcalaaW.PrintLast Go.Proofs.YtljahhgankcalaaW.PrintMore
set_option linter.unusedVariables false
set_option linter.unusedSimpArgs false

/-- A transaction's state is set. -/
def TT.put (T : TT) (k s : Int) : TT := { T with all := T.all.set (k - 1).toNat { T.at k with f1 := s } }
/-- The same transactions below the same ones. -/
def SameUp (T T' : TT) : Prop := T'.all.map (fun t => t.f0) = T.all.map (fun t => t.f0) ∧ T'.last = T.last
theorem SameUp.refl (T : TT) : SameUp T T := ⟨rfl, rfl⟩
theorem SameUp.trans {T T' T'' : TT} (h : SameUp T T') (k : SameUp T' T'') : SameUp T T'' := ⟨k.1.trans h.1, k.2.trans h.2⟩
theorem SameUp.len {T T' : TT} (h : SameUp T T') : T'.all.length = T.all.length := by
  have := congrArg List.length h.1
  simpa using this
theorem SameUp.is {T T' : TT} (h : SameUp T T') (k : Int) : T'.is k = T.is k := by unfold TT.is; rw [h.len]
theorem SameUp.par {T T' : TT} (h : SameUp T T') (k : Int) : (T'.at k).f0 = (T.at k).f0 := by
  have h1 := congrArg (fun l => l[(k - 1).toNat]?) h.1
  simp only [List.getElem?_map] at h1
  unfold TT.at
  rw [List.getD_eq_getElem?_getD, List.getD_eq_getElem?_getD]
  cases h2 : T'.all[(k - 1).toNat]? <;> cases h3 : T.all[(k - 1).toNat]? <;> rw [h2, h3] at h1 <;> simp at h1 ⊢
  exact h1
theorem SameUp.upc {T T' : TT} (h : SameUp T T') : ∀ (n : Nat) (k : Int), T'.upc n k = T.upc n k
  | 0, _ => rfl
  | n + 1, k => by
    simp only [TT.upc, h.is, h.par, h.upc n]
theorem SameUp.up {T T' : TT} (h : SameUp T T') (k : Int) : T'.up k = T.up k := by
  unfold TT.up
  rw [h.len, h.upc]
theorem SameUp.top {T T' : TT} (h : SameUp T T') (k : Int) : T'.top k = T.top k := by
  unfold TT.top
  rw [h.up]
theorem SameUp.ok {T T' : TT} (h : SameUp T T') (hO : T.Ok) : T'.Ok := by
  have hl := h.len
  refine ⟨fun i hi => ?_, by rw [h.2]; exact hO.last0⟩
  have h1 := h.par ((i : Int) + 1)
  rw [T'.at_nat hi, T.at_nat (by omega)] at h1
  rw [h1]
  exact hO.par i (by omega)
theorem TT.put_same (T : TT) {k : Int} (hk : T.is k = true) (s : Int) : SameUp T (T.put k s) := by
  refine ⟨?_, rfl⟩
  have h1 := (T.is_iff k).1 hk
  obtain ⟨i, rfl⟩ : ∃ i : Nat, k = (i : Int) + 1 := ⟨(k - 1).toNat, by omega⟩
  have hi : i < T.all.length := by omega
  unfold TT.put
  rw [T.at_nat hi, show ((i : Int) + 1 - 1).toNat = i from by omega]
  simp only [List.map_set]
  apply List.ext_getElem?
  intro j
  rw [List.getElem?_set]
  split
  · rename_i h
    subst h
    simp [hi]
  · rfl

/-- Those that stand below one, from k on, d of them looked at. -/
def TT.belc (T : TT) (id : Int) : Nat → Int → List Int
  | 0, _ => []
  | d + 1, k => if (T.up k).contains id then k :: T.belc id d (k + 1) else T.belc id d (k + 1)
def TT.bel (T : TT) (id : Int) : List Int := T.belc id (T.all.length - id.toNat) (id + 1)
theorem SameUp.belc {T T' : TT} (h : SameUp T T') (id : Int) : ∀ (d : Nat) (k : Int), T'.belc id d k = T.belc id d k
  | 0, _ => rfl
  | d + 1, k => by simp only [TT.belc, h.up, h.belc id d]
theorem SameUp.bel {T T' : TT} (h : SameUp T T') (id : Int) : T'.bel id = T.bel id := by
  unfold TT.bel
  rw [h.len, h.belc]
theorem TT.Ok.up_le {T : TT} (h : T.Ok) : ∀ (n : Nat) (k a : Int), a ∈ T.upc n k → a ≤ k
  | 0, _, _, ha => by simp [TT.upc] at ha
  | n + 1, k, a, ha => by
    cases e : T.is k with
    | false => simp [TT.upc, e] at ha
    | true =>
      simp only [TT.upc, e, if_true, List.mem_cons] at ha
      rcases ha with rfl | ha
      · exact Int.le_refl _
      · have h1 := h.up_le n _ a ha
        have h2 := h.par_lt e
        omega
theorem TT.Ok.up_step {T : TT} (h : T.Ok) {k id : Int} (hk : T.is k = true) (hne : id < k) : (T.up k).contains id = (T.up (T.at k).f0).contains id := by
  rw [h.up_yes hk, List.contains_cons]
  have : (id == k) = false := beq_eq_false_iff_ne.2 (by omega)
  rw [this, Bool.false_or]
theorem TT.Ok.up_low {T : TT} (h : T.Ok) {k id : Int} (hne : k < id) : (T.up k).contains id = false := by
  cases hc : (T.up k).contains id with
  | false => rfl
  | true =>
    have := h.up_le _ k id (List.contains_iff_mem.1 hc)
    omega
theorem TT.Ok.up_self {T : TT} (h : T.Ok) {id : Int} (hi : T.is id = true) : (T.up id).contains id = true := by
  rw [h.up_yes hi, List.contains_cons, beq_self_eq_true, Bool.true_or]

/-- A state is set in memory. -/
theorem TabAt.put {w : World} {x g cap : Nat} {T : TT} {F : Nat → Prop} {cur : Array Value} (H : TabAt w x T F (.slice (some ⟨g, 0, none⟩) T.all.length cap)) {i : Nat} (hi : i < T.all.length) (hg : w.heap[g]? = some (.cells cur 115 (0, 0)))
    (hgx : g ≠ x) (s : Int) : TabAt (w.setCell ⟨g, i * 3 + 1, none⟩ (.int .u8 s)) x (T.put ((i : Int) + 1) s) F (.slice (some ⟨g, 0, none⟩) T.all.length cap) := by
  have hch : Chg w (w.setCell ⟨g, i * 3 + 1, none⟩ (.int .u8 s)) (fun k => k = g) := Chg.setCell (p := ⟨g, i * 3 + 1, none⟩) (Chg.refl w (fun k => k = g)) (.inl rfl) _
  have hg1 := blk_set hg (i * 3 + 1) (.int .u8 s)
  have hall : (T.put ((i : Int) + 1) s).all = T.all.set i { T.all[i] with f1 := s } := by
    unfold TT.put
    rw [T.at_nat hi, show ((i : Int) + 1 - 1).toNat = i from by omega]
  obtain ⟨g2, cap2, cur2, c, hv, _, _, hgb, n1, n2, hsz, hM, hcl, hcell⟩ := R_elem H.all hi
  injection hv with hv1 _ hv3
  injection hv1 with hv1
  injection hv1 with hv1
  subst hv1
  subst hv3
  rw [hg] at hgb
  injection hgb with hgb
  injection hgb with hgb
  subst hgb
  obtain rfl := PSightDead.k115_openM hM
  have h3 : kOne.sz = 3 := rfl
  rw [h3] at hsz
  have h0 := hcell 0 _ rfl
  have h2 := hcell 2 _ rfl
  rw [h3] at h0 h2
  refine ⟨?_, ?_, H.hF, fun k hk => by have := H.bound k hk; simpa [World.setCell] using this⟩
  · exact hch.obj H.blk (fun e => hgx e.symm)
  · rw [hall]
    refine R_upd H.all hi rfl hg hch (fun k _ hk => hk) hg1 (by simp) (fun k hk => ?_) (PSightDead.k115_mkM _ _ _ { T.all[i] with f1 := s }) (fun j hj => ?_)
    · rw [Array.getElem?_setIfInBounds_ne]
      rw [h3] at hk
      omega
    · rw [h3] at hj ⊢
      match j, hj with
      | 0, _ =>
        rw [Array.getElem?_setIfInBounds_ne (by omega)]
        exact h0
      | 1, _ =>
        rw [Array.getElem?_setIfInBounds_self]
        rw [if_pos (by rw [hsz]; omega)]
        rfl
      | 2, _ =>
        rw [Array.getElem?_setIfInBounds_ne (by omega)]
        exact h2
end Go.Proofs.Ytljahhgankcalaa

/-! (*Table).below: all that stand below a transaction: the iterator. -/
namespace Go.Proofs.Ytljahhgankcalaa
open Go.RowKit Go.Maps Go.MapKept Go.WideMaps Go.Shelf
open Go.Proofs.YtljahhgankcalaaW.PrintWords Go.Proofs.YtljahhgankcalaaW.PrintLast Go.Proofs.YtljahhgankcalaaW.PrintMore
attribute [local go_sem] Oper.semAt_some
set_option linter.unusedVariables false
set_option linter.unusedSimpArgs false

theorem below_calls (x : Nat) (id : Int) (w : World) :
    Calls Try.prog 92 #[.pointer (some ⟨x, 0, none⟩), .int .i64 id] w fun e w' => e = .returned (.func (.func 104) #[] #[.pointer (some ⟨w.heap.size + 1, 0, none⟩), .pointer (some ⟨w.heap.size, 0, none⟩)]) ∧
      w' = (w.alloc (.cells #[.pointer (some ⟨x, 0, none⟩)] 46)).alloc (.cells #[.int .i64 id] 3) := by
  go_enter Try.func92, Try.ntmps92
  go_wp2
  go_ret
  exact ⟨by simp, rfl⟩

/-- What a round of below keeps: all but S and the loops' records; the table's transactions stand where they stood. -/
structure KpB (x : Nat) (F S : Nat → Prop) (T0 : TT) (X Y : World) : Prop where
  size : X.heap.size ≤ Y.heap.size
  block : ∀ k o, ¬ S k → X.heap[k]? = some o → (∀ r, o ≠ .loop r) → Y.heap[k]? = some o
  tab : ∀ T, SameUp T0 T → TabIs X x T F → ∃ T', SameUp T0 T' ∧ TabIs Y x T' F
theorem KpB.trans {x : Nat} {F S : Nat → Prop} {T0 : TT} {X Y Z : World} (h : KpB x F S T0 X Y) (k : KpB x F S T0 Y Z) : KpB x F S T0 X Z :=
  ⟨Nat.le_trans h.size k.size, fun b o hb ho hn => k.block b o hb (h.block b o hb ho hn) hn, fun T hT hX => by
    obtain ⟨T1, h1, h2⟩ := h.tab T hT hX
    exact k.tab T1 h1 h2⟩
/-- The iterator's own steps: its map alone. -/
def AbB (N : Nat) (X Y : World) : Prop := Chg X Y (fun k => N ≤ k ∧ ∃ es c, X.heap[k]? = some (.map es c))
theorem lt_len {α β : Type} {a : List α} {b c : List β} {f : List α → List β} (hf : ∀ l, (f l).length = l.length) {y : β} {n : Nat} (h : c = f a ++ (y :: b)) (hn : n = c.length) : a.length < n := by
  rw [hn, h, List.length_append, hf]
  simp
theorem wrap_up {i n : Nat} (h1 : i < n) (h2 : n < 2147483648) : wrap64 ((i : Int) + 1 + 1) = (((i + 1 : Nat) : Int) + 1) := by
  unfold wrap64
  omega
theorem meas_up {n i : Nat} (h : i < n) : n + 1 - (intOf (.int .i64 (((i + 1 : Nat) : Int) + 1))).toNat < n + 1 - (intOf (.int .i64 ((i : Int) + 1))).toNat := by
  simp only [intOf]
  omega

set_option maxRecDepth 100000 in
set_option maxHeartbeats 4000000 in
theorem below1_seq (x bt bi : Nat) (id : Int) (T : TT) (F Sb : Nat → Prop) (w : World) (H : TabIs w x T F) (hOk : T.Ok) (hid : T.is id = true) (hln : T.all.length < 2147483648)
    (hbt : w.heap[bt]? = some (.cells #[.pointer (some ⟨x, 0, none⟩)] 46 (0, 0))) (hbi : w.heap[bi]? = some (.cells #[.int .i64 id] 3 (0, 0)))
    (hSt : ¬ Sb bt) (hSi : ¬ Sb bi) (hSb : ∀ k, Sb k → k < w.heap.size) (n : Nat) (hn : 3 ≤ n) :
    SeqV Fence.wide n Try.prog 104 #[.pointer (some ⟨bi, 0, none⟩), .pointer (some ⟨bt, 0, none⟩)] (fun a : T.Id => #[.int .i64 a.1]) (AbB w.heap.size) (KpB x F Sb T) (fun xs => TT.ids xs = T.bel id) (fun pre => True) (T.bel id).length w := by
  intro l J Jx W hB hJ hJx hY h0
  have hn1 : 1 ≤ n := by omega
  have HT := H.below hB
  have ht := blk_below hbt hB
  have hi := blk_below hbi hB
  have hid2 := (T.is_iff id).1 hid
  obtain ⟨j0, hj0⟩ : ∃ j : Nat, id = (j : Int) + 1 := ⟨(id - 1).toNat, by omega⟩
  have hoid : okI id := okI_of (by omega) (by omega)
  -- the map is made
  have hmm := @run_makeMap Try.prog
  have hm0 := MapOf.made W (Value.int .i64) (Value.int .i64) okI
  obtain ⟨w1, hw1⟩ : ∃ w1, W.alloc (.map #[] 0) = w1 := ⟨_, rfl⟩
  have hb1 : Chg W w1 (fun _ => False) := by rw [← hw1]; exact (Chg.refl W _).alloc _
  rw [hw1] at hm0
  obtain ⟨w2, hu2, hm2, hc2, hs2⟩ := hm0.store keyInt Try.underlying27 hoid 1
  have hsz := hB.size
  have hc12 : Chg W w2 (fun k => k = W.heap.size) := hb1.trans hc2 (fun _ _ h => h.elim) (fun _ _ h => h)
  have hA1 : AbB w.heap.size W w2 := hc12.mono (fun k hk e => by omega)
  have j2 := hJ _ _ _ h0 hA1
  have HT2 := HT.chg hc12 (fun k hk e => by have := H.bound k hk; omega)
  have ht2 := hc12.obj ht (fun e => by have := blk_lt ht; omega)
  have hi2 := hc12.obj hi (fun e => by have := blk_lt hi; omega)
  obtain ⟨mb, hmb⟩ : ∃ mb, W.heap.size = mb := ⟨_, rfl⟩
  have k1 := one_cell (hb1.obj hi (fun h => h))
  have k2 := one_cell hi2
  have hmb2 : w.heap.size ≤ mb := by omega
  have hmbS : ¬ Sb mb := fun e => by have := hSb _ e; omega
  rw [hmb] at hu2 hm2
  have w1a : IntKind.wrap .i64 (id + 1) = id + 1 := by rw [IntKind.wrap_i64]; omega
  have w1b : wrap64 (id + 1) = id + 1 := by unfold wrap64; omega
  have HW := Aside0.mk (And.intro hw1 hmb)
  have HST := Aside0.mk (And.intro HT2 (And.intro ht2 (And.intro hi2 (And.intro hm2 j2))))
  have HID := Aside0.mk (And.intro hid (And.intro hid2 (And.intro hj0 hOk)))
  have HLN := Aside0.mk hln
  have hFb := Aside0.mk H.bound
  have hBi := Aside0.mk (And.intro (show bt < mb from by have := blk_lt hbt; omega) (show bi < mb from by have := blk_lt hbi; omega))
  clear H HT hbt hbi ht hi hm0 hb1 hm2 hc2 hs2 hc12 hA1 j2 HT2 ht2 hi2 hid2 hj0 h0 hid hln hsz
  refine callsIn_of_wp Try.func104 rfl trivial ?_ rfl
  simp only [Try.ntmps104, List.size_toArray, List.length_cons, List.length_nil, Nat.reduceAdd, Nat.reduceSub, Array.replicate_succ, Array.replicate_zero, List.push_toArray, List.append_toArray, List.nil_append, List.cons_append]
  gi_wp2
  clear hu2 k1 k2 hmm w1a w1b
  gi_loopw [5] (fun v5 wr => ∃ (i : Nat) (pre : List T.Id) (T1 : TT) (g : Int → Option Int), v5 = .int .i64 ((i : Int) + 1) ∧ i ≤ T.all.length ∧ Aside0 (id ≤ (i : Int)) ∧ Aside0 (SameUp T T1) ∧ Aside0 (T.bel id = TT.ids pre ++ T.belc id (T.all.length - i) ((i : Int) + 1)) ∧ Aside0 (TabIs wr x T1 F) ∧
      Aside0 (wr.heap[bt]? = some (.cells #[.pointer (some ⟨x, 0, none⟩)] 46 (0, 0))) ∧ Aside0 (wr.heap[bi]? = some (.cells #[.int .i64 id] 3 (0, 0))) ∧ Aside0 (MapOf (Value.int .i64) (Value.int .i64) okI wr mb g) ∧
      Aside0 (∀ y, 0 ≤ y → y ≤ (i : Int) → ((g y).getD 0 = 0 ↔ (T.up y).contains id = false)) ∧ Aside0 (∀ y, (i : Int) < y → (g y).getD 0 = 0) ∧ Aside0 (J pre wr))
    (fun v5 _ => T.all.length + 1 - (intOf v5).toNat)
  case atStart =>
    obtain ⟨hid, hid2, hj0, hOk⟩ := HID.out
    obtain ⟨HT2, ht2, hi2, hm2, j2⟩ := HST.out
    refine ⟨j0 + 1, [], T, _, by rw [hj0]; rfl, by omega, ⟨by omega⟩, ⟨SameUp.refl T⟩, ⟨?_⟩, ⟨HT2⟩, ⟨ht2⟩, ⟨hi2⟩, ⟨hm2⟩, ⟨fun y h0 h1 => ?_⟩, ⟨fun y h0 => by rw [upd_other _ _ (by omega)]; rfl⟩, ⟨j2⟩⟩
    · unfold TT.bel
      rw [hj0, show ((j0 : Int) + 1).toNat = j0 + 1 from by omega]
      rfl
    · by_cases hy : y = id
      · subst hy
        rw [upd_same, hOk.up_self hid]
        simp
      · rw [upd_other _ _ hy, hOk.up_low (by omega)]
        simp
  case round =>
    obtain ⟨i, pre, T1, g, rfl, hil, hge, hsu, hbl, HT, ht, hi, hm, hg, hgn, hj⟩ := hrel
    obtain ⟨v, HT4⟩ := HT.out
    obtain ⟨a4, c4, e4, _⟩ := HT4.slice
    subst e4
    have k1 := one_cell ht.out
    have c0 := blk_cell HT4.blk 0
    simp at c0
    have hlen1 := hsu.out.len
    by_cases hlt : i < T.all.length
    · have d1 : decide ((i : Int) + 1 ≤ (T1.all.length : Int)) = true := decide_eq_true (by omega)
      have hli : i < T1.all.length := by omega
      obtain ⟨g4, cap4, cur, hv4, n1, n2, hgF, hgx, hgb, hsz, y0, y1, y2⟩ := HT4.one hli
      have hat : Calls Try.prog 63 _ wr _ := xat_calls x g4 T1.all.length cap4 wr (by rw [← hv4]; exact blk_cell HT4.blk 0) i hli (by unfold maxLen at n2; omega)
      have q0 := (blk_cell hgb (i * 3)).trans y0
      have hOk1 := hsu.out.ok HID.out.2.2.2
      have hpar := hOk1.par i hli
      have hpeq : T1.all[i].f0 = (T.at ((i : Int) + 1)).f0 := by rw [← T1.at_nat hli, hsu.out.par]
      have his : T.is ((i : Int) + 1) = true := (T.is_iff _).2 (by omega)
      have hstep := HID.out.2.2.2.up_step his (id := id) (by have := hge.out; omega)
      rw [← hpeq] at hstep
      obtain ⟨p, hp⟩ : ∃ p, T1.all[i].f0 = p := ⟨_, rfl⟩
      rw [hp] at q0 hpar hstep
      have hop : okI p := okI_of (by omega) (by have := HLN.out; omega)
      have hlk := gmap_look hm.out hop
      have hgp := hg.out p (by omega) (by omega)
      have HP := Aside0.mk (And.intro hpar (And.intro his hstep))
      have hok1 : okI ((i : Int) + 1) := okI_of (by omega) (by have := HLN.out; omega)
      have hwu := Aside0.mk (wrap_up hlt HLN.out)
      have hmu := Aside0.mk (meas_up hlt)
      have HLT := Aside0.mk hlt
      clear HT4 hv4 n1 n2 hgb hsz y0 y1 y2 hpar hpeq his hp hOk1 hli hlen1 hlt hil
      cases hcn : (T.up ((i : Int) + 1)).contains id with
      | false =>
        have hv : (g p).getD 0 = 0 := hgp.2 (by rw [← hstep]; exact hcn)
        rw [hv] at hlk
        have HC := Aside0.mk hcn
        clear hv hgp hstep hcn hok1 hop
        gi_wp2_with (refine ⟨trivial, ?_⟩; gi_at_call 63; refine (callsIn_wide.2 hat).mono ?_; clear hat; rintro e w' ⟨rfl, hw⟩; obtain rfl := hw.symm)
        go_roundw
        case measure => rw [hwu.out]; exact hmu.out
        case rel =>
          refine ⟨i + 1, pre, T1, g, by rw [hwu.out], HLT.out, ⟨by have := hge.out; omega⟩, hsu, ⟨?_⟩, HT, ht, hi, hm, ⟨fun y h0 h1 => ?_⟩, ⟨fun y h0 => hgn.out y (by omega)⟩, hj⟩
          · rw [hbl.out, show T.all.length - i = (T.all.length - (i + 1)) + 1 from by have := HLT.out; omega]
            rw [TT.belc, if_neg (by rw [HC.out]; simp)]
            rfl
          · by_cases hy : y = (i : Int) + 1
            · subst hy
              rw [HC.out, hgn.out _ (by omega)]
              simp
            · exact hg.out y h0 (by omega)
      | true =>
        have hv : ¬ (g p).getD 0 = 0 := fun e => by
          have := hgp.1 e
          rw [← hstep, hcn] at this
          cases this
        have hvb : ((g p).getD 0 == 0) = false := beq_eq_false_iff_ne.2 hv
        generalize (g p).getD 0 = pv at hlk hvb
        obtain ⟨w3, hu3, hm3, hc3, hs3⟩ := hm.out.store keyInt Try.underlying27 hok1 1
        have hA3 : AbB w.heap.size wr w3 := hc3.mono (fun k _ e => by rw [e]; exact ⟨hmb2, hm.out.isMap⟩)
        have HT3 := HT.out.chg hc3 (fun k hk e => by have := hFb.out k hk; omega)
        have ht3 := hc3.obj ht.out (fun e => by have := hBi.out.1; omega)
        have hi3 := hc3.obj hi.out (fun e => by have := hBi.out.2; omega)
        have hbl2 : T.bel id = TT.ids pre ++ (((i : Int) + 1) :: T.belc id (T.all.length - (i + 1)) ((i : Int) + 1 + 1)) := by
          rw [hbl.out, show T.all.length - i = (T.all.length - (i + 1)) + 1 from by have := HLT.out; omega]
          rw [TT.belc, if_pos hcn]
        obtain ⟨fn, tmps, assign, body, hy, hR⟩ := hY pre ⟨(i : Int) + 1, HP.out.2.1⟩ w3 (hJ _ _ _ hj.out hA3) (lt_len TT.ids_len hbl2 rfl)
        dsimp only at hy
        have HX := Aside0.mk (And.intro hcn (And.intro hbl2 (And.intro HT3 (And.intro ht3 (And.intro hi3 hm3)))))
        clear hv hgp hstep hcn hok1 hop hc3 hs3 hA3 HT3 ht3 hi3 hbl2 hm3
        gi_wp2_with (refine ⟨trivial, ?_⟩; gi_at_call 63; refine (callsIn_wide.2 hat).mono ?_; clear hat; rintro e w' ⟨rfl, hw⟩; obtain rfl := hw.symm)
        refine hR.mono ?_
        rintro e V (⟨rfl, hJ3, hk3⟩ | ⟨rfl, hJx3⟩)
        · obtain ⟨hcn, hbl2, HT3, ht3, hi3, hm3⟩ := HX.out
          obtain ⟨T2, hs2, HT5⟩ := hk3.tab T1 hsu.out HT3
          have ht5 := Aside0.mk (hk3.block _ _ hSt ht3 (fun r e => by cases e))
          have hi5 := Aside0.mk (hk3.block _ _ hSi hi3 (fun r e => by cases e))
          have hm5 : MapOf (Value.int .i64) (Value.int .i64) okI V mb (upd g ((i : Int) + 1) (some 1)) := hm3.move (by
            obtain ⟨es, cl, hes⟩ := hm3.isMap
            rw [hes]
            exact hk3.block _ _ hmbS hes (fun r e => by cases e))
          replace hm5 := Aside0.mk hm5
          replace HT5 := Aside0.mk HT5
          replace hs2 := Aside0.mk hs2
          clear hcn hbl2 HT3 ht3 hi3 hm3 hk3
          gi_wp2
          go_roundw
          case measure => rw [hwu.out]; exact hmu.out
          case rel =>
            refine ⟨i + 1, _, T2, _, by rw [hwu.out], HLT.out, ⟨by have := hge.out; omega⟩, hs2, ⟨?_⟩, HT5, ht5, hi5, hm5, ⟨fun y h0 h1 => ?_⟩, ⟨fun y h0 => ?_⟩, ⟨hJ3⟩⟩
            · rw [TT.ids_more, HX.out.2.1]
              simp
            · by_cases hy : y = (i : Int) + 1
              · subst hy
                rw [upd_same, HX.out.1]
                simp
              · rw [upd_other _ _ hy]
                exact hg.out y h0 (by omega)
            · rw [upd_other _ _ (by omega)]
              exact hgn.out y (by omega)
        · gi_wp2
          refine bodyPost_ret (results_none rfl _ _ _) rfl ?_
          exact ⟨⟨_, rfl⟩, .inr ⟨_, trivial, hJx3⟩⟩
    · have d1 : decide ((i : Int) + 1 ≤ (T1.all.length : Int)) = false := decide_eq_false (by omega)
      have HD := Aside0.mk (show T.all.length - i = 0 from by omega)
      clear hlt hlen1 HT4
      gi_wp2
      go_end0
      exact ⟨⟨_, rfl⟩, .inl ⟨pre, by rw [hbl.out, HD.out]; simp [TT.belc], hj.out⟩⟩
end Go.Proofs.Ytljahhgankcalaa

/-! (*Table).end, Commit, Abort. -/
namespace Go.Proofs.Ytljahhgankcalaa
open Go.RowKit Go.Maps Go.MapKept Go.WideMaps Go.Shelf
open Go.Proofs.YtljahhgankcalaaW.PrintWords Go.Proofs.YtljahhgankcalaaW.PrintLast Go.Proofs.YtljahhgankcalaaW.PrintMore
attribute [local go_sem] Oper.semAt_some
set_option linter.unusedVariables false
set_option linter.unusedSimpArgs false

/-- All that stand in a list, and are of a state up to one, are of another one. -/
def TT.mark (T : TT) (f t : Int) (l : List Int) : TT := l.foldl (fun T k => if (T.at k).f1 ≤ f then T.put k t else T) T
def TT.endd (T : TT) (id f t : Int) : Int × TT :=
  if T.is id = true then (if (T.at id).f1 = 1 then (0, (T.put id t).mark f t (T.bel id)) else (7, T)) else (5, T)
theorem TT.mark_more (T : TT) (f t : Int) (l : List Int) (k : Int) : T.mark f t (l ++ [k]) = (if ((T.mark f t l).at k).f1 ≤ f then (T.mark f t l).put k t else T.mark f t l) := by
  unfold TT.mark
  rw [List.foldl_append]
  rfl
theorem TT.mark_same {T0 : TT} (f t : Int) : ∀ (l : List Int) (T : TT), SameUp T0 T → (∀ k ∈ l, T0.is k = true) → SameUp T0 (T.mark f t l)
  | [], T, h, _ => h
  | k :: l, T, h, hl => by
    have h1 : SameUp T0 (if (T.at k).f1 ≤ f then T.put k t else T) := by
      split
      · exact h.trans (T.put_same (by rw [h.is]; exact hl k (by simp)) t)
      · exact h
    exact TT.mark_same f t l _ h1 (fun a ha => hl a (by simp [ha]))

theorem keepsFrom_chg2 {B : Nat} {W W' : World} {S : Nat → Prop} (h : Chg W W' S) (hS : ∀ k, k < W.heap.size → S k → k < B) : KeepsFrom B W W' :=
  ⟨h.size, fun k o hk ho _ => (h.block k (blk_lt ho) (fun hs => by have := hS k (blk_lt ho) hs; omega)).trans ho⟩

set_option maxRecDepth 100000 in
theorem end_no (x : Nat) (T : TT) (F : Nat → Prop) (w : World) (H : TabIs w x T F) (id f t : Int) (hb : ¬ (T.is id = true ∧ (T.at id).f1 = 1)) :
    Calls Try.prog 64 #[.pointer (some ⟨x, 0, none⟩), .int .i64 id, .int .u8 f, .int .u8 t] w fun e w' => e = .returned (.int .i64 (T.endd id f t).1) ∧ Below w.heap.size w w' := by
  have hB : Below w.heap.size w (((w.alloc (.cells #[.pointer (some ⟨x, 0, none⟩)] 46)).alloc (.cells #[.int .u8 f] 5)).alloc (.cells #[.int .u8 t] 5)) := (((Below.refl _ w).alloc (Nat.le_refl _) _).alloc (by simp) _).alloc (by simp; omega) _
  have c0 := blk_alloc (blk_alloc (blk_new w (.cells #[.pointer (some ⟨x, 0, none⟩)] 46)) (.cells #[.int .u8 f] 5)) (.cells #[.int .u8 t] 5)
  obtain ⟨w1, hw1⟩ : ∃ w1, ((w.alloc (.cells #[.pointer (some ⟨x, 0, none⟩)] 46)).alloc (.cells #[.int .u8 f] 5)).alloc (.cells #[.int .u8 t] 5) = w1 := ⟨_, rfl⟩
  rw [hw1] at hB c0
  have k0 := one_cell c0
  have H1 := H.below hB
  have his := xis_calls x T F w1 H1 id
  have HB := Aside0.mk hB
  unfold TT.endd
  cases hi : T.is id with
  | false =>
    rw [hi] at his
    clear H H1 hb hi hB c0
    go_enter Try.func64, Try.ntmps64
    go_wp2_with (go_at_call 62; refine his.mono ?_; clear his hw1; rintro e w' ⟨rfl, hw⟩; obtain rfl := hw.symm)
    go_ret
    exact ⟨rfl, HB.out⟩
  | true =>
    rw [hi] at his
    have h1 : (T.at id).f1 ≠ 1 := fun e => hb ⟨hi, e⟩
    have h2 := (T.is_iff id).1 hi
    obtain ⟨i, rfl⟩ : ∃ i : Nat, id = (i : Int) + 1 := ⟨(id - 1).toNat, by omega⟩
    have hl : i < T.all.length := by omega
    rw [T.at_nat hl] at h1 ⊢
    obtain ⟨v, H1⟩ := H1
    obtain ⟨g, cap, cur, hsv, n1, n2, hgF, hgx, hg, hsz, y0, y1, y2⟩ := H1.one hl
    subst hsv
    have hat := xat_calls x g T.all.length cap w1 (blk_cell H1.blk 0) i hl (by unfold maxLen at n2; omega)
    have q1 := (blk_cell hg (i * 3 + 1)).trans y1
    rw [if_pos rfl, if_neg h1]
    have d1 : (T.all[i].f1 == 1) = false := beq_eq_false_iff_ne.2 h1
    have d2 : (T.all[i].f1 != 1) = true := by rw [bne, d1]; rfl
    generalize T.all[i].f1 = st at q1 d1 d2
    clear H H1 hb hi hB c0 h1 h2 y0 y1 y2 hg n1 n2 hsz
    go_enter Try.func64, Try.ntmps64
    go_wp2_with (first | (go_at_call 62; refine his.mono ?_; clear his hw1; rintro e w' ⟨rfl, hw⟩; obtain rfl := hw.symm) | (go_at_call 63; refine hat.mono ?_; clear hat; rintro e w' ⟨rfl, hw⟩; obtain rfl := hw.symm))
    go_ret
    exact ⟨rfl, HB.out⟩

set_option maxRecDepth 100000 in
set_option maxHeartbeats 4000000 in
theorem end_yes (x : Nat) (T : TT) (F : Nat → Prop) (w : World) (H : TabIs w x T F) (hOk : T.Ok) (hln : T.all.length < 2147483648) (id f t : Int) (hi : T.is id = true) (h1 : (T.at id).f1 = 1) :
    Calls Try.prog 64 #[.pointer (some ⟨x, 0, none⟩), .int .i64 id, .int .u8 f, .int .u8 t] w fun e w' => e = .returned (.int .i64 0) ∧ TabIs w' x ((T.put id t).mark f t (T.bel id)) F ∧ Chg w w' F := by
  have hB : Below w.heap.size w (((w.alloc (.cells #[.pointer (some ⟨x, 0, none⟩)] 46)).alloc (.cells #[.int .u8 f] 5)).alloc (.cells #[.int .u8 t] 5)) := (((Below.refl _ w).alloc (Nat.le_refl _) _).alloc (by simp) _).alloc (by simp; omega) _
  have c0 := blk_alloc (blk_alloc (blk_new w (.cells #[.pointer (some ⟨x, 0, none⟩)] 46)) (.cells #[.int .u8 f] 5)) (.cells #[.int .u8 t] 5)
  have c1 := blk_alloc (blk_new (w.alloc (.cells #[.pointer (some ⟨x, 0, none⟩)] 46)) (.cells #[.int .u8 f] 5)) (.cells #[.int .u8 t] 5)
  have c2 := blk_new ((w.alloc (.cells #[.pointer (some ⟨x, 0, none⟩)] 46)).alloc (.cells #[.int .u8 f] 5)) (.cells #[.int .u8 t] 5)
  rw [World.size_alloc] at c1
  rw [World.size_alloc, World.size_alloc] at c2
  have s1 : (((w.alloc (.cells #[.pointer (some ⟨x, 0, none⟩)] 46)).alloc (.cells #[.int .u8 f] 5)).alloc (.cells #[.int .u8 t] 5)).heap.size = w.heap.size + 3 := by simp
  obtain ⟨w1, hw1⟩ : ∃ w1, ((w.alloc (.cells #[.pointer (some ⟨x, 0, none⟩)] 46)).alloc (.cells #[.int .u8 f] 5)).alloc (.cells #[.int .u8 t] 5) = w1 := ⟨_, rfl⟩
  rw [hw1] at hB c0 c1 c2 s1
  have k0 := one_cell c0
  have k1 := one_cell c1
  have k2 := one_cell c2
  have H1 := H.below hB
  have his := xis_calls x T F w1 H1 id
  rw [hi] at his
  have h2 := (T.is_iff id).1 hi
  obtain ⟨i, rfl⟩ : ∃ i : Nat, id = (i : Int) + 1 := ⟨(id - 1).toNat, by omega⟩
  have hl : i < T.all.length := by omega
  rw [T.at_nat hl] at h1
  obtain ⟨v, H1⟩ := H1
  obtain ⟨g, cap, cur, hsv, n1, n2, hgF, hgx, hg, hsz, y0, y1, y2⟩ := H1.one hl
  subst hsv
  have hat := Aside0.mk (fun W (hb : Below w1.heap.size w1 W) => xat_calls x g T.all.length cap W (blk_cell (blk_below H1.blk hb) 0) i hl (by unfold maxLen at n2; omega))
  have q1 := (blk_cell hg (i * 3 + 1)).trans y1
  have z1 := blk_frozen hg (i * 3 + 1)
  have hx0 := blk_cell H1.blk 0
  simp at hx0
  rw [h1] at q1
  have HB := Aside0.mk (And.intro hB (And.intro c0 (And.intro c1 (And.intro c2 s1))))
  have hFb := Aside0.mk H.bound
  have HP := Aside0.mk (H1.put hl hg hgx t)
  have hgl : g < w.heap.size := H.bound g hgF
  have HI := Aside0.mk (And.intro hi (And.intro hOk (And.intro hln (And.intro hl hgF))))
  have hat1 := hat.out w1 (Below.refl _ _)
  clear H H1 hi hB c0 c1 c2 s1 h1 h2 y0 y1 y2 hg n1 n2 hsz hOk hln
  refine (callsIn_wide (n := 8)).1 ?_
  refine callsIn_of_wp_marks Try.func64 rfl trivial ?_ rfl
  simp only [Try.ntmps64, List.size_toArray, List.length_cons, List.length_nil, Nat.reduceAdd, Nat.reduceSub, Array.replicate_succ, Array.replicate_zero, List.push_toArray, List.append_toArray, List.nil_append, List.cons_append]
  gi_wp2_with (fail)
  refine ⟨trivial, ?_⟩
  gi_at_call 62
  refine (callsIn_wide.2 his).mono ?_
  clear his hw1
  rintro e w' ⟨rfl, hw⟩
  obtain rfl := hw.symm
  gi_wp2_with (fail)
  refine ⟨trivial, ?_⟩
  gi_at_call 63
  refine (callsIn_wide.2 hat1).mono ?_
  clear hat1
  rintro e w' ⟨rfl, hw⟩
  obtain rfl := hw.symm
  gi_wp2_with (fail)
  refine wpIn_mono (Q := fun e a' w' => match e with | .normal => a' = { tmps := #[.pointer (some ⟨x, 0, none⟩), .int .i64 ((i : Int) + 1), .int .u8 f, .int .u8 t, .pointer (some ⟨w.heap.size, 0, none⟩), undef, .pointer (some ⟨w.heap.size + 1, 0, none⟩), .pointer (some ⟨w.heap.size + 1 + 1, 0, none⟩), .int .i64 0, undef, undef, .bool false, .pointer (some ⟨x, 0, none⟩), .bool false, .bool false, .pointer (some ⟨x, 0, none⟩), .int .i64 ((i : Int) + 1), .bool true, .bool false, .bool false, .pointer (some ⟨x, 0, none⟩), .int .i64 ((i : Int) + 1), .pointer (some ⟨g, i * 3, none⟩), .pointer (some ⟨g, i * 3, none⟩), .pointer (some ⟨g, i * 3 + 1, none⟩), .int .u8 1, .bool false, .pointer (some ⟨x, 0, none⟩), .int .i64 ((i : Int) + 1), .pointer (some ⟨g, i * 3, none⟩), .int .u8 t, .pointer (some ⟨g, i * 3, none⟩), .pointer (some ⟨g, i * 3 + 1, none⟩), undef, undef, undef, undef, undef, undef, undef, undef, undef, undef, undef, undef, undef, undef, undef, undef, undef], defers := [] } ∧ w' = w1.drew.setCell ⟨g, i * 3 + 1, none⟩ (.int .u8 t) | _ => False) ?_ ?_
  · have w0a : IntKind.wrap .i64 ((i : Int) + 1 - 1) = (i : Int) := by have h3 := HI.out.2.2.1; have h4 := HI.out.2.2.2.1; rw [IntKind.wrap_i64]; omega
    have d1 : decide (i < T.all.length) = true := decide_eq_true HI.out.2.2.2.1
    have d2 : (0 : Int) ≤ (i : Int) := by omega
    have d3 : (i : Int) < (T.all.length : Int) := by have := HI.out.2.2.2.1; omega
    refine wpIn_region_any (by kernel_rfl) ?_
    try (change wpAnyIn _ _ _ _ _ _ _ _ _ (World.drew _))
    refine wpAnyIn_take (i := 1) (v := ?_) rfl rfl (by kernel_rfl) (by kernel_rfl) (by kernel_rfl) (fun _ _ _ h => h) ⟨Or.inl ⟨by rfl, ?_⟩, fun _ => rfl⟩ ?_
    rotate_left
    · intro w
      go_simp
      try with_reducible rfl
    try simp only [Act.put, List.getElem_toArray, List.getElem_cons_zero, List.getElem_cons_succ, List.setIfInBounds_toArray, List.set_cons_zero, List.set_cons_succ]
    refine wpAnyIn_ready (rs := [0, 3]) (by kernel_rfl) (by simp) ?_
    refine AllReadyIn.cons rfl (fun K hK => ?_) ?_
    · go_simp
      refine hK _ _ ?_
      clear hK K
      try simp only [Act.put, List.getElem_toArray, List.getElem_cons_zero, List.getElem_cons_succ, List.setIfInBounds_toArray, List.set_cons_zero, List.set_cons_succ]
      refine wpAnyIn_ready (rs := [2, 3]) (by kernel_rfl) (by simp) ?_
      refine AllReadyIn.cons rfl (fun K hK => ?_) ?_
      · go_simp
        refine ⟨trivial, ?_⟩
        gi_at_call 63
        refine (callsIn_wide.2 (hat.out _ (Below.refl _ _).drew)).mono ?_
        rintro e w5 ⟨rfl, hw⟩
        obtain rfl := hw.symm
        refine hK _ _ ?_
        clear hK K
        try simp only [Act.put, List.getElem_toArray, List.getElem_cons_zero, List.getElem_cons_succ, List.setIfInBounds_toArray, List.set_cons_zero, List.set_cons_succ]
        refine wpAnyIn_ready (rs := [3]) (by kernel_rfl) (by simp) ?_
        refine AllReadyIn.cons rfl (fun K hK => ?_) ?_
        · go_simp
          refine hK _ _ ?_
          clear hK K
          try simp only [Act.put, List.getElem_toArray, List.getElem_cons_zero, List.getElem_cons_succ, List.setIfInBounds_toArray, List.set_cons_zero, List.set_cons_succ]
          refine wpAnyIn_ready (rs := [4]) (by kernel_rfl) (by simp) ?_
          refine AllReadyIn.cons rfl (fun K hK => ?_) ?_
          · go_simp
            refine hK _ _ ?_
            clear hK K
            try simp only [Act.put, List.getElem_toArray, List.getElem_cons_zero, List.getElem_cons_succ, List.setIfInBounds_toArray, List.set_cons_zero, List.set_cons_succ]
            refine wpAnyIn_ready (rs := [5]) (by kernel_rfl) (by simp) ?_
            refine AllReadyIn.cons rfl (fun K hK => ?_) ?_
            · go_simp
              refine hK _ _ ?_
              clear hK K
              try simp only [Act.put, List.getElem_toArray, List.getElem_cons_zero, List.getElem_cons_succ, List.setIfInBounds_toArray, List.set_cons_zero, List.set_cons_succ]
              refine wpAnyIn_ready (rs := [6]) (by kernel_rfl) (by simp) ?_
              refine AllReadyIn.cons rfl (fun K hK => ?_) ?_
              · go_simp
                refine hK _ _ ?_
                clear hK K
                try simp only [Act.put, List.getElem_toArray, List.getElem_cons_zero, List.getElem_cons_succ, List.setIfInBounds_toArray, List.set_cons_zero, List.set_cons_succ]
                refine wpAnyIn_done (by kernel_rfl) ?_ _
                exact ⟨rfl, rfl⟩
              exact AllReadyIn.nil
            exact AllReadyIn.nil
          exact AllReadyIn.nil
        exact AllReadyIn.nil
      refine AllReadyIn.cons rfl (fun K hK => ?_) ?_
      · go_simp
        refine hK _ _ ?_
        clear hK K
        try simp only [Act.put, List.getElem_toArray, List.getElem_cons_zero, List.getElem_cons_succ, List.setIfInBounds_toArray, List.set_cons_zero, List.set_cons_succ]
        refine wpAnyIn_ready (rs := [2]) (by kernel_rfl) (by simp) ?_
        refine AllReadyIn.cons rfl (fun K hK => ?_) ?_
        · go_simp
          refine ⟨trivial, ?_⟩
          gi_at_call 63
          refine (callsIn_wide.2 (hat.out _ (Below.refl _ _).drew)).mono ?_
          rintro e w5 ⟨rfl, hw⟩
          obtain rfl := hw.symm
          refine hK _ _ ?_
          clear hK K
          try simp only [Act.put, List.getElem_toArray, List.getElem_cons_zero, List.getElem_cons_succ, List.setIfInBounds_toArray, List.set_cons_zero, List.set_cons_succ]
          refine wpAnyIn_ready (rs := [4]) (by kernel_rfl) (by simp) ?_
          refine AllReadyIn.cons rfl (fun K hK => ?_) ?_
          · go_simp
            refine hK _ _ ?_
            clear hK K
            try simp only [Act.put, List.getElem_toArray, List.getElem_cons_zero, List.getElem_cons_succ, List.setIfInBounds_toArray, List.set_cons_zero, List.set_cons_succ]
            refine wpAnyIn_ready (rs := [5]) (by kernel_rfl) (by simp) ?_
            refine AllReadyIn.cons rfl (fun K hK => ?_) ?_
            · go_simp
              refine hK _ _ ?_
              clear hK K
              try simp only [Act.put, List.getElem_toArray, List.getElem_cons_zero, List.getElem_cons_succ, List.setIfInBounds_toArray, List.set_cons_zero, List.set_cons_succ]
              refine wpAnyIn_ready (rs := [6]) (by kernel_rfl) (by simp) ?_
              refine AllReadyIn.cons rfl (fun K hK => ?_) ?_
              · go_simp
                refine hK _ _ ?_
                clear hK K
                try simp only [Act.put, List.getElem_toArray, List.getElem_cons_zero, List.getElem_cons_succ, List.setIfInBounds_toArray, List.set_cons_zero, List.set_cons_succ]
                refine wpAnyIn_done (by kernel_rfl) ?_ _
                exact ⟨rfl, rfl⟩
              exact AllReadyIn.nil
            exact AllReadyIn.nil
          exact AllReadyIn.nil
        exact AllReadyIn.nil
      exact AllReadyIn.nil
    refine AllReadyIn.cons rfl (fun K hK => ?_) ?_
    · go_simp
      refine hK _ _ ?_
      clear hK K
      try simp only [Act.put, List.getElem_toArray, List.getElem_cons_zero, List.getElem_cons_succ, List.setIfInBounds_toArray, List.set_cons_zero, List.set_cons_succ]
      refine wpAnyIn_ready (rs := [0]) (by kernel_rfl) (by simp) ?_
      refine AllReadyIn.cons rfl (fun K hK => ?_) ?_
      · go_simp
        refine hK _ _ ?_
        clear hK K
        try simp only [Act.put, List.getElem_toArray, List.getElem_cons_zero, List.getElem_cons_succ, List.setIfInBounds_toArray, List.set_cons_zero, List.set_cons_succ]
        refine wpAnyIn_ready (rs := [2]) (by kernel_rfl) (by simp) ?_
        refine AllReadyIn.cons rfl (fun K hK => ?_) ?_
        · go_simp
          refine ⟨trivial, ?_⟩
          gi_at_call 63
          refine (callsIn_wide.2 (hat.out _ (Below.refl _ _).drew)).mono ?_
          rintro e w5 ⟨rfl, hw⟩
          obtain rfl := hw.symm
          refine hK _ _ ?_
          clear hK K
          try simp only [Act.put, List.getElem_toArray, List.getElem_cons_zero, List.getElem_cons_succ, List.setIfInBounds_toArray, List.set_cons_zero, List.set_cons_succ]
          refine wpAnyIn_ready (rs := [4]) (by kernel_rfl) (by simp) ?_
          refine AllReadyIn.cons rfl (fun K hK => ?_) ?_
          · go_simp
            refine hK _ _ ?_
            clear hK K
            try simp only [Act.put, List.getElem_toArray, List.getElem_cons_zero, List.getElem_cons_succ, List.setIfInBounds_toArray, List.set_cons_zero, List.set_cons_succ]
            refine wpAnyIn_ready (rs := [5]) (by kernel_rfl) (by simp) ?_
            refine AllReadyIn.cons rfl (fun K hK => ?_) ?_
            · go_simp
              refine hK _ _ ?_
              clear hK K
              try simp only [Act.put, List.getElem_toArray, List.getElem_cons_zero, List.getElem_cons_succ, List.setIfInBounds_toArray, List.set_cons_zero, List.set_cons_succ]
              refine wpAnyIn_ready (rs := [6]) (by kernel_rfl) (by simp) ?_
              refine AllReadyIn.cons rfl (fun K hK => ?_) ?_
              · go_simp
                refine hK _ _ ?_
                clear hK K
                try simp only [Act.put, List.getElem_toArray, List.getElem_cons_zero, List.getElem_cons_succ, List.setIfInBounds_toArray, List.set_cons_zero, List.set_cons_succ]
                refine wpAnyIn_done (by kernel_rfl) ?_ _
                exact ⟨rfl, rfl⟩
              exact AllReadyIn.nil
            exact AllReadyIn.nil
          exact AllReadyIn.nil
        exact AllReadyIn.nil
      exact AllReadyIn.nil
    exact AllReadyIn.nil
  intro e a' w' h
  cases e with
  | normal =>
    obtain ⟨rfl, rfl⟩ := h
    dsimp only
    have HPd := HP.out
    obtain ⟨hB, c0, c1, c2, s1⟩ := HB.out
    have hch : Chg w1 (w1.drew.setCell ⟨g, i * 3 + 1, none⟩ (.int .u8 t)) (fun k => k = g) := Chg.setCell (p := ⟨g, i * 3 + 1, none⟩) ((Chg.refl w1 (fun k => k = g)).drew) (.inl rfl) _
    have HT2 : TabAt (w1.drew.setCell ⟨g, i * 3 + 1, none⟩ (.int .u8 t)) x (T.put ((i : Int) + 1) t) F (.slice (some ⟨g, 0, none⟩) T.all.length cap) := HPd.move (fun _ _ => rfl) (Nat.le_refl _)
    replace c0 := hch.obj c0 (by omega)
    replace c1 := hch.obj c1 (by omega)
    replace c2 := hch.obj c2 (by omega)
    have hsz := hch.size
    have s2 : (w1.drew.setCell ⟨g, i * 3 + 1, none⟩ (.int .u8 t)).heap.size = w.heap.size + 3 := by rw [← s1]; simp [World.setCell]
    have hC := (Chg.of_below hB (fun k => F k)).trans hch (fun _ _ h => h) (fun k _ (e : k = g) => by rw [e]; exact HI.out.2.2.2.2)
    obtain ⟨w2, hw2⟩ : ∃ w2, w1.drew.setCell ⟨g, i * 3 + 1, none⟩ (.int .u8 t) = w2 := ⟨_, rfl⟩
    rw [hw2] at HT2 c0 c1 c2 s2 hC ⊢
    have k3 := one_cell c0
    have HS := Aside0.mk (And.intro HT2 (And.intro c0 (And.intro c1 (And.intro c2 (And.intro s2 hC)))))
    clear HPd HP HB hch hw2 HT2 c0 c1 c2 s1 s2 hB hC hat k0 k1 k2 q1 z1 hx0 hsz
    gi_wp2_with (fail)
    refine ⟨trivial, ?_⟩
    gi_at_call 92
    refine (callsIn_wide.2 (below_calls x _ _)).mono ?_
    clear k3
    rintro e W0 ⟨rfl, hW0⟩
    gi_wp2
    rw [← hW0]
    obtain ⟨HT2, c0, c1, c2, s2, hC⟩ := HS.out
    have hB2 : Below w2.heap.size w2 W0 := by rw [hW0]; exact ((Below.refl _ w2).alloc (Nat.le_refl _) _).alloc (by simp) _
    have bt0 : W0.heap[w2.heap.size]? = some (.cells #[.pointer (some ⟨x, 0, none⟩)] 46 (0, 0)) := by rw [hW0]; exact blk_alloc (blk_new w2 _) _
    have bi0 : W0.heap[w2.heap.size + 1]? = some (.cells #[.int .i64 ((i : Int) + 1)] 3 (0, 0)) := by
      have := blk_new (w2.alloc (.cells #[.pointer (some ⟨x, 0, none⟩)] 46)) (.cells #[.int .i64 ((i : Int) + 1)] 3)
      rw [World.size_alloc] at this
      rw [hW0]
      exact this
    have hsz0 : W0.heap.size = w.heap.size + 5 := by rw [hW0]; simp; omega
    replace c0 := blk_below c0 hB2
    replace c1 := blk_below c1 hB2
    replace c2 := blk_below c2 hB2
    have HT0 : TabIs W0 x (T.put ((i : Int) + 1) t) F := TabIs.below ⟨_, HT2⟩ hB2
    have hC0 : Chg w W0 F := hC.then_below hB2
    rw [s2] at bt0 bi0 ⊢
    clear HS HT2 hB2 hW0 s2 hC
    clear w2
    obtain ⟨hid, hOk, hln, hl, hgF⟩ := HI.out
    have hsu := T.put_same hid t
    have hOk0 := hsu.ok hOk
    have hid0 : (T.put ((i : Int) + 1) t).is ((i : Int) + 1) = true := by rw [hsu.is]; exact hid
    have hln0 : (T.put ((i : Int) + 1) t).all.length < 2147483648 := by rw [hsu.len]; exact hln
    have hbe := hsu.bel ((i : Int) + 1)
    generalize hT0 : T.put ((i : Int) + 1) t = T0 at HT0 hOk0 hid0 hln0 hbe
    replace hT0 := Aside0.mk hT0
    clear hsu
    refine rangeFunc_V rfl (by omega) (gf := 104) (lb := #[.pointer (some ⟨w.heap.size + 3 + 1, 0, none⟩), .pointer (some ⟨w.heap.size + 3, 0, none⟩)]) rfl trivial (enters_of Try.func104 (by kernel_rfl) rfl)
      (below1_seq x (w.heap.size + 3) (w.heap.size + 3 + 1) ((i : Int) + 1) T0 F F W0 HT0 hOk0 hid0 hln0 bt0 bi0 (fun h => by have := hFb.out _ h; omega) (fun h => by have := hFb.out _ h; omega) (fun k hk => by have := hFb.out k hk; omega) _ (by omega))
      (fun X Y k o hc hk hx ho hw => ((show Chg X Y _ from hc).block k (blk_lt hx) (fun hh => by
        obtain ⟨_, es, cl, he⟩ := hh
        rw [hx] at he
        cases he
        cases hw)).trans hx)
      (fun h1 h2 => h1.trans h2)
      (fun W l o o' hl hlo hr => ⟨by simp [World.putObj], fun k o2 hk ho2 hn => (World.putObj_heap_other (fun e => by
          subst e
          rw [hlo] at ho2
          obtain ⟨r, rfl⟩ := hr
          cases ho2
          exact hn r rfl)).trans ho2, fun T2 h2 h3 => ⟨T2, h2, h3.move (fun k hk => World.putObj_heap_other (by have := hFb.out k hk; omega)) (by simp [World.putObj])⟩⟩) (fun _ => rfl)
      (fun pre W => TabIs W x (T0.mark f t (TT.ids pre)) F ∧ Chg W0 W (fun k => F k ∨ W0.heap.size ≤ k))
      (fun _ _ _ => False)
      (fun s X Y row hs hg hr => ⟨hs.1.chg (Chg.of_grown hg) (fun k hk e => by have := (hr k e.symm).1; have := hFb.out k hk; omega), hs.2.trans (Chg.of_grown hg) (fun _ _ h => h) (fun k _ e => .inr (hr k e.symm).1)⟩)
      (fun _ _ _ _ _ hs _ _ => hs)
      (fun s X Y hs hc => ⟨hs.1.chg (show Chg X Y _ from hc) (fun k hk e => by have := e.1; have := hFb.out k hk; omega), hs.2.trans (show Chg X Y _ from hc) (fun _ _ h => h) (fun k _ e => .inr e.1)⟩)
      (fun _ _ _ _ hs _ => hs)
      ⟨HT0, Chg.refl _ _⟩
      (fun (a : T0.Id) a' W => a' = { tmps := #[.pointer (some ⟨x, 0, none⟩), .int .i64 ((i : Int) + 1), .int .u8 f, .int .u8 t, .pointer (some ⟨w.heap.size, 0, none⟩), undef, .pointer (some ⟨w.heap.size + 1, 0, none⟩), .pointer (some ⟨w.heap.size + 1 + 1, 0, none⟩), .int .i64 0, .int .i64 a.1, undef, .bool false, .pointer (some ⟨x, 0, none⟩), .bool false, .bool false, .pointer (some ⟨x, 0, none⟩), .int .i64 ((i : Int) + 1), .bool true, .bool false, .bool false, .pointer (some ⟨x, 0, none⟩), .int .i64 ((i : Int) + 1), .pointer (some ⟨g, i * 3, none⟩), .pointer (some ⟨g, i * 3, none⟩), .pointer (some ⟨g, i * 3 + 1, none⟩), .int .u8 1, .bool false, .pointer (some ⟨x, 0, none⟩), .int .i64 ((i : Int) + 1), .pointer (some ⟨g, i * 3, none⟩), .int .u8 t, .pointer (some ⟨g, i * 3, none⟩), .pointer (some ⟨g, i * 3 + 1, none⟩), .pointer (some ⟨x, 0, none⟩), .int .i64 ((i : Int) + 1), .func (.func 104) #[] #[.pointer (some ⟨w.heap.size + 3 + 1, 0, none⟩), .pointer (some ⟨w.heap.size + 3, 0, none⟩)], .int .i64 a.1, undef, undef, undef, undef, undef, undef, undef, undef, undef, undef, undef, undef, undef], defers := [] })
      (fun a a' _ X Y row hs hg hr => hs)
      ?assign ?body ?done ?stop
    case assign =>
      rintro l pre a W K hi hK
      gi_wp2
      exact hK _ _ (KeepsFrom.refl _ _) ⟨Nat.le_refl _, fun _ _ _ h _ => h, fun T2 h2 h3 => ⟨T2, h2, h3⟩⟩ hi rfl
    case body =>
      rintro l pre ⟨a, ha⟩ a' W hl2 ⟨r, hr⟩ ⟨hT, hCW⟩ rfl hlen
      dsimp only
      have hn1 : 1 ≤ 8 - 1 - 1 := by omega
      have ha1 := (T0.is_iff a).1 ha
      obtain ⟨j, rfl⟩ : ∃ j : Nat, a = (j : Int) + 1 := ⟨(a - 1).toNat, by omega⟩
      have hall : ∀ b ∈ TT.ids pre, T0.is b = true := fun b hb => by
        unfold TT.ids at hb
        obtain ⟨y, _, rfl⟩ := List.mem_map.1 hb
        exact y.2
      have hsu := T0.mark_same f t (TT.ids pre) T0 (SameUp.refl T0) hall
      have hmore := T0.mark_more f t (TT.ids pre) ((j : Int) + 1)
      generalize hT1 : T0.mark f t (TT.ids pre) = T1 at hT hsu hmore
      have hlj : j < T1.all.length := by rw [hsu.len]; omega
      rw [T1.at_nat hlj] at hmore
      obtain ⟨v1, hT⟩ := hT
      obtain ⟨g1, cap1, cur1, hv1, n1, n2, hgF1, hgx1, hg1, hsz1, y0, y1, y2⟩ := hT.one hlj
      subst hv1
      have hat := xat_calls x g1 T1.all.length cap1 W (blk_cell hT.blk 0) j hlj (by unfold maxLen at n2; omega)
      have q1 := (blk_cell hg1 (j * 3 + 1)).trans y1
      have z1 := blk_frozen hg1 (j * 3 + 1)
      have k3 := one_cell (hCW.obj c0 (fun e => by rcases e with e | e; have := hFb.out _ e; omega; omega))
      have k4 := one_cell (hCW.obj c1 (fun e => by rcases e with e | e; have := hFb.out _ e; omega; omega))
      have k5 := one_cell (hCW.obj c2 (fun e => by rcases e with e | e; have := hFb.out _ e; omega; omega))
      -- what a world that the round leaves is
      have hsame : ∀ W', Chg W W' (fun _ => False) → ¬ T1.all[j].f1 ≤ f → KeepsFrom W0.heap.size W W' ∧ KpB x F F T0 W W' ∧ TabIs W' x (T0.mark f t (TT.ids (pre ++ [⟨(j : Int) + 1, ha⟩]))) F ∧ Chg W0 W' (fun k => F k ∨ W0.heap.size ≤ k) := fun W' hc hs => by
        refine ⟨keepsFrom_chg2 hc (fun _ _ h => h.elim), ⟨hc.size, fun k o _ ho _ => hc.obj ho (fun h => h), fun T2 h2 h3 => ⟨T2, h2, h3.chg hc (fun _ _ h => h)⟩⟩, ?_, hCW.trans hc (fun _ _ h => h) (fun _ _ h => h.elim)⟩
        rw [TT.ids_more, hmore, if_neg hs]
        exact TabIs.chg ⟨_, hT⟩ hc (fun _ _ h => h)
      have hset : ∀ W', Chg W W' (fun _ => False) → T1.all[j].f1 ≤ f → KeepsFrom W0.heap.size W (W'.setCell ⟨g1, j * 3 + 1, none⟩ (.int .u8 t)) ∧ KpB x F F T0 W (W'.setCell ⟨g1, j * 3 + 1, none⟩ (.int .u8 t)) ∧ TabIs (W'.setCell ⟨g1, j * 3 + 1, none⟩ (.int .u8 t)) x (T0.mark f t (TT.ids (pre ++ [⟨(j : Int) + 1, ha⟩]))) F ∧ Chg W0 (W'.setCell ⟨g1, j * 3 + 1, none⟩ (.int .u8 t)) (fun k => F k ∨ W0.heap.size ≤ k) := fun W' hc hs => by
        have hset1 : Chg W (W'.setCell ⟨g1, j * 3 + 1, none⟩ (.int .u8 t)) (fun k => k = g1) := Chg.setCell (S := fun k => k = g1) (p := ⟨g1, j * 3 + 1, none⟩) (hc.mono (fun _ _ h => h.elim)) (.inl rfl) _
        have hT5 : TabAt W' x T1 F _ := hT.move (fun k hk => hc.block k (hT.bound k hk) (fun h => h)) hc.size
        have hput := hT5.put hlj (hc.obj hg1 (fun h => h)) hgx1 t
        refine ⟨keepsFrom_chg2 hset1 (fun k _ (e : k = g1) => by rw [e]; have := hFb.out _ hgF1; omega), ⟨hset1.size, fun k o hk ho _ => hset1.obj ho (fun (e : k = g1) => hk (by rw [e]; exact hgF1)), fun T2 h2 h3 => ?_⟩, ?_, hCW.trans hset1 (fun _ _ h => h) (fun k _ (e : k = g1) => .inl (by rw [e]; exact hgF1))⟩
        · obtain ⟨v2, h3⟩ := h3
          have hlj2 : j < T2.all.length := by rw [h2.len]; omega
          have h4 : TabAt W' x T2 F v2 := h3.move (fun k hk => hc.block k (h3.bound k hk) (fun h => h)) hc.size
          have hv2 : v2 = .slice (some ⟨g1, 0, none⟩) T1.all.length cap1 := by
            have e1 := h3.blk
            rw [hT.blk] at e1
            injection e1 with e1
            injection e1 with e1
            have e2 := congrArg (fun l => l[0]?) e1
            simp at e2
            exact e2.symm
          have hlen2 : T1.all.length = T2.all.length := by rw [hsu.len, h2.len]
          rw [hv2, hlen2] at h4
          exact ⟨_, h2.trans (T2.put_same (by rw [h2.is]; exact ha) t), _, h4.put hlj2 (hc.obj hg1 (fun h => h)) hgx1 t⟩
        · rw [TT.ids_more, hmore, if_pos hs]
          exact ⟨_, hput⟩
      replace hsame := Aside0.mk hsame
      replace hset := Aside0.mk hset
      clear hT hmore hsu hall hCW hg1 n1 n2 hsz1 y0 y1 y2 hT1 ha1 HT0 c0 c1 c2 hC0 bt0 bi0 hr
      generalize T1.all[j].f1 = st at q1 hsame hset
      clear hbe hOk0 hid0 hln0 hid hOk hln hl hgF hsz0 hlen
      by_cases hst : st ≤ f
      · have d1 : decide (st ≤ f) = true := decide_eq_true hst
        have HS := Aside0.mk hst
        clear hst
        gi_wp2_with (fail)
        refine ⟨trivial, ?_⟩
        gi_at_call 63
        refine (CallsIn.inRound l (callsIn_wide.2 hat)).mono ?_
        clear hat
        rintro e w' ⟨rfl, hw⟩
        obtain rfl := hw.symm
        gi_wp2
        refine wpIn_mono (Q := fun e a' w' => match e with | .normal => a' = { tmps := #[.pointer (some ⟨x, 0, none⟩), .int .i64 ((i : Int) + 1), .int .u8 f, .int .u8 t, .pointer (some ⟨w.heap.size, 0, none⟩), undef, .pointer (some ⟨w.heap.size + 1, 0, none⟩), .pointer (some ⟨w.heap.size + 1 + 1, 0, none⟩), .int .i64 0, .int .i64 ((j : Int) + 1), .pointer (some ⟨g1, j * 3, none⟩), .bool false, .pointer (some ⟨x, 0, none⟩), .bool false, .bool false, .pointer (some ⟨x, 0, none⟩), .int .i64 ((i : Int) + 1), .bool true, .bool false, .bool false, .pointer (some ⟨x, 0, none⟩), .int .i64 ((i : Int) + 1), .pointer (some ⟨g, i * 3, none⟩), .pointer (some ⟨g, i * 3, none⟩), .pointer (some ⟨g, i * 3 + 1, none⟩), .int .u8 1, .bool false, .pointer (some ⟨x, 0, none⟩), .int .i64 ((i : Int) + 1), .pointer (some ⟨g, i * 3, none⟩), .int .u8 t, .pointer (some ⟨g, i * 3, none⟩), .pointer (some ⟨g, i * 3 + 1, none⟩), .pointer (some ⟨x, 0, none⟩), .int .i64 ((i : Int) + 1), .func (.func 104) #[] #[.pointer (some ⟨w.heap.size + 3 + 1, 0, none⟩), .pointer (some ⟨w.heap.size + 3, 0, none⟩)], .int .i64 ((j : Int) + 1), .pointer (some ⟨x, 0, none⟩), .int .i64 ((j : Int) + 1), .pointer (some ⟨g1, j * 3, none⟩), .pointer (some ⟨g1, j * 3, none⟩), .pointer (some ⟨g1, j * 3, none⟩), .pointer (some ⟨g1, j * 3 + 1, none⟩), .int .u8 st, .int .u8 f, .bool true, undef, undef, undef, undef], defers := [] } ∧ w' = W.drew | _ => False) ?_ ?_
        · refine wpIn_region_any (by kernel_rfl) ?_
          try (change wpAnyIn _ _ _ _ _ _ _ _ _ (World.drew _))
          refine wpAnyIn_ready (rs := [0, 4]) (by kernel_rfl) (by simp) ?_
          refine AllReadyIn.cons rfl (fun K hK => ?_) ?_
          · go_simp
            refine hK _ _ ?_
            clear hK K
            try simp only [Act.put, List.getElem_toArray, List.getElem_cons_zero, List.getElem_cons_succ, List.setIfInBounds_toArray, List.set_cons_zero, List.set_cons_succ]
            refine wpAnyIn_ready (rs := [1, 4]) (by kernel_rfl) (by simp) ?_
            refine AllReadyIn.cons rfl (fun K hK => ?_) ?_
            · go_simp
              refine hK _ _ ?_
              clear hK K
              try simp only [Act.put, List.getElem_toArray, List.getElem_cons_zero, List.getElem_cons_succ, List.setIfInBounds_toArray, List.set_cons_zero, List.set_cons_succ]
              refine wpAnyIn_ready (rs := [2, 4]) (by kernel_rfl) (by simp) ?_
              refine AllReadyIn.cons rfl (fun K hK => ?_) ?_
              · go_simp
                refine hK _ _ ?_
                clear hK K
                try simp only [Act.put, List.getElem_toArray, List.getElem_cons_zero, List.getElem_cons_succ, List.setIfInBounds_toArray, List.set_cons_zero, List.set_cons_succ]
                refine wpAnyIn_ready (rs := [3, 4]) (by kernel_rfl) (by simp) ?_
                refine AllReadyIn.cons rfl (fun K hK => ?_) ?_
                · go_simp
                  refine hK _ _ ?_
                  clear hK K
                  try simp only [Act.put, List.getElem_toArray, List.getElem_cons_zero, List.getElem_cons_succ, List.setIfInBounds_toArray, List.set_cons_zero, List.set_cons_succ]
                  refine wpAnyIn_ready (rs := [4]) (by kernel_rfl) (by simp) ?_
                  refine AllReadyIn.cons rfl (fun K hK => ?_) ?_
                  · go_simp
                    refine hK _ _ ?_
                    clear hK K
                    try simp only [Act.put, List.getElem_toArray, List.getElem_cons_zero, List.getElem_cons_succ, List.setIfInBounds_toArray, List.set_cons_zero, List.set_cons_succ]
                    refine wpAnyIn_ready (rs := [5]) (by kernel_rfl) (by simp) ?_
                    refine AllReadyIn.cons rfl (fun K hK => ?_) ?_
                    · go_simp
                      refine hK _ _ ?_
                      clear hK K
                      try simp only [Act.put, List.getElem_toArray, List.getElem_cons_zero, List.getElem_cons_succ, List.setIfInBounds_toArray, List.set_cons_zero, List.set_cons_succ]
                      refine wpAnyIn_done (by kernel_rfl) ?_ _
                      exact ⟨rfl, rfl⟩
                    exact AllReadyIn.nil
                  exact AllReadyIn.nil
                refine AllReadyIn.cons rfl (fun K hK => ?_) ?_
                · go_simp
                  refine hK _ _ ?_
                  clear hK K
                  try simp only [Act.put, List.getElem_toArray, List.getElem_cons_zero, List.getElem_cons_succ, List.setIfInBounds_toArray, List.set_cons_zero, List.set_cons_succ]
                  refine wpAnyIn_ready (rs := [3]) (by kernel_rfl) (by simp) ?_
                  refine AllReadyIn.cons rfl (fun K hK => ?_) ?_
                  · go_simp
                    refine hK _ _ ?_
                    clear hK K
                    try simp only [Act.put, List.getElem_toArray, List.getElem_cons_zero, List.getElem_cons_succ, List.setIfInBounds_toArray, List.set_cons_zero, List.set_cons_succ]
                    refine wpAnyIn_ready (rs := [5]) (by kernel_rfl) (by simp) ?_
                    refine AllReadyIn.cons rfl (fun K hK => ?_) ?_
                    · go_simp
                      refine hK _ _ ?_
                      clear hK K
                      try simp only [Act.put, List.getElem_toArray, List.getElem_cons_zero, List.getElem_cons_succ, List.setIfInBounds_toArray, List.set_cons_zero, List.set_cons_succ]
                      refine wpAnyIn_done (by kernel_rfl) ?_ _
                      exact ⟨rfl, rfl⟩
                    exact AllReadyIn.nil
                  exact AllReadyIn.nil
                exact AllReadyIn.nil
              refine AllReadyIn.cons rfl (fun K hK => ?_) ?_
              · go_simp
                refine hK _ _ ?_
                clear hK K
                try simp only [Act.put, List.getElem_toArray, List.getElem_cons_zero, List.getElem_cons_succ, List.setIfInBounds_toArray, List.set_cons_zero, List.set_cons_succ]
                refine wpAnyIn_ready (rs := [2]) (by kernel_rfl) (by simp) ?_
                refine AllReadyIn.cons rfl (fun K hK => ?_) ?_
                · go_simp
                  refine hK _ _ ?_
                  clear hK K
                  try simp only [Act.put, List.getElem_toArray, List.getElem_cons_zero, List.getElem_cons_succ, List.setIfInBounds_toArray, List.set_cons_zero, List.set_cons_succ]
                  refine wpAnyIn_ready (rs := [3]) (by kernel_rfl) (by simp) ?_
                  refine AllReadyIn.cons rfl (fun K hK => ?_) ?_
                  · go_simp
                    refine hK _ _ ?_
                    clear hK K
                    try simp only [Act.put, List.getElem_toArray, List.getElem_cons_zero, List.getElem_cons_succ, List.setIfInBounds_toArray, List.set_cons_zero, List.set_cons_succ]
                    refine wpAnyIn_ready (rs := [5]) (by kernel_rfl) (by simp) ?_
                    refine AllReadyIn.cons rfl (fun K hK => ?_) ?_
                    · go_simp
                      refine hK _ _ ?_
                      clear hK K
                      try simp only [Act.put, List.getElem_toArray, List.getElem_cons_zero, List.getElem_cons_succ, List.setIfInBounds_toArray, List.set_cons_zero, List.set_cons_succ]
                      refine wpAnyIn_done (by kernel_rfl) ?_ _
                      exact ⟨rfl, rfl⟩
                    exact AllReadyIn.nil
                  exact AllReadyIn.nil
                exact AllReadyIn.nil
              exact AllReadyIn.nil
            refine AllReadyIn.cons rfl (fun K hK => ?_) ?_
            · go_simp
              refine hK _ _ ?_
              clear hK K
              try simp only [Act.put, List.getElem_toArray, List.getElem_cons_zero, List.getElem_cons_succ, List.setIfInBounds_toArray, List.set_cons_zero, List.set_cons_succ]
              refine wpAnyIn_ready (rs := [1]) (by kernel_rfl) (by simp) ?_
              refine AllReadyIn.cons rfl (fun K hK => ?_) ?_
              · go_simp
                refine hK _ _ ?_
                clear hK K
                try simp only [Act.put, List.getElem_toArray, List.getElem_cons_zero, List.getElem_cons_succ, List.setIfInBounds_toArray, List.set_cons_zero, List.set_cons_succ]
                refine wpAnyIn_ready (rs := [2]) (by kernel_rfl) (by simp) ?_
                refine AllReadyIn.cons rfl (fun K hK => ?_) ?_
                · go_simp
                  refine hK _ _ ?_
                  clear hK K
                  try simp only [Act.put, List.getElem_toArray, List.getElem_cons_zero, List.getElem_cons_succ, List.setIfInBounds_toArray, List.set_cons_zero, List.set_cons_succ]
                  refine wpAnyIn_ready (rs := [3]) (by kernel_rfl) (by simp) ?_
                  refine AllReadyIn.cons rfl (fun K hK => ?_) ?_
                  · go_simp
                    refine hK _ _ ?_
                    clear hK K
                    try simp only [Act.put, List.getElem_toArray, List.getElem_cons_zero, List.getElem_cons_succ, List.setIfInBounds_toArray, List.set_cons_zero, List.set_cons_succ]
                    refine wpAnyIn_ready (rs := [5]) (by kernel_rfl) (by simp) ?_
                    refine AllReadyIn.cons rfl (fun K hK => ?_) ?_
                    · go_simp
                      refine hK _ _ ?_
                      clear hK K
                      try simp only [Act.put, List.getElem_toArray, List.getElem_cons_zero, List.getElem_cons_succ, List.setIfInBounds_toArray, List.set_cons_zero, List.set_cons_succ]
                      refine wpAnyIn_done (by kernel_rfl) ?_ _
                      exact ⟨rfl, rfl⟩
                    exact AllReadyIn.nil
                  exact AllReadyIn.nil
                exact AllReadyIn.nil
              exact AllReadyIn.nil
            exact AllReadyIn.nil
          refine AllReadyIn.cons rfl (fun K hK => ?_) ?_
          · go_simp
            refine hK _ _ ?_
            clear hK K
            try simp only [Act.put, List.getElem_toArray, List.getElem_cons_zero, List.getElem_cons_succ, List.setIfInBounds_toArray, List.set_cons_zero, List.set_cons_succ]
            refine wpAnyIn_ready (rs := [0]) (by kernel_rfl) (by simp) ?_
            refine AllReadyIn.cons rfl (fun K hK => ?_) ?_
            · go_simp
              refine hK _ _ ?_
              clear hK K
              try simp only [Act.put, List.getElem_toArray, List.getElem_cons_zero, List.getElem_cons_succ, List.setIfInBounds_toArray, List.set_cons_zero, List.set_cons_succ]
              refine wpAnyIn_ready (rs := [1]) (by kernel_rfl) (by simp) ?_
              refine AllReadyIn.cons rfl (fun K hK => ?_) ?_
              · go_simp
                refine hK _ _ ?_
                clear hK K
                try simp only [Act.put, List.getElem_toArray, List.getElem_cons_zero, List.getElem_cons_succ, List.setIfInBounds_toArray, List.set_cons_zero, List.set_cons_succ]
                refine wpAnyIn_ready (rs := [2]) (by kernel_rfl) (by simp) ?_
                refine AllReadyIn.cons rfl (fun K hK => ?_) ?_
                · go_simp
                  refine hK _ _ ?_
                  clear hK K
                  try simp only [Act.put, List.getElem_toArray, List.getElem_cons_zero, List.getElem_cons_succ, List.setIfInBounds_toArray, List.set_cons_zero, List.set_cons_succ]
                  refine wpAnyIn_ready (rs := [3]) (by kernel_rfl) (by simp) ?_
                  refine AllReadyIn.cons rfl (fun K hK => ?_) ?_
                  · go_simp
                    refine hK _ _ ?_
                    clear hK K
                    try simp only [Act.put, List.getElem_toArray, List.getElem_cons_zero, List.getElem_cons_succ, List.setIfInBounds_toArray, List.set_cons_zero, List.set_cons_succ]
                    refine wpAnyIn_ready (rs := [5]) (by kernel_rfl) (by simp) ?_
                    refine AllReadyIn.cons rfl (fun K hK => ?_) ?_
                    · go_simp
                      refine hK _ _ ?_
                      clear hK K
                      try simp only [Act.put, List.getElem_toArray, List.getElem_cons_zero, List.getElem_cons_succ, List.setIfInBounds_toArray, List.set_cons_zero, List.set_cons_succ]
                      refine wpAnyIn_done (by kernel_rfl) ?_ _
                      exact ⟨rfl, rfl⟩
                    exact AllReadyIn.nil
                  exact AllReadyIn.nil
                exact AllReadyIn.nil
              exact AllReadyIn.nil
            exact AllReadyIn.nil
          exact AllReadyIn.nil
        intro e a' w' h
        cases e with
        | normal =>
          obtain ⟨rfl, rfl⟩ := h
          dsimp only
          gi_wp2
          exact hset.out _ ((Chg.refl W _).drew) HS.out
        | _ => exact h.elim
      · have d1 : decide (st ≤ f) = false := decide_eq_false hst
        have HS := Aside0.mk hst
        clear hst
        gi_wp2_with (fail)
        refine ⟨trivial, ?_⟩
        gi_at_call 63
        refine (CallsIn.inRound l (callsIn_wide.2 hat)).mono ?_
        clear hat
        rintro e w' ⟨rfl, hw⟩
        obtain rfl := hw.symm
        gi_wp2
        refine wpIn_mono (Q := fun e a' w' => match e with | .normal => a' = { tmps := #[.pointer (some ⟨x, 0, none⟩), .int .i64 ((i : Int) + 1), .int .u8 f, .int .u8 t, .pointer (some ⟨w.heap.size, 0, none⟩), undef, .pointer (some ⟨w.heap.size + 1, 0, none⟩), .pointer (some ⟨w.heap.size + 1 + 1, 0, none⟩), .int .i64 0, .int .i64 ((j : Int) + 1), .pointer (some ⟨g1, j * 3, none⟩), .bool false, .pointer (some ⟨x, 0, none⟩), .bool false, .bool false, .pointer (some ⟨x, 0, none⟩), .int .i64 ((i : Int) + 1), .bool true, .bool false, .bool false, .pointer (some ⟨x, 0, none⟩), .int .i64 ((i : Int) + 1), .pointer (some ⟨g, i * 3, none⟩), .pointer (some ⟨g, i * 3, none⟩), .pointer (some ⟨g, i * 3 + 1, none⟩), .int .u8 1, .bool false, .pointer (some ⟨x, 0, none⟩), .int .i64 ((i : Int) + 1), .pointer (some ⟨g, i * 3, none⟩), .int .u8 t, .pointer (some ⟨g, i * 3, none⟩), .pointer (some ⟨g, i * 3 + 1, none⟩), .pointer (some ⟨x, 0, none⟩), .int .i64 ((i : Int) + 1), .func (.func 104) #[] #[.pointer (some ⟨w.heap.size + 3 + 1, 0, none⟩), .pointer (some ⟨w.heap.size + 3, 0, none⟩)], .int .i64 ((j : Int) + 1), .pointer (some ⟨x, 0, none⟩), .int .i64 ((j : Int) + 1), .pointer (some ⟨g1, j * 3, none⟩), .pointer (some ⟨g1, j * 3, none⟩), .pointer (some ⟨g1, j * 3, none⟩), .pointer (some ⟨g1, j * 3 + 1, none⟩), .int .u8 st, .int .u8 f, .bool false, undef, undef, undef, undef], defers := [] } ∧ w' = W.drew | _ => False) ?_ ?_
        · refine wpIn_region_any (by kernel_rfl) ?_
          try (change wpAnyIn _ _ _ _ _ _ _ _ _ (World.drew _))
          refine wpAnyIn_ready (rs := [0, 4]) (by kernel_rfl) (by simp) ?_
          refine AllReadyIn.cons rfl (fun K hK => ?_) ?_
          · go_simp
            refine hK _ _ ?_
            clear hK K
            try simp only [Act.put, List.getElem_toArray, List.getElem_cons_zero, List.getElem_cons_succ, List.setIfInBounds_toArray, List.set_cons_zero, List.set_cons_succ]
            refine wpAnyIn_ready (rs := [1, 4]) (by kernel_rfl) (by simp) ?_
            refine AllReadyIn.cons rfl (fun K hK => ?_) ?_
            · go_simp
              refine hK _ _ ?_
              clear hK K
              try simp only [Act.put, List.getElem_toArray, List.getElem_cons_zero, List.getElem_cons_succ, List.setIfInBounds_toArray, List.set_cons_zero, List.set_cons_succ]
              refine wpAnyIn_ready (rs := [2, 4]) (by kernel_rfl) (by simp) ?_
              refine AllReadyIn.cons rfl (fun K hK => ?_) ?_
              · go_simp
                refine hK _ _ ?_
                clear hK K
                try simp only [Act.put, List.getElem_toArray, List.getElem_cons_zero, List.getElem_cons_succ, List.setIfInBounds_toArray, List.set_cons_zero, List.set_cons_succ]
                refine wpAnyIn_ready (rs := [3, 4]) (by kernel_rfl) (by simp) ?_
                refine AllReadyIn.cons rfl (fun K hK => ?_) ?_
                · go_simp
                  refine hK _ _ ?_
                  clear hK K
                  try simp only [Act.put, List.getElem_toArray, List.getElem_cons_zero, List.getElem_cons_succ, List.setIfInBounds_toArray, List.set_cons_zero, List.set_cons_succ]
                  refine wpAnyIn_ready (rs := [4]) (by kernel_rfl) (by simp) ?_
                  refine AllReadyIn.cons rfl (fun K hK => ?_) ?_
                  · go_simp
                    refine hK _ _ ?_
                    clear hK K
                    try simp only [Act.put, List.getElem_toArray, List.getElem_cons_zero, List.getElem_cons_succ, List.setIfInBounds_toArray, List.set_cons_zero, List.set_cons_succ]
                    refine wpAnyIn_ready (rs := [5]) (by kernel_rfl) (by simp) ?_
                    refine AllReadyIn.cons rfl (fun K hK => ?_) ?_
                    · go_simp
                      refine hK _ _ ?_
                      clear hK K
                      try simp only [Act.put, List.getElem_toArray, List.getElem_cons_zero, List.getElem_cons_succ, List.setIfInBounds_toArray, List.set_cons_zero, List.set_cons_succ]
                      refine wpAnyIn_done (by kernel_rfl) ?_ _
                      exact ⟨rfl, rfl⟩
                    exact AllReadyIn.nil
                  exact AllReadyIn.nil
                refine AllReadyIn.cons rfl (fun K hK => ?_) ?_
                · go_simp
                  refine hK _ _ ?_
                  clear hK K
                  try simp only [Act.put, List.getElem_toArray, List.getElem_cons_zero, List.getElem_cons_succ, List.setIfInBounds_toArray, List.set_cons_zero, List.set_cons_succ]
                  refine wpAnyIn_ready (rs := [3]) (by kernel_rfl) (by simp) ?_
                  refine AllReadyIn.cons rfl (fun K hK => ?_) ?_
                  · go_simp
                    refine hK _ _ ?_
                    clear hK K
                    try simp only [Act.put, List.getElem_toArray, List.getElem_cons_zero, List.getElem_cons_succ, List.setIfInBounds_toArray, List.set_cons_zero, List.set_cons_succ]
                    refine wpAnyIn_ready (rs := [5]) (by kernel_rfl) (by simp) ?_
                    refine AllReadyIn.cons rfl (fun K hK => ?_) ?_
                    · go_simp
                      refine hK _ _ ?_
                      clear hK K
                      try simp only [Act.put, List.getElem_toArray, List.getElem_cons_zero, List.getElem_cons_succ, List.setIfInBounds_toArray, List.set_cons_zero, List.set_cons_succ]
                      refine wpAnyIn_done (by kernel_rfl) ?_ _
                      exact ⟨rfl, rfl⟩
                    exact AllReadyIn.nil
                  exact AllReadyIn.nil
                exact AllReadyIn.nil
              refine AllReadyIn.cons rfl (fun K hK => ?_) ?_
              · go_simp
                refine hK _ _ ?_
                clear hK K
                try simp only [Act.put, List.getElem_toArray, List.getElem_cons_zero, List.getElem_cons_succ, List.setIfInBounds_toArray, List.set_cons_zero, List.set_cons_succ]
                refine wpAnyIn_ready (rs := [2]) (by kernel_rfl) (by simp) ?_
                refine AllReadyIn.cons rfl (fun K hK => ?_) ?_
                · go_simp
                  refine hK _ _ ?_
                  clear hK K
                  try simp only [Act.put, List.getElem_toArray, List.getElem_cons_zero, List.getElem_cons_succ, List.setIfInBounds_toArray, List.set_cons_zero, List.set_cons_succ]
                  refine wpAnyIn_ready (rs := [3]) (by kernel_rfl) (by simp) ?_
                  refine AllReadyIn.cons rfl (fun K hK => ?_) ?_
                  · go_simp
                    refine hK _ _ ?_
                    clear hK K
                    try simp only [Act.put, List.getElem_toArray, List.getElem_cons_zero, List.getElem_cons_succ, List.setIfInBounds_toArray, List.set_cons_zero, List.set_cons_succ]
                    refine wpAnyIn_ready (rs := [5]) (by kernel_rfl) (by simp) ?_
                    refine AllReadyIn.cons rfl (fun K hK => ?_) ?_
                    · go_simp
                      refine hK _ _ ?_
                      clear hK K
                      try simp only [Act.put, List.getElem_toArray, List.getElem_cons_zero, List.getElem_cons_succ, List.setIfInBounds_toArray, List.set_cons_zero, List.set_cons_succ]
                      refine wpAnyIn_done (by kernel_rfl) ?_ _
                      exact ⟨rfl, rfl⟩
                    exact AllReadyIn.nil
                  exact AllReadyIn.nil
                exact AllReadyIn.nil
              exact AllReadyIn.nil
            refine AllReadyIn.cons rfl (fun K hK => ?_) ?_
            · go_simp
              refine hK _ _ ?_
              clear hK K
              try simp only [Act.put, List.getElem_toArray, List.getElem_cons_zero, List.getElem_cons_succ, List.setIfInBounds_toArray, List.set_cons_zero, List.set_cons_succ]
              refine wpAnyIn_ready (rs := [1]) (by kernel_rfl) (by simp) ?_
              refine AllReadyIn.cons rfl (fun K hK => ?_) ?_
              · go_simp
                refine hK _ _ ?_
                clear hK K
                try simp only [Act.put, List.getElem_toArray, List.getElem_cons_zero, List.getElem_cons_succ, List.setIfInBounds_toArray, List.set_cons_zero, List.set_cons_succ]
                refine wpAnyIn_ready (rs := [2]) (by kernel_rfl) (by simp) ?_
                refine AllReadyIn.cons rfl (fun K hK => ?_) ?_
                · go_simp
                  refine hK _ _ ?_
                  clear hK K
                  try simp only [Act.put, List.getElem_toArray, List.getElem_cons_zero, List.getElem_cons_succ, List.setIfInBounds_toArray, List.set_cons_zero, List.set_cons_succ]
                  refine wpAnyIn_ready (rs := [3]) (by kernel_rfl) (by simp) ?_
                  refine AllReadyIn.cons rfl (fun K hK => ?_) ?_
                  · go_simp
                    refine hK _ _ ?_
                    clear hK K
                    try simp only [Act.put, List.getElem_toArray, List.getElem_cons_zero, List.getElem_cons_succ, List.setIfInBounds_toArray, List.set_cons_zero, List.set_cons_succ]
                    refine wpAnyIn_ready (rs := [5]) (by kernel_rfl) (by simp) ?_
                    refine AllReadyIn.cons rfl (fun K hK => ?_) ?_
                    · go_simp
                      refine hK _ _ ?_
                      clear hK K
                      try simp only [Act.put, List.getElem_toArray, List.getElem_cons_zero, List.getElem_cons_succ, List.setIfInBounds_toArray, List.set_cons_zero, List.set_cons_succ]
                      refine wpAnyIn_done (by kernel_rfl) ?_ _
                      exact ⟨rfl, rfl⟩
                    exact AllReadyIn.nil
                  exact AllReadyIn.nil
                exact AllReadyIn.nil
              exact AllReadyIn.nil
            exact AllReadyIn.nil
          refine AllReadyIn.cons rfl (fun K hK => ?_) ?_
          · go_simp
            refine hK _ _ ?_
            clear hK K
            try simp only [Act.put, List.getElem_toArray, List.getElem_cons_zero, List.getElem_cons_succ, List.setIfInBounds_toArray, List.set_cons_zero, List.set_cons_succ]
            refine wpAnyIn_ready (rs := [0]) (by kernel_rfl) (by simp) ?_
            refine AllReadyIn.cons rfl (fun K hK => ?_) ?_
            · go_simp
              refine hK _ _ ?_
              clear hK K
              try simp only [Act.put, List.getElem_toArray, List.getElem_cons_zero, List.getElem_cons_succ, List.setIfInBounds_toArray, List.set_cons_zero, List.set_cons_succ]
              refine wpAnyIn_ready (rs := [1]) (by kernel_rfl) (by simp) ?_
              refine AllReadyIn.cons rfl (fun K hK => ?_) ?_
              · go_simp
                refine hK _ _ ?_
                clear hK K
                try simp only [Act.put, List.getElem_toArray, List.getElem_cons_zero, List.getElem_cons_succ, List.setIfInBounds_toArray, List.set_cons_zero, List.set_cons_succ]
                refine wpAnyIn_ready (rs := [2]) (by kernel_rfl) (by simp) ?_
                refine AllReadyIn.cons rfl (fun K hK => ?_) ?_
                · go_simp
                  refine hK _ _ ?_
                  clear hK K
                  try simp only [Act.put, List.getElem_toArray, List.getElem_cons_zero, List.getElem_cons_succ, List.setIfInBounds_toArray, List.set_cons_zero, List.set_cons_succ]
                  refine wpAnyIn_ready (rs := [3]) (by kernel_rfl) (by simp) ?_
                  refine AllReadyIn.cons rfl (fun K hK => ?_) ?_
                  · go_simp
                    refine hK _ _ ?_
                    clear hK K
                    try simp only [Act.put, List.getElem_toArray, List.getElem_cons_zero, List.getElem_cons_succ, List.setIfInBounds_toArray, List.set_cons_zero, List.set_cons_succ]
                    refine wpAnyIn_ready (rs := [5]) (by kernel_rfl) (by simp) ?_
                    refine AllReadyIn.cons rfl (fun K hK => ?_) ?_
                    · go_simp
                      refine hK _ _ ?_
                      clear hK K
                      try simp only [Act.put, List.getElem_toArray, List.getElem_cons_zero, List.getElem_cons_succ, List.setIfInBounds_toArray, List.set_cons_zero, List.set_cons_succ]
                      refine wpAnyIn_done (by kernel_rfl) ?_ _
                      exact ⟨rfl, rfl⟩
                    exact AllReadyIn.nil
                  exact AllReadyIn.nil
                exact AllReadyIn.nil
              exact AllReadyIn.nil
            exact AllReadyIn.nil
          exact AllReadyIn.nil
        intro e a' w' h
        cases e with
        | normal =>
          obtain ⟨rfl, rfl⟩ := h
          dsimp only
          gi_wp2
          exact hsame.out _ ((Chg.refl W _).drew) HS.out
        | _ => exact h.elim
    case done =>
      rintro D xs W hD hxs ⟨hT, hCW⟩ hK
      rw [hxs, hbe] at hT
      gi_wp2
      refine ⟨by simp, .inl ⟨_, _, rfl, run_takeDeferred hK, ?_⟩⟩
      refine ⟨_, results_tmp rfl _ _ _, rfl, ?_, ?_⟩
      · rw [hT0.out]
        refine hT.move (fun k hk => ?_) (Nat.le_of_eq World.putObj_size.symm)
        have h9 := hFb.out k hk
        exact World.putObj_heap_other (by omega)
      · have hA : Chg w W F := hC0.trans hCW (fun _ _ h => h) (fun k hk e => by
          rcases e with e | e
          · exact e
          · omega)
        exact hA.trans (chg_put (S := fun k => W0.heap.size ≤ k) _ hD (fun k hk => hk)) (fun _ _ h => h) (fun k hk e => by have : W0.heap.size ≤ k := e; omega)
    case stop =>
      rintro D c pre W _ _ h _
      exact h.elim
  | _ => exact h.elim

theorem end_calls (x : Nat) (T : TT) (F : Nat → Prop) (w : World) (H : TabIs w x T F) (hOk : T.Ok) (hln : T.all.length < 2147483648) (id f t : Int) :
    Calls Try.prog 64 #[.pointer (some ⟨x, 0, none⟩), .int .i64 id, .int .u8 f, .int .u8 t] w fun e w' => e = .returned (.int .i64 (T.endd id f t).1) ∧ TabIs w' x (T.endd id f t).2 F ∧ Chg w w' F := by
  by_cases hb : T.is id = true ∧ (T.at id).f1 = 1
  · have he : T.endd id f t = (0, (T.put id t).mark f t (T.bel id)) := by unfold TT.endd; rw [if_pos hb.1, if_pos hb.2]
    rw [he]
    exact end_yes x T F w H hOk hln id f t hb.1 hb.2
  · refine (end_no x T F w H id f t hb).mono ?_
    rintro e w' ⟨rfl, b⟩
    have he : (T.endd id f t).2 = T := by
      unfold TT.endd
      split
      · split
        · rename_i h1 h2
          exact absurd ⟨h1, h2⟩ hb
        · rfl
      · rfl
    rw [he]
    exact ⟨rfl, H.below b, Chg.of_below b _⟩
end Go.Proofs.Ytljahhgankcalaa

/-! (*Table).Commit, Abort. -/
namespace Go.Proofs.Ytljahhgankcalaa
open Go.RowKit Go.Maps Go.MapKept Go.WideMaps Go.Shelf
open Go.Proofs.YtljahhgankcalaaW.PrintWords Go.Proofs.YtljahhgankcalaaW.PrintLast Go.Proofs.YtljahhgankcalaaW.PrintMore
set_option linter.unusedVariables false
set_option linter.unusedSimpArgs false

/-- A top transaction's number is given. -/
def TT.num (T : TT) (k : Int) : TT := { all := T.all.set (k - 1).toNat { T.at k with f2 := T.last + 1 }, last := T.last + 1 }
def TT.commit (T : TT) (id : Int) : Int × TT :=
  if (T.endd id 1 2).1 = 0 then (0, if ((T.endd id 1 2).2.at id).f0 = 0 then (T.endd id 1 2).2.num id else (T.endd id 1 2).2) else T.endd id 1 2
def TT.abort (T : TT) (id : Int) : Int × TT := T.endd id 2 3
theorem TT.endd_same (T : TT) (hO : T.Ok) (id f t : Int) : SameUp T (T.endd id f t).2 := by
  unfold TT.endd
  split
  · rename_i hi
    split
    · refine TT.mark_same f t _ _ (T.put_same hi t) (fun k hk => ?_)
      unfold TT.bel at hk
      have h1 := (T.is_iff id).1 hi
      have key : ∀ (d : Nat) (k0 : Int), 1 ≤ k0 → k0 + d ≤ T.all.length + 1 → ∀ k ∈ T.belc id d k0, T.is k = true := by
        intro d
        induction d with
        | zero => intro k0 _ _ k hk; simp [TT.belc] at hk
        | succ d ih =>
          intro k0 h2 h3 k hk
          simp only [TT.belc] at hk
          split at hk
          · rcases List.mem_cons.1 hk with rfl | hk
            · exact (T.is_iff _).2 (by omega)
            · exact ih (k0 + 1) (by omega) (by omega) k hk
          · exact ih (k0 + 1) (by omega) (by omega) k hk
      exact key _ _ (by omega) (by omega) k hk
    · exact SameUp.refl T
  · exact SameUp.refl T
theorem TT.endd_is {T : TT} {id f t : Int} (h : (T.endd id f t).1 = 0) : T.is id = true := by
  unfold TT.endd at h
  split at h
  · assumption
  · simp at h
theorem TT.Ok.endd {T : TT} (h : T.Ok) (id f t : Int) : (T.endd id f t).2.Ok := (T.endd_same h id f t).ok h
theorem TT.Ok.num {T : TT} (h : T.Ok) {k : Int} (hk : T.is k = true) : (T.num k).Ok := by
  have h1 := (T.is_iff k).1 hk
  obtain ⟨i, rfl⟩ : ∃ i : Nat, k = (i : Int) + 1 := ⟨(k - 1).toNat, by omega⟩
  have hi : i < T.all.length := by omega
  refine ⟨fun j hj => ?_, by have := h.last0; simp only [TT.num]; omega⟩
  have hall : (T.num ((i : Int) + 1)).all = T.all.set i { T.all[i] with f2 := T.last + 1 } := by
    unfold TT.num
    rw [T.at_nat hi, show ((i : Int) + 1 - 1).toNat = i from by omega]
  have hj2 : j < T.all.length := by rw [hall] at hj; simpa using hj
  have := h.par j hj2
  have he : (T.num ((i : Int) + 1)).all[j].f0 = T.all[j].f0 := by
    simp only [hall]
    rw [List.getElem_set]
    split
    · rename_i e
      subst e
      rfl
    · rfl
  rw [he]
  exact this
theorem TT.Ok.commit {T : TT} (h : T.Ok) (id : Int) : (T.commit id).2.Ok := by
  unfold TT.commit
  split
  · rename_i h0
    split
    · exact (h.endd id 1 2).num (by rw [(T.endd_same h id 1 2).is]; exact TT.endd_is h0)
    · exact h.endd id 1 2
  · exact h.endd id 1 2
theorem TT.Ok.abort {T : TT} (h : T.Ok) (id : Int) : (T.abort id).2.Ok := h.endd id 2 3

theorem TabAt.num {w : World} {x g cap : Nat} {T : TT} {F : Nat → Prop} {cur : Array Value} (H : TabAt w x T F (.slice (some ⟨g, 0, none⟩) T.all.length cap)) {i : Nat} (hi : i < T.all.length) (hg : w.heap[g]? = some (.cells cur 115 (0, 0)))
    (hgx : g ≠ x) : TabAt ((w.setCell ⟨x, 1, none⟩ (.int .i64 (T.last + 1))).setCell ⟨g, i * 3 + 2, none⟩ (.int .i64 (T.last + 1))) x (T.num ((i : Int) + 1)) F (.slice (some ⟨g, 0, none⟩) T.all.length cap) := by
  have hg0 := blk_far hg (p := ⟨x, 1, none⟩) hgx (.int .i64 (T.last + 1))
  have hx1 : (w.setCell ⟨x, 1, none⟩ (.int .i64 (T.last + 1))).heap[x]? = some (.cells #[.slice (some ⟨g, 0, none⟩) T.all.length cap, .int .i64 (T.last + 1)] 113 (0, 0)) := blk_put H.blk 1 _ rfl
  have hR1 := Kd.R_far H.all (p := ⟨x, 1, none⟩) (fun k hk => hk.2) (.int .i64 (T.last + 1))
  obtain ⟨w1, hw1⟩ : ∃ w1, w.setCell ⟨x, 1, none⟩ (.int .i64 (T.last + 1)) = w1 := ⟨_, rfl⟩
  have hs1 : w1.heap.size = w.heap.size := by rw [← hw1]; simp [World.setCell]
  rw [hw1] at hg0 hx1 hR1 ⊢
  have hch : Chg w1 (w1.setCell ⟨g, i * 3 + 2, none⟩ (.int .i64 (T.last + 1))) (fun k => k = g) := Chg.setCell (S := fun k => k = g) (p := ⟨g, i * 3 + 2, none⟩) (Chg.refl w1 (fun k => k = g)) (.inl rfl) _
  have hg1 := blk_set hg0 (i * 3 + 2) (.int .i64 (T.last + 1))
  have hall : (T.num ((i : Int) + 1)).all = T.all.set i { T.all[i] with f2 := T.last + 1 } := by
    unfold TT.num
    rw [T.at_nat hi, show ((i : Int) + 1 - 1).toNat = i from by omega]
  obtain ⟨g2, cap2, cur2, c, hv, _, _, hgb, n1, n2, hsz, hM, hcl, hcell⟩ := R_elem hR1 hi
  injection hv with hv1 _ hv3
  injection hv1 with hv1
  injection hv1 with hv1
  subst hv1
  subst hv3
  rw [hg0] at hgb
  injection hgb with hgb
  injection hgb with hgb
  subst hgb
  obtain rfl := PSightDead.k115_openM hM
  have h3 : kOne.sz = 3 := rfl
  rw [h3] at hsz
  have h0 := hcell 0 _ rfl
  have h2 := hcell 1 _ rfl
  rw [h3] at h0 h2
  refine ⟨?_, ?_, H.hF, fun k hk => by have := H.bound k hk; rw [← hs1] at this; simpa [World.setCell] using this⟩
  · exact hch.obj hx1 (fun e => hgx e.symm)
  · rw [hall]
    refine R_upd hR1 hi rfl hg0 hch (fun k _ hk => hk) hg1 (by simp) (fun k hk => ?_) (PSightDead.k115_mkM _ _ _ { T.all[i] with f2 := T.last + 1 }) (fun j hj => ?_)
    · rw [Array.getElem?_setIfInBounds_ne]
      rw [h3] at hk
      omega
    · rw [h3] at hj ⊢
      match j, hj with
      | 0, _ =>
        rw [Array.getElem?_setIfInBounds_ne (by omega)]
        exact h0
      | 1, _ =>
        rw [Array.getElem?_setIfInBounds_ne (by omega)]
        exact h2
      | 2, _ =>
        rw [Array.getElem?_setIfInBounds_self]
        rw [if_pos (by rw [hsz]; omega)]
        rfl

theorem abort_calls (x : Nat) (T : TT) (F : Nat → Prop) (w : World) (H : TabIs w x T F) (hOk : T.Ok) (hln : T.all.length < 2147483648) (id : Int) :
    Calls Try.prog 25 #[.pointer (some ⟨x, 0, none⟩), .int .i64 id] w fun e w' => e = .returned (.int .i64 (T.abort id).1) ∧ TabIs w' x (T.abort id).2 F ∧ Chg w w' F := by
  have he := end_calls x T F w H hOk hln id 2 3
  unfold TT.abort
  generalize T.endd id 2 3 = r at he ⊢
  clear H
  go_enter Try.func25, Try.ntmps25
  go_wp2_with (go_at_call 64; refine he.mono ?_; clear he; rintro e w1 ⟨rfl, h1, h2⟩)
  go_ret
  exact ⟨rfl, h1, h2⟩

set_option maxRecDepth 100000 in
theorem commit_calls (x : Nat) (T : TT) (F : Nat → Prop) (w : World) (H : TabIs w x T F) (hOk : T.Ok) (hln : T.all.length < 2147483648) (hla : T.last < 2147483648) (id : Int) :
    Calls Try.prog 24 #[.pointer (some ⟨x, 0, none⟩), .int .i64 id] w fun e w' => e = .returned (.int .i64 (T.commit id).1) ∧ TabIs w' x (T.commit id).2 F ∧ Chg w w' F := by
  have he := end_calls x T F w H hOk hln id 1 2
  have hsu := T.endd_same hOk id 1 2
  have his := fun h => TT.endd_is (T := T) (id := id) (f := 1) (t := 2) h
  unfold TT.commit
  generalize hr : T.endd id 1 2 = r at he hsu his ⊢
  obtain ⟨r1, r2⟩ := r
  simp only at he hsu his ⊢
  clear H hr
  by_cases h0 : r1 = 0
  · subst h0
    rw [if_pos rfl]
    have hi := his rfl
    have hi2 := (T.is_iff id).1 hi
    obtain ⟨i, rfl⟩ : ∃ i : Nat, id = (i : Int) + 1 := ⟨(id - 1).toNat, by omega⟩
    have hl : i < r2.all.length := by rw [hsu.len]; omega
    have hat : r2.at ((i : Int) + 1) = r2.all[i] := r2.at_nat hl
    rw [hat]
    have hla2 : r2.last < 2147483648 := by rw [hsu.2]; exact hla
    have hla0 : 0 ≤ r2.last := by rw [hsu.2]; exact hOk.last0
    have HX := Aside0.mk (And.intro hl (And.intro hla2 hla0))
    by_cases hp : r2.all[i].f0 = 0
    · rw [if_pos hp]
      clear hsu his hi hi2 hat hla hla2 hla0 hln hOk
      go_enter Try.func24, Try.ntmps24
      go_wp2_with fail
      refine he.mono ?_
      clear he
      rintro e w1 ⟨rfl, h1, hc1⟩
      obtain ⟨v, h1⟩ := h1
      obtain ⟨g, cap, cur, rfl, n1, n2, hgF, hgx, hg, hsz, y0, y1, y2⟩ := h1.one hl
      have hat := xat_calls x g r2.all.length cap w1 (blk_cell h1.blk 0) i hl (by unfold maxLen at n2; omega)
      have q0 := (blk_cell hg (i * 3)).trans y0
      have q2 := (blk_cell hg (i * 3 + 2)).trans y2
      have z2 := blk_frozen hg (i * 3 + 2)
      have k1 := blk_cell h1.blk 1
      have zx := blk_frozen h1.blk 1
      simp at k1
      rw [hp] at q0
      have hnum := Aside0.mk (h1.num hl hg hgx)
      have hch := Aside0.mk (And.intro hc1 (And.intro hgF (And.intro h1.hF hgx)))
      have hxne : x ≠ g := fun e => hgx e.symm
      have hwr : wrap64 (r2.last + 1) = r2.last + 1 := by have := HX.out.2; unfold wrap64; omega
      have hwr2 : IntKind.wrap .i64 (r2.last + 1) = r2.last + 1 := by have := HX.out.2; rw [IntKind.wrap_i64]; omega
      clear h1 hg n1 n2 hsz y0 y1 y2 hc1 hp
      go_wp2_with (go_at_call 63; refine hat.mono ?_; clear hat; rintro e w' ⟨rfl, hw⟩; obtain rfl := hw.symm)
      go_ret
      refine ⟨rfl, ⟨_, hnum.out⟩, ?_⟩
      obtain ⟨c1, c2, c3, c4⟩ := hch.out
      exact (c1.setCell (p := ⟨x, 1, none⟩) (.inl c3) _).setCell (p := ⟨g, i * 3 + 2, none⟩) (.inl c2) _
    · rw [if_neg hp]
      clear hsu his hi hi2 hat hla hla2 hla0 hln hOk
      go_enter Try.func24, Try.ntmps24
      go_wp2_with fail
      refine he.mono ?_
      clear he
      rintro e w1 ⟨rfl, h1, hc1⟩
      have hh := Aside0.mk (And.intro h1 hc1)
      obtain ⟨v, h1⟩ := h1
      obtain ⟨g, cap, cur, rfl, n1, n2, hgF, hgx, hg, hsz, y0, y1, y2⟩ := h1.one hl
      have hat := xat_calls x g r2.all.length cap w1 (blk_cell h1.blk 0) i hl (by unfold maxLen at n2; omega)
      have q0 := (blk_cell hg (i * 3)).trans y0
      have d0 : (r2.all[i].f0 == 0) = false := beq_eq_false_iff_ne.2 hp
      clear h1 hg n1 n2 hsz y0 y1 y2 hc1
      go_wp2_with (go_at_call 63; refine hat.mono ?_; clear hat; rintro e w' ⟨rfl, hw⟩; obtain rfl := hw.symm)
      go_ret
      exact ⟨rfl, hh.out.1, hh.out.2⟩
  · rw [if_neg h0]
    have d0 : (r1 == 0) = false := beq_eq_false_iff_ne.2 h0
    have d1 : (r1 != 0) = true := by rw [bne, d0]; rfl
    clear hsu his
    go_enter Try.func24, Try.ntmps24
    go_wp2_with (go_at_call 64; refine he.mono ?_; clear he; rintro e w1 ⟨rfl, h1, h2⟩)
    go_ret
    exact ⟨rfl, h1, h2⟩
end Go.Proofs.Ytljahhgankcalaa

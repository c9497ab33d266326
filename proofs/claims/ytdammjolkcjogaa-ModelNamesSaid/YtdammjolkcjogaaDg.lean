import Derived.Test.YtdammjolkcjogaaRw
import Derived.Test.YtdammjolkcjogaaProg
import Derived.Test.YtdammjolkcjogaaWNEv
import Derived.Test.YtdammjolkcjogaaWMore
import Derived.Deep.LoopGhost
import Derived.Shelf.Abstract
import Derived.Lib.SliceRun
/-! slices.IndexFunc and slices.DeleteFunc over ints, whatever predicate that only reads. -/
namespace Go.Proofs.Ytdammjolkcjogaa
open Go.RowKit Go.Maps Go.MapKept Go.Shelf
open Go.Proofs.YtdammjolkcjogaaW.PrintWords Go.Proofs.YtdammjolkcjogaaW.PrintLast Go.Proofs.YtdammjolkcjogaaW.PrintMore
set_option linter.unusedVariables false
set_option linter.unusedSimpArgs false

/-- The first place from i on at which p holds, or -1. -/
def firstHit (p : Int → Bool) : List Int → Int → Int
  | [], _ => -1
  | x :: l, i => if p x then i else firstHit p l (i + 1)
theorem firstHit_at (p : Int → Bool) : ∀ (l : List Int) (i : Int) (k : Nat) (hk : k < l.length), (∀ j (hj : j < l.length), j < k → p l[j] = false) → p l[k] = true → firstHit p l i = i + k
  | t :: l, i, 0, hk, _, h0 => by
    have h0 : p t = true := h0
    simp [firstHit, h0]
  | t :: l, i, k + 1, hk, hl, h0 => by
    have h1 : p t = false := hl 0 (by simp) (by omega)
    simp only [firstHit, h1]
    rw [if_neg (by simp), firstHit_at p l (i + 1) k (by simpa using hk) (fun j hj hjk => hl (j + 1) (by simp; omega) (by omega)) h0]
    omega
theorem firstHit_none (p : Int → Bool) : ∀ (l : List Int) (i : Int), (∀ j (hj : j < l.length), p l[j] = false) → firstHit p l i = -1
  | [], _, _ => rfl
  | t :: l, i, h => by
    have h1 : p t = false := h 0 (by simp)
    simp only [firstHit, h1]
    rw [if_neg (by simp)]
    exact firstHit_none p l (i + 1) (fun j hj => h (j + 1) (by simp; omega))
theorem firstHit_spec (p : Int → Bool) (l : List Int) : (firstHit p l 0 = -1 ∧ ∀ j (hj : j < l.length), p l[j] = false) ∨ ∃ k, ∃ hk : k < l.length, firstHit p l 0 = k ∧ p l[k] = true ∧ ∀ j (hj : j < l.length), j < k → p l[j] = false := by
  by_cases h : ∃ k, ∃ hk : k < l.length, p l[k] = true ∧ ∀ j (hj : j < l.length), j < k → p l[j] = false
  · obtain ⟨k, hk, h1, h2⟩ := h
    exact .inr ⟨k, hk, by rw [firstHit_at p l 0 k hk h2 h1]; omega, h1, h2⟩
  · have hall : ∀ n, ∀ j (hj : j < l.length), j < n → p l[j] = false := by
      intro n
      induction n with
      | zero => intro j hj h0; omega
      | succ n ih =>
        intro j hj hn
        cases hq : p l[j] with
        | false => rfl
        | true => exact (h ⟨j, hj, hq, fun i hi hij => ih i hi (by omega)⟩).elim
    exact .inl ⟨firstHit_none p l 0 (fun j hj => hall (j + 1) j hj (by omega)), fun j hj => hall (j + 1) j hj (by omega)⟩

/-- The cells of an own row of ints. -/
theorem int_cells {w : World} {ok : Nat → Prop} {v : Value} {xs : List Int} {e base : Nat} (h : Kd.R (Kd.int .i64) e w base ok v xs) {i : Nat} (hi : i < xs.length) : ∃ g cap, v = .slice (some ⟨g, 0, none⟩) xs.length cap ∧ xs.length ≤ cap ∧ cap ≤ maxLen ∧ w.cell? ⟨g, i, none⟩ = some (.int .i64 xs[i]) ∧ (∀ j, w.frozen? ⟨g, j, none⟩ = false) := by
  obtain ⟨g, cap, cur, c, hv, _, _, hg, h1, h2, _, hM, _, hc⟩ := R_elem h hi
  have hc0 : c = [.int .i64 xs[i]] := hM
  subst hc0
  have := hc 0 _ rfl
  exact ⟨g, cap, hv, h1, h2, (blk_cell hg _).trans (by simpa [Kd.int, Kd.scalar] using this), fun j => blk_frozen hg j⟩
theorem int_cell_at {w : World} {ok : Nat → Prop} {xs : List Int} {e base b n cap : Nat} (h : Kd.R (Kd.int .i64) e w base ok (.slice (some ⟨b, 0, none⟩) n cap) xs) {i : Nat} (hi : i < xs.length) : w.cell? ⟨b, i, none⟩ = some (.int .i64 xs[i]) ∧ (∀ j, w.frozen? ⟨b, j, none⟩ = false) := by
  obtain ⟨g, cap', hv, _, _, h1, h2⟩ := int_cells h hi
  injection hv with h3 _ _
  injection h3 with h3
  injection h3 with h3
  subst h3
  exact ⟨h1, h2⟩
theorem int_slice {w : World} {ok : Nat → Prop} {v : Value} {xs : List Int} {e base : Nat} (h : Kd.R (Kd.int .i64) e w base ok v xs) : ∃ a c, v = .slice a xs.length c ∧ xs.length ≤ c ∧ xs.length ≤ 9223372036854775807 := by
  obtain ⟨a, c, h1, h2, h3⟩ := Kd.R_reads h
  exact ⟨a, c, h1, h2, h3.2.1⟩

/-- A predicate that only reads: what it says of x, in every world that is w but for the blocks of S; x among xs. -/
def Reads (g : Nat) (lb : Array Value) (p : Int → Bool) (w : World) (S : Nat → Prop) (xs : List Int) : Prop :=
  ∀ (W : World) (x : Int), x ∈ xs → Chg w W S → Calls Try.prog g (#[.int .i64 x] ++ lb) W fun e w' => e = .returned (.bool (p x)) ∧ ∃ q, w' = W.drewN q

set_option maxRecDepth 100000 in
set_option maxHeartbeats 1000000 in
theorem indexInt_calls (g : Nat) (lb : Array Value) (p : Int → Bool) (eg : ∀ args w, (callFunc g args).run Try.prog w = .ok (.enter g args) w) (v : Value) (xs : List Int) (ok S : Nat → Prop) (w : World) (hr : Kd.R (Kd.int .i64) 3 w 0 ok v xs) (hp : Reads g lb p w S xs) :
    Calls Try.prog 47 #[v, .func (.func g) #[] lb] w fun e w' => e = .returned (.int .i64 (firstHit p xs 0)) ∧ ∃ q, w' = w.drewN q := by
  obtain ⟨a, c, rfl, hc, hn⟩ := int_slice hr
  have HR := Aside0.mk hr
  have HP := Aside0.mk hp
  clear hr hp
  go_enter Try.func47, Try.ntmps47
  go_wp2
  go_loopg [5, 8] xs.length (fun gg _ v8 wr => ∃ k : Nat, k ≤ xs.length ∧ xs.length - k ≤ gg ∧ v8 = .int .i64 k ∧ Aside0 (∃ q, wr = w.drewN q) ∧ Aside0 (∀ j (hj : j < xs.length), j < k → p xs[j] = false))
  case atStart => exact ⟨0, Nat.zero_le _, by omega, rfl, ⟨0, rfl⟩, ⟨fun j hj h => absurd h (Nat.not_lt_zero _)⟩⟩
  case round =>
    obtain ⟨k, hk, hg, rfl, HW, HF⟩ := hrel
    by_cases hlt : k < xs.length
    · have b1 : decide ((k : Int) < (xs.length : Int)) = true := decide_eq_true (by omega)
      have b2 : decide (k < xs.length) = true := decide_eq_true hlt
      have hr1 : Kd.R (Kd.int .i64) 3 wr 0 ok (.slice a xs.length c) xs := by
        obtain ⟨q, rfl⟩ := HW.out
        exact Kd.R_drewN HR.out q
      obtain ⟨b, cap, hv, _, _, hcell, _⟩ := int_cells hr1 hlt
      have hcall := HP.out wr xs[k] (List.getElem_mem hlt) (by obtain ⟨q, rfl⟩ := HW.out; exact (Chg.refl w S).drewN q)
      obtain ⟨rfl, rfl⟩ : a = some ⟨b, 0, none⟩ ∧ c = cap := by
        injection hv with h1 _ h3
        exact ⟨h1, h3⟩
      clear hv hr1
      cases hq : p xs[k] with
      | true =>
        rw [hq] at hcall
        have hres := Aside0.mk (firstHit_at p xs 0 k hlt HF.out hq)
        clear hq
        generalize xs[k] = u at *
        go_wp2_with (go_at_fn g; refine hcall.mono ?_; rintro e w1 ⟨rfl, hw1⟩; replace hw1 := Aside0.mk hw1)
        go_ret
        refine ⟨by rw [hres.out]; simp, ?_⟩
        obtain ⟨q, rfl⟩ := HW.out
        obtain ⟨q1, rfl⟩ := hw1.out
        exact ⟨q + q1, by simp [World.drewN, Nat.add_assoc]⟩
      | false =>
        rw [hq] at hcall
        have hF2 : Aside0 (∀ j (hj : j < xs.length), j < k + 1 → p xs[j] = false) := ⟨fun j hj hjk => by
          by_cases e : j = k
          · subst e; exact hq
          · exact HF.out j hj (by omega)⟩
        clear hq
        generalize xs[k] = u at *
        go_wp2_with (go_at_fn g; refine hcall.mono ?_; rintro e w1 ⟨rfl, hw1⟩; replace hw1 := Aside0.mk hw1)
        go_roundg (xs.length - (k + 1))
        case measure => omega
        case rel => exact ⟨k + 1, by omega, by omega, by go_num, ⟨by
          obtain ⟨q, rfl⟩ := HW.out
          obtain ⟨q1, rfl⟩ := hw1.out
          exact ⟨q + q1, by simp [World.drewN, Nat.add_assoc]⟩⟩, hF2⟩
    · have b1 : decide ((k : Int) < (xs.length : Int)) = false := decide_eq_false (by omega)
      have hres := Aside0.mk (firstHit_none p xs 0 (fun j hj => HF.out j hj (by omega)))
      go_wp2
      go_ret
      exact ⟨by rw [hres.out]; rfl, HW.out⟩

/-- DeleteFunc's loop: i elements are kept of the first j; what stands from j on stands as it stood. -/
structure DelInv (p : Int → Bool) (xs ys : List Int) (i j : Nat) : Prop where
  len : ys.length = xs.length
  lt : i < j
  le : j ≤ xs.length
  pre : ys.take i = (xs.take j).filter (fun x => !p x)
  rest : ∀ k, j ≤ k → ys[k]? = xs[k]?
theorem take_filter_all {p : Int → Bool} {xs : List Int} {k : Nat} (h : ∀ j (hj : j < xs.length), j < k → p xs[j] = false) : (xs.take k).filter (fun x => !p x) = xs.take k := by
  rw [List.filter_eq_self]
  intro x hx
  obtain ⟨j, hj, rfl⟩ := List.getElem_of_mem hx
  rw [List.length_take] at hj
  rw [List.getElem_take, h j (by omega) (by omega)]
  rfl
theorem DelInv.start {p : Int → Bool} {xs : List Int} {k : Nat} (hk : k < xs.length) (h1 : p xs[k] = true) (h2 : ∀ j (hj : j < xs.length), j < k → p xs[j] = false) : DelInv p xs xs k (k + 1) where
  len := rfl
  lt := by omega
  le := by omega
  pre := by
    rw [List.take_succ_eq_append_getElem hk, List.filter_append, take_filter_all h2]
    simp [h1]
  rest := fun _ _ => rfl
theorem DelInv.skip {p : Int → Bool} {xs ys : List Int} {i j : Nat} (h : DelInv p xs ys i j) (hj : j < xs.length) (hp : p xs[j] = true) : DelInv p xs ys i (j + 1) where
  len := h.len
  lt := by have := h.lt; omega
  le := hj
  pre := by
    rw [List.take_succ_eq_append_getElem hj, List.filter_append, h.pre]
    simp [hp]
  rest := fun k hk => h.rest k (by omega)
theorem DelInv.keep {p : Int → Bool} {xs ys : List Int} {i j : Nat} (h : DelInv p xs ys i j) (hj : j < xs.length) (hp : p xs[j] = false) : DelInv p xs (ys.set i xs[j]) (i + 1) (j + 1) where
  len := by simp [h.len]
  lt := by have := h.lt; omega
  le := hj
  pre := by
    have h1 := h.lt
    have h2 := h.len
    rw [List.take_succ_eq_append_getElem (by simp; omega), List.take_set_of_le (Nat.le_refl _), h.pre, List.getElem_set_self, List.take_succ_eq_append_getElem hj, List.filter_append]
    simp [hp]
  rest := fun k hk => by
    have h1 := h.lt
    rw [List.getElem?_set_ne (by omega)]
    exact h.rest k (by omega)
theorem DelInv.at_j {p : Int → Bool} {xs ys : List Int} {i j : Nat} (h : DelInv p xs ys i j) (hj : j < xs.length) : ∃ hy : j < ys.length, ys[j] = xs[j] := by
  have h1 := h.len
  refine ⟨by omega, ?_⟩
  have := h.rest j (Nat.le_refl _)
  rw [List.getElem?_eq_getElem hj, List.getElem?_eq_getElem (by omega)] at this
  exact Option.some.inj this
theorem DelInv.done {p : Int → Bool} {xs ys : List Int} {i : Nat} (h : DelInv p xs ys i xs.length) : ys.take i = xs.filter (fun x => !p x) := by
  have := h.pre
  rwa [List.take_of_length_le (Nat.le_refl _)] at this

/-- The row cut short, its tail whatever. -/
theorem int_prefix {w w1 : World} {ok : Nat → Prop} {ys : List Int} {e base g n cap i : Nat} {cur cur' : Array Value} (h : Kd.R (Kd.int .i64) e w base ok (.slice (some ⟨g, 0, none⟩) n cap) ys) (hi : i ≤ ys.length)
    (hg : w.heap[g]? = some (.cells cur e (0, 0))) (hg1 : w1.heap[g]? = some (.cells cur' e (0, 0))) (hs : cur'.size = cur.size) (hk : ∀ k, k < i → cur'[k]? = cur[k]?) :
    Kd.R (Kd.int .i64) e w1 base ok (.slice (some ⟨g, 0, none⟩) i cap) (ys.take i) := by
  have hok := h.1 g rfl
  have ho := Kd.own_of_R h
  obtain ⟨hl, hc⟩ := ho
  have hlen : (ys.take i).length = i := by rw [List.length_take]; omega
  rcases hc with ⟨hn, _⟩ | ⟨g', cap', cur0, he, hb, hh, h1, h2, h3, h4⟩
  · cases hn
  · injection he with he1 he2 he3
    injection he1 with he1
    injection he1 with he1
    subst he1; subst he3; subst he2
    rw [hg] at hh
    injection hh with hh
    injection hh with hh
    subst hh
    refine Kd.R_of_own ?_ (fun k hk' => by
      have : g = k := by simpa [Value.ownBlock] using hk'
      rw [← this]; exact hok)
    rw [hlen]
    refine ⟨by rw [encs_length, hlen]; omega, .inr ⟨g, cap, cur', rfl, hb, hg1, by omega, h2, by rw [hs, h3], ?_⟩⟩
    apply List.ext_getElem?
    intro j
    rw [List.getElem?_take, Nat.mul_one]
    split
    · rename_i hj
      rw [Array.getElem?_toList, hk j hj, ← Array.getElem?_toList]
      have : (cur.toList.take (ys.length * 1))[j]? = (encs (Value.int .i64) ys)[j]? := by rw [h4]
      rw [List.getElem?_take, if_pos (by omega)] at this
      rw [this]
      unfold encs
      rw [List.getElem?_map, List.getElem?_map, List.getElem?_take, if_pos hj]
    · rename_i hj
      rw [List.getElem?_eq_none]
      rw [encs_length, hlen]
      omega

theorem Try.zeroInt' (w : World) : (zeroValue 3).run Try.prog w = .ok (.int .i64 0) w := by kernel_rfl

set_option maxRecDepth 100000 in
set_option maxHeartbeats 2000000 in
theorem deleteInt_calls (g : Nat) (lb : Array Value) (p : Int → Bool) (eg : ∀ args w, (callFunc g args).run Try.prog w = .ok (.enter g args) w) (v : Value) (xs : List Int) (ok : Nat → Prop) (w : World) (hr : Kd.R (Kd.int .i64) 3 w 0 ok v xs)
    (hp : Reads g lb p w (fun k => some k = v.ownBlock) xs) :
    Calls Try.prog 25 #[v, .func (.func g) #[] lb] w fun e w' => ∃ v1, e = .returned v1 ∧ Kd.R (Kd.int .i64) 3 w' 0 ok v1 (xs.filter (fun x => !p x)) ∧ v1.ownBlock = v.ownBlock ∧ Chg w w' (fun k => some k = v.ownBlock) ∧ w'.heap.size = w.heap.size := by
  have hIF := indexInt_calls g lb p eg v xs ok _ w hr hp
  rcases firstHit_spec p xs with ⟨e1, hall⟩ | ⟨k0, hk0, e1, ht, hall⟩
  · rw [e1] at hIF
    have e3 : xs.filter (fun x => !p x) = xs := by
      have := take_filter_all (p := p) (xs := xs) (k := xs.length) (fun j hj _ => hall j hj)
      rwa [List.take_of_length_le (Nat.le_refl _)] at this
    rw [e3]
    have HR := Aside0.mk hr
    clear hr hp e1 e3
    go_enter Try.func25, Try.ntmps25
    go_wp2_with (go_at_call 47; refine hIF.mono ?_; rintro e w' ⟨rfl, q0, rfl⟩)
    go_ret
    exact ⟨v, rfl, Kd.R_drewN HR.out q0, rfl, (Chg.refl w _).drewN q0, rfl⟩
  · obtain ⟨b, cap, hv, hcap, hmax, _, _⟩ := int_cells hr hk0
    subst hv
    rw [e1] at hIF
    have hne1 : ((k0 : Int) == -1) = false := beq_eq_false_iff_ne.2 (by omega)
    have hst := Aside0.mk (DelInv.start hk0 ht hall)
    have HR := Aside0.mk hr
    have HP := Aside0.mk hp
    have hn : xs.length ≤ 9223372036854775807 := by unfold maxLen at hmax; omega
    clear hr hp e1 ht hall
    go_enter Try.func25, Try.ntmps25
    go_wp2_with (go_at_call 47; refine hIF.mono ?_; rintro e w' ⟨rfl, q0, rfl⟩)
    clear hIF
    go_loopg [5, 6, 7] xs.length (fun gg s5 s6 _ wr => ∃ (i j : Nat) (ys : List Int), s5 = .int .i64 i ∧ s6 = .int .i64 j ∧ xs.length - j ≤ gg ∧ Aside0 (DelInv p xs ys i j) ∧ Aside0 (Kd.R (Kd.int .i64) 3 wr 0 ok (.slice (some ⟨b, 0, none⟩) xs.length cap) ys) ∧ Aside0 (Chg w wr (fun k => some k = (Value.slice (some ⟨b, 0, none⟩) xs.length cap).ownBlock)) ∧ Aside0 (wr.heap.size = w.heap.size))
    case atStart => exact ⟨k0, k0 + 1, xs, rfl, by go_num, by omega, hst, ⟨Kd.R_drewN HR.out q0⟩, ⟨(Chg.refl w _).drewN q0⟩, ⟨rfl⟩⟩
    case round =>
      obtain ⟨i, j, ys, rfl, rfl, hgg, I, RW, CW, SW⟩ := hrel
      have hij := I.out.lt
      have hjn := I.out.le
      by_cases hlt : j < xs.length
      · have b1 : decide ((j : Int) < (xs.length : Int)) = true := decide_eq_true (by omega)
        have b2 : decide (j < xs.length) = true := decide_eq_true hlt
        have b3 : decide (i < xs.length) = true := decide_eq_true (by omega)
        have b4 : decide ((i : Int) < (xs.length : Int)) = true := decide_eq_true (by omega)
        obtain ⟨hy, hyx⟩ := I.out.at_j hlt
        have hlen := I.out.len
        have hi : i < ys.length := by omega
        obtain ⟨cj, fz⟩ := int_cell_at RW.out hy
        have ci := (int_cell_at RW.out hi).1
        rw [hyx] at cj
        have hcall := HP.out wr xs[j] (List.getElem_mem hlt) CW.out
        generalize ys[i] = old at ci
        have hlen := Aside0.mk hlen
        clear hyx hy hi
        cases hq : p xs[j] with
        | false =>
          rw [hq] at hcall
          have hkeep := Aside0.mk (I.out.keep hlt hq)
          clear hq
          generalize xs[j] = u at *
          go_wp2_with (go_at_fn g; refine hcall.mono ?_; rintro e w1 ⟨rfl, q, rfl⟩)
          go_roundg (xs.length - (j + 1))
          case measure => omega
          case rel =>
            have hput := Kd.R_putg (h1 := fun _ => rfl) RW.out (i : Int) u
            rw [Int.toNat_natCast] at hput
            exact ⟨i + 1, j + 1, ys.set i u, by go_num, by go_num, Nat.le_refl _, hkeep, ⟨Kd.R_drewN hput.1 q⟩, ⟨(CW.out.setCell (p := ⟨b, i, none⟩) (.inl rfl) _).drewN q⟩, ⟨by rw [show ((wr.drewN q).setCell ⟨b, i, none⟩ (Value.int .i64 u)).heap.size = wr.heap.size from by simp [World.setCell]]; exact SW.out⟩⟩
        | true =>
          rw [hq] at hcall
          have hskip := Aside0.mk (I.out.skip hlt hq)
          clear hq
          generalize xs[j] = u at *
          go_wp2_with (go_at_fn g; refine hcall.mono ?_; rintro e w1 ⟨rfl, q, rfl⟩)
          go_roundg (xs.length - (j + 1))
          case measure => omega
          case rel => exact ⟨i, j + 1, ys, rfl, by go_num, Nat.le_refl _, hskip, ⟨Kd.R_drewN RW.out q⟩, ⟨CW.out.drewN q⟩, SW⟩
      · obtain rfl : j = xs.length := by omega
        have b1 : decide ((xs.length : Int) < (xs.length : Int)) = false := decide_eq_false (by omega)
        have hlen := I.out.len
        have fz := (int_cell_at RW.out (i := i) (by omega)).2
        have hcc : ∀ k, k < xs.length → (wr.cell? ⟨b, k, none⟩).isSome = true := fun k hk => by rw [(int_cell_at RW.out (i := k) (by omega)).1]; rfl
        have hcl : ∀ ty, (Builtin.clear_ #[30] ty #[.slice (some ⟨b, i, none⟩) (xs.length - i) (cap - i)]).run Try.prog wr = .ok (.tuple #[]) (wr.setCells b i (List.replicate (xs.length - i) (.int .i64 0))) :=
          fun ty => Lib.run_clear_slice wr _ _ ty _ Try.underlying30 Try.zeroInt' rfl rfl b i _ _ (by omega) (fun t ht => hcc (i + t) (by omega)) (fun t ht => fz _)
        have hlen := Aside0.mk hlen
        clear hcc
        go_wp2
        go_ret
        obtain ⟨b', cap', cur, c, hv', _, _, hg, _, _, hsz, _, _, _⟩ := R_elem RW.out (i := i) (by have := hlen.out; omega)
        injection hv' with e1 _ e3
        injection e1 with e1
        injection e1 with e1
        subst e1
        have hsz1 : cur.size = cap' * 1 := hsz
        obtain ⟨cur', q1, q2, q3⟩ := setCells_row (List.replicate (xs.length - i) (Value.int .i64 0)) i wr cur hg (by rw [List.length_replicate]; omega)
        have hch : Chg wr (wr.setCells b i (List.replicate (xs.length - i) (.int .i64 0))) (fun k => some k = (Value.slice (some ⟨b, 0, none⟩) xs.length cap).ownBlock) := by
          obtain ⟨h1, h2, h3, h4⟩ := setCells_same b (List.replicate (xs.length - i) (Value.int .i64 0)) i wr
          exact ⟨h1, h2, h3, by rw [h4]; exact Nat.le_refl _, fun k _ hn => setCells_far _ _ k (fun e => hn (by rw [e]; rfl))⟩
        refine ⟨_, rfl, ?_, rfl, CW.out.trans hch (fun _ _ h => h) (fun _ _ h => h), ?_⟩
        · rw [← I.out.done]
          have hx : xs.length ≤ cap := hcap
          refine int_prefix RW.out (by have := hlen.out; omega) hg q1 q2 (fun k hk => ?_)
          rw [← Array.getElem?_toList, ← Array.getElem?_toList, q3, List.append_assoc, List.getElem?_append_left (by rw [List.length_take, Array.length_toList]; omega), List.getElem?_take, if_pos hk]
        · rw [(setCells_same b (List.replicate (xs.length - i) (Value.int .i64 0)) i wr).2.2.2]
          exact SW.out
end Go.Proofs.Ytdammjolkcjogaa

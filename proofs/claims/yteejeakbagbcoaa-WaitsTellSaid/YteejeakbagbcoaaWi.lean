import Derived.Test.YteejeakbagbcoaaWe
/-! The laws' own small functions: covenantref03.Ints, is, has. -/
namespace Go.Proofs.Yteejeakbagbcoaa
open Go.RowKit Go.Maps Go.MapKept Go.WideMaps
open Go.Proofs.YteejeakbagbcoaaW.PrintWords Go.Proofs.YteejeakbagbcoaaW.PrintLast Go.Proofs.YteejeakbagbcoaaW.PrintMore
set_option linter.unusedVariables false
set_option linter.unusedSimpArgs false

theorem int_C {w : World} {A : Option Addr} {n : Nat} {xs : List Int} (h : Kd.C kInt w A n xs) {i : Nat} (hi : i < xs.length) : ∃ ad, A = some ad ∧ w.cell? (ad.add i) = some (.int .i64 xs[i]) := by
  obtain ⟨h1, _, h2⟩ := h
  obtain ⟨ad, e1, h3⟩ := h2 (by omega)
  obtain ⟨c, hc, hK, hu⟩ := h3 i xs[i] (List.getElem?_eq_getElem hi)
  have hc0 : c = [.int .i64 xs[i]] := hK
  subst hc0
  have := hu 0 _ rfl
  exact ⟨ad, e1, by simpa [Kd.int, Kd.scalar] using this⟩

set_option maxRecDepth 100000 in
set_option maxHeartbeats 1000000 in
theorem ints_calls (A0 A1 : Option Addr) (c0 c1 : Nat) (l0 l1 : List Int) (w : World) (h0 : Kd.C kInt w A0 l0.length l0) (h1 : Kd.C kInt w A1 l1.length l1) (hb : l0.length < 100000) :
    Calls Try.prog 16 #[.slice A0 l0.length c0, .slice A1 l1.length c1] w fun e w' => e = .returned (.bool (decide (l0 = l1))) ∧ Below w.heap.size w w' := by
  have H0 := Aside0.mk h0
  have H1 := Aside0.mk h1
  clear h0 h1
  by_cases hlen : l1.length = l0.length
  · rw [hlen]
    have HL := Aside0.mk hlen
    clear hlen
    go_enter Try.func16, Try.ntmps16
    go_wp2
    go_loopw [5] (fun v5 wr => ∃ (k : Nat), k ≤ l0.length ∧ v5 = .int .i64 k ∧ Aside0 (Drawn0 w wr) ∧ Aside0 (∀ j, j < k → l0[j]? = l1[j]?)) (fun v5 _ => l0.length - (intOf v5).toNat)
    case atStart => exact ⟨0, Nat.zero_le _, rfl, ⟨Drawn0.refl w⟩, ⟨fun j h => absurd h (Nat.not_lt_zero _)⟩⟩
    case round =>
      obtain ⟨k, hk, rfl, HD, HS⟩ := hrel
      by_cases hlt : k < l0.length
      · have b1 : decide ((k : Int) < (l0.length : Int)) = true := decide_eq_true (by omega)
        have p0 : (0 : Int) ≤ (k : Int) := by omega
        have p1 : (k : Int) < (l0.length : Int) := by omega
        have hlt1 : k < l1.length := by rw [HL.out]; exact hlt
        obtain ⟨ad0, e0, y0⟩ := int_C H0.out hlt
        obtain ⟨ad1, e1, y1⟩ := int_C H1.out hlt1
        subst e0; subst e1
        have x0 := (HD.out.below.cell (p := ad0.add k) (World.block_lt_of_cell? w _ y0)).trans y0
        have x1 := (HD.out.below.cell (p := ad1.add k) (World.block_lt_of_cell? w _ y1)).trans y1
        have hget : l0[k]? = some l0[k] := List.getElem?_eq_getElem hlt
        have hget1 : l1[k]? = some l1[k] := List.getElem?_eq_getElem hlt1
        generalize l0[k] = a at *
        generalize l1[k] = c at *
        have HG0 := Aside0.mk hget
        have HG1 := Aside0.mk hget1
        clear hget hget1 y0 y1
        by_cases hac : a = c
        · subst hac
          have HS2 := Aside0.mk (show ∀ j, j < k + 1 → l0[j]? = l1[j]? from fun j hj => by
            by_cases e : j = k
            · subst e; rw [HG0.out, HG1.out]
            · exact HS.out j (by omega))
          go_wp2
          repeat (go_quiet (fail); try go_wp2)
          go_roundw
          case measure => simp [intOf]; omega
          case rel => exact ⟨k + 1, by omega, by go_num, ⟨by first | exact HD.out | exact HD.out.step _⟩, HS2⟩
        · have HX := Aside0.mk (show decide (l0 = l1) = false from decide_eq_false (fun e => by
            have h1 := HG0.out
            rw [e, HG1.out] at h1
            exact hac (Option.some.inj h1).symm))
          go_wp2
          repeat (go_quiet (fail); try go_wp2)
          go_ret
          exact ⟨by rw [HX.out]; rfl, by first | exact HD.out.below | exact (HD.out.step _).below⟩
      · have b1 : decide ((k : Int) < (l0.length : Int)) = false := decide_eq_false (by omega)
        have HX := Aside0.mk (show decide (l0 = l1) = true from decide_eq_true (List.ext_getElem? fun j => by
          by_cases hj : j < k
          · exact HS.out j hj
          · have := HL.out
            rw [List.getElem?_eq_none (by omega), List.getElem?_eq_none (by omega)]))
        go_wp2
        go_ret
        exact ⟨by rw [HX.out]; rfl, HD.out.below⟩
  · have HX := Aside0.mk (show decide (l0 = l1) = false from decide_eq_false (fun e => hlen (by rw [e])))
    have hn : ¬ (l0.length : Int) = (l1.length : Int) := by omega
    go_enter Try.func16, Try.ntmps16
    go_wp2
    go_ret
    exact ⟨by rw [HX.out]; rfl, Below.refl _ _⟩

theorem is_calls (A0 A1 : Option Addr) (c0 c1 : Nat) (l0 l1 : List Int) (w : World) (h0 : Kd.C kInt w A0 l0.length l0) (h1 : Kd.C kInt w A1 l1.length l1) (hb : l0.length < 100000) :
    Calls Try.prog 11 #[.slice A0 l0.length c0, .slice A1 l1.length c1] w fun e w' => e = .returned (.bool (decide (l0 = l1))) ∧ Below w.heap.size w w' := by
  have h2 := ints_calls A0 A1 c0 c1 l0 l1 w h0 h1 hb
  clear h0 h1
  go_enter Try.func11, Try.ntmps11
  go_wp2_with fail
  refine h2.mono ?_
  clear h2
  rintro e w1 ⟨rfl, hB⟩
  replace hB := Aside0.mk hB
  go_wp2
  go_ret
  exact ⟨rfl, hB.out⟩

set_option maxRecDepth 100000 in
set_option maxHeartbeats 1000000 in
theorem has_calls (A0 : Option Addr) (c0 : Nat) (l : List Int) (n : Int) (w : World) (h0 : Kd.C kInt w A0 l.length l) (hb : l.length < 100000) :
    Calls Try.prog 21 #[.slice A0 l.length c0, .int .i64 n] w fun e w' => e = .returned (.bool (decide (n ∈ l))) ∧ w' = w := by
  have H0 := Aside0.mk h0
  clear h0
  go_enter Try.func21, Try.ntmps21
  go_wp2
  go_loopw [5] (fun v5 wr => ∃ (k : Nat), k ≤ l.length ∧ v5 = .int .i64 k ∧ w = wr ∧ Aside0 (n ∉ l.take k)) (fun v5 _ => l.length - (intOf v5).toNat)
  case atStart => exact ⟨0, Nat.zero_le _, rfl, rfl, ⟨by simp⟩⟩
  case round =>
    obtain ⟨k, hk, rfl, hw, HS⟩ := hrel
    subst hw
    by_cases hlt : k < l.length
    · have b1 : decide ((k : Int) < (l.length : Int)) = true := decide_eq_true (by omega)
      have p0 : (0 : Int) ≤ (k : Int) := by omega
      have p1 : (k : Int) < (l.length : Int) := by omega
      obtain ⟨ad0, e0, y0⟩ := int_C H0.out hlt
      subst e0
      have htk : l.take (k + 1) = l.take k ++ [l[k]] := by rw [List.take_add_one, List.getElem?_eq_getElem hlt]; rfl
      have hmem : l[k] ∈ l := List.getElem_mem hlt
      generalize l[k] = a at *
      have HT := Aside0.mk htk
      clear htk
      by_cases hac : a = n
      · have d1 : (a == n) = true := beq_iff_eq.2 hac
        have HX := Aside0.mk (show decide (n ∈ l) = true from decide_eq_true (hac ▸ hmem))
        clear hac hmem
        go_wp2
        go_ret
        exact ⟨by rw [HX.out]; rfl, rfl⟩
      · have d1 : (a == n) = false := beq_eq_false_iff_ne.2 hac
        have HS2 := Aside0.mk (show n ∉ l.take (k + 1) from by
          rw [HT.out]
          intro h
          rcases List.mem_append.1 h with h | h
          · exact HS.out h
          · exact hac (List.mem_singleton.1 h).symm)
        clear hac hmem
        go_wp2
        go_roundw
        case measure => simp [intOf]; omega
        case rel => exact ⟨k + 1, by omega, by go_num, by trivial, HS2⟩
    · have b1 : decide ((k : Int) < (l.length : Int)) = false := decide_eq_false (by omega)
      have HX := Aside0.mk (show decide (n ∈ l) = false from decide_eq_false (by
        have := HS.out
        rwa [List.take_of_length_le (by omega)] at this))
      go_wp2
      go_ret
      exact ⟨by rw [HX.out]; rfl, rfl⟩
end Go.Proofs.Yteejeakbagbcoaa

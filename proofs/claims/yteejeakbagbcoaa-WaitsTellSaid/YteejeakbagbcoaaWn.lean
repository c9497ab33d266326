import Derived.Test.YteejeakbagbcoaaWm
/-! waits.met, walked. -/
namespace Go.Proofs.Yteejeakbagbcoaa
open Go.RowKit Go.Maps Go.MapKept Go.WideMaps
open Go.Proofs.YteejeakbagbcoaaW.PrintWords Go.Proofs.YteejeakbagbcoaaW.PrintLast Go.Proofs.YteejeakbagbcoaaW.PrintMore
set_option linter.unusedVariables false
set_option linter.unusedSimpArgs false

theorem gmapI_look {w : World} {gb : Nat} {gg : Int → Option Int} (H : MapOf (Value.int .i64) (Value.int .i64) okI w gb gg) {no : Int} (ho : okI no) :
    (Instr.lookup 36 (.map (some gb)) (.int .i64 no) false).run Try.prog w = .ok (.int .i64 ((gg no).getD 0)) w := by
  have h := H.look keyInt Try.underlying36 (Try.zeroIntW w) false ho
  rw [h]
  cases gg no <;> rfl
/-- A row of one number, made. -/
theorem R_one (w : World) (x : Int) : Kd.R kInt 3 (w.alloc (.cells #[.int .i64 x] 3)) 0 (fun k => w.heap.size ≤ k) (.slice (some ⟨w.heap.size, 0, none⟩) 1 1) [x] :=
  Kd.R_of_own ⟨rfl, .inr ⟨w.heap.size, 1, _, rfl, Nat.zero_le _, blk_new w _, Nat.le_refl _, by unfold maxLen; omega, rfl, rfl⟩⟩ (fun k hk => by
    have : w.heap.size = k := by simpa [Value.ownBlock] using hk
    omega)

/-- The search in memory. -/
structure MetSt (w W : World) (bo : Nat) (sv : Value) (st : List Int) (g : Int → Option Int) : Prop where
  out : MapOf (Value.int .i64) (Value.int .i64) okI W bo g
  row : Kd.R kInt 3 W 0 (fun k => w.heap.size ≤ k) sv st
  bel : Below w.heap.size w W
  lob : w.heap.size ≤ bo

theorem met_push {w wr w5 : World} {bo : Nat} {sv v1 : Value} {st : List Int} {g1 : Int → Option Int} {k : Int} (H : MetSt w wr bo sv st g1) (hokk : okI k) (hgk : g1 k = none)
    (ho : Kd.R kInt 3 w5 0 (fun y => w.heap.size ≤ y) v1 (st ++ [k])) (hg : wr.grownBy w5 sv.ownBlock) :
    (Instr.lookup 36 (.map (some bo)) (.int .i64 k) false).run Try.prog w5 = .ok (.int .i64 0) w5 ∧
      ∃ w6, (Instr.mapUpdate 36 (.map (some bo)) (.int .i64 k) (.int .i64 1)).run Try.prog w5 = .ok () w6 ∧ MetSt w w6 bo v1 (st ++ [k]) (upd g1 k (some 1)) := by
  have hc5 : Chg wr w5 (fun y => some y = sv.ownBlock) := Chg.of_grown hg
  have hne : ¬ some bo = sv.ownBlock := fun e => by
    obtain ⟨_, cs, hcs⟩ := R_block H.row e.symm
    obtain ⟨es', cl, hb'⟩ := H.out.isMap
    rw [hb'] at hcs
    cases hcs
  have hm5 := H.out.chg hc5 hne
  have hlk5 := gmapI_look hm5 hokk
  rw [hgk] at hlk5
  simp only [Option.getD_none] at hlk5
  obtain ⟨w6, hup, hm6, hc6, hs6⟩ := hm5.store keyInt Try.underlying36 hokk 1
  have hb5 : Below w.heap.size w w5 := H.bel.grown hg H.bel.size (fun y e => (R_block H.row e).1)
  exact ⟨hlk5, w6, hup, hm6, R_map ho hm5 hc6, hb5.trans (hc6.below hb5.size (fun y hy => by rw [hy]; exact H.lob)), H.lob⟩

set_option maxRecDepth 100000 in
set_option maxHeartbeats 4000000 in
theorem met_calls (es : Edges) (b : Nat) (mg : Int → Option Value) (base : Nat) (a : Int) (w : World) (HN : Next w b mg base es) (hok : ∀ e ∈ es, okI e.1 ∧ okI e.2) (ha : okI a) (hl : es.length ≤ 1000) :
    Calls Try.prog 22 #[.map (some b), .int .i64 a] w fun e w' => ∃ bo g, e = .returned (.map (some bo)) ∧ MapOf (Value.int .i64) (Value.int .i64) okI w' bo g ∧ (∀ k, (∃ v, g k = some v) ↔ Path es a k) ∧ (∀ k v, g k = some v → 1 ≤ v) ∧ w.heap.size ≤ bo ∧ Below w.heap.size w w' := by
  have HNX := Aside0.mk HN
  have HOK := Aside0.mk hok
  have HA := Aside0.mk ha
  have hmm := @run_makeMap Try.prog
  have hm0 := MapOf.made w (Value.int .i64) (Value.int .i64) okI
  have hb0 : Below w.heap.size w (w.alloc (.map #[] 0)) := (Below.refl _ w).alloc (Nat.le_refl _) _
  obtain ⟨w1, hw1⟩ : ∃ w1, w.alloc (.map #[] 0) = w1 := ⟨_, rfl⟩
  have hs1 : w1.heap.size = w.heap.size + 1 := by rw [← hw1]; simp
  rw [hw1] at hm0 hb0
  have hS0 : MetSt w (w1.alloc (.cells #[.int .i64 a] 3)) w.heap.size (.slice (some ⟨w1.heap.size, 0, none⟩) 1 1) [a] (fun _ => none) :=
    ⟨hm0.alloc _, Kd.R_mono (R_one w1 a) (fun k hk => by omega), hb0.alloc (by omega) _, Nat.le_refl _⟩
  obtain ⟨bo, hbo⟩ : ∃ bo, w.heap.size = bo := ⟨_, rfl⟩
  rw [hs1] at hS0
  have HS0 := Aside0.mk hS0
  clear HN hok ha hm0 hb0 hS0
  go_enter Try.func22, Try.ntmps22
  go_wp2
  go_loopg [6] (2 * es.length + 1) (fun gg v6 wr => ∃ (st : List Int) (g : Int → Option Int) (p : Nat), 2 * unseen es g + st.length ≤ gg ∧ p + gg ≤ 2 * es.length + 1 ∧ Aside0 (MetSt w wr bo v6 st g) ∧ Aside0 (Met es a st g (p * 1000)))
  case atStart => exact ⟨[a], _, 0, by have := unseen_le es (fun _ => none); simp; omega, by omega, by first | exact ⟨hbo ▸ HS0.out⟩ | skip, ⟨Met.start es a⟩⟩
  case round =>
    obtain ⟨st, g, p, hgg, hp, HS, HM⟩ := hrel
    rcases List.eq_nil_or_concat st with rfl | ⟨st0, n, rfl⟩
    · obtain ⟨a6, c6, e6⟩ := Kd.R_slice HS.out.row
      simp only [List.length_nil] at e6
      subst e6
      go_wp2
      go_ret
      exact ⟨bo, g, rfl, HS.out.out, HM.out.end_, fun k v hk => (HM.out.reach k v hk).2.1, HS.out.lob, HS.out.bel⟩
    · rw [List.concat_eq_append] at *
      have hlen : (st0 ++ [n]).length = st0.length + 1 := by simp
      have hi : st0.length < (st0 ++ [n]).length := by omega
      obtain ⟨gs, cap, cur, c, hv, _, _, hg, h1, h2, _, hM, _, hc⟩ := R_elem HS.out.row hi
      have y0 := (int_cells HS.out.row hi)
      obtain ⟨gs', cap', hv', _, hmx, y0, _⟩ := y0
      rw [hv] at hv'
      injection hv' with e1 _ e2
      injection e1 with e1
      injection e1 with e1
      subst e1; subst e2
      rw [List.getElem_concat_length (by rfl)] at y0
      have hrow := HS.out.row
      rw [hv] at hrow
      have hcut := int_prefix hrow (i := st0.length) (by omega) hg hg rfl (fun _ _ => rfl)
      rw [List.take_left' rfl] at hcut
      rw [hlen] at hv h1
      subst hv
      have hpop := HM.out.pop
      have hokn : okI n := by
        rcases HM.out.stk n (by simp) with h | ⟨v, hv⟩
        · rw [h]; exact HA.out
        · exact HS.out.out.good hv
      have hNw := HNX.out.below HS.out.bel
      have hlk := hNw.look hokn
      have hrn := HNX.out.row n
      generalize (mg n).getD (.slice none 0 0) = v0 at hlk hrn
      obtain ⟨va, vc, e7⟩ := Kd.R_slice hrn
      subst e7
      have t1 : decide ((0 : Int) < (st0.length : Int) + 1) = true := decide_eq_true (by omega)
      have t2 : (st0.length : Int) < (st0.length : Int) + 1 := by omega
      have t3 : (0 : Int) ≤ (st0.length : Int) := by omega
      have t4 : (st0.length : Int) < 9223372036854775807 := by
        unfold maxLen at hmx
        omega
      have t5 : (st0.length : Int) ≤ (cap : Int) := by omega
      have hgg2 := hgg
      rw [hlen] at hgg2
      have HS1 := Aside0.mk (MetSt.mk HS.out.out hcut HS.out.bel HS.out.lob)
      replace hpop := Aside0.mk hpop
      have HRN := Aside0.mk hrn
      replace hlen := Aside0.mk hlen
      have hol := outs_len es n
      clear hrow hcut hM hc hg hi hrn hNw hokn HS HM hgg
      go_wp2
      obtain ⟨wo, hwo⟩ : ∃ wo : World, wo = wr := ⟨_, rfl⟩
      clear hwo
      go_loopw [6, 31] (fun v6 v31 wr => ∃ (j : Nat) (st : List Int) (g1 : Int → Option Int), j ≤ (outs es n).length ∧ v31 = .int .i64 j ∧ 2 * unseen es g1 + st.length ≤ 2 * unseen es g + st0.length ∧ Aside0 (MetSt w wr bo v6 st g1) ∧ Aside0 (Met2 es a st g1 n j (p * 1000 + j))) (fun _ v31 _ => (outs es n).length - (intOf v31).toNat)
      case atStart => exact ⟨0, st0, g, Nat.zero_le _, rfl, Nat.le_refl _, HS1, ⟨by simpa using hpop.out⟩⟩
      case round =>
        clear HS1 hpop hlk y0
        obtain ⟨j, st, g1, hj, rfl, hun, HS2, HM2⟩ := hrel
        by_cases hjl : j < (outs es n).length
        · have u1 : decide ((j : Int) < ((outs es n).length : Int)) = true := decide_eq_true (by omega)
          have u2 : (j : Int) < ((outs es n).length : Int) := by omega
          have u3 : (0 : Int) ≤ (j : Int) := by omega
          have hrow := Kd.R_below HRN.out HS2.out.bel
          obtain ⟨gv, cv, hv, _, _, y1, _⟩ := int_cells hrow hjl
          obtain ⟨rfl, rfl⟩ : va = some ⟨gv, 0, none⟩ ∧ vc = cv := by
            injection hv with h1 _ h3
            exact ⟨h1, h3⟩
          have hmem : (n, (outs es n)[j]) ∈ es := mem_outs.1 (List.getElem_mem hjl)
          have hokk := (HOK.out _ hmem).2
          have hstep := fun (st' : List Int) (h : _) => HM2.out.step (st' := st') hjl h (by omega)
          have hnew := fun v => unseen_new es g1 v ⟨n, hmem⟩
          have hle := fun v => unseen_upd es g1 ((outs es n)[j]) v
          have hval := HM2.out.reach ((outs es n)[j])
          simp only at hokk
          generalize (outs es n)[j] = k at *
          have hlk := gmapI_look HS2.out.out hokk
          replace hstep := Aside0.mk hstep
          obtain ⟨sa, sc, e8⟩ := Kd.R_slice HS2.out.row
          subst e8
          clear hrow hv hmem
          cases hgk : g1 k with
          | none =>
            rw [hgk] at hlk
            simp only [Option.getD_none] at hlk
            have hst := Aside0.mk (hstep.out (st ++ [k]) (.inl ⟨hgk, rfl⟩))
            have hun2 := hnew 1 hgk
            rw [hgk] at hst
            have hsl : (st.length + 1) * 8 ≤ 140737488355328 := by
              have := unseen_le es g
              have h1 : st.length ≤ 2 * unseen es g + st0.length := by omega
              have h2 : 2 * unseen es g + st0.length ≤ 2 * es.length + 1 := by omega
              omega
            have hst2 := hst.out
            simp only [Option.getD_none, Int.zero_add, Int.add_assoc] at hst2
            replace hst2 := Aside0.mk hst2
            clear hstep hnew hle hval hst
            have HSx := HS2
            have hsz := HS2.out.bel.size
            go_wp2_with (at_builtin; go_loud (refine Kd.R_append kInt (w0 := wr) 0 rfl (.tmp 39) (.tmp 41) 26 3 (.int .i64 0) 8 rfl Try.underlying26 Try.infoInt rfl (by decide) (by omega) (.slice sa st.length sc) st k [.int .i64 k] (fun k => w.heap.size ≤ k) (fun _ => False) rfl rfl rfl (fun _ h => h.elim) (fun k hk => Nat.le_trans hsz hk) HSx.out.row (Below.refl 0 wr) (Nat.zero_le _) hsl ?_); intro v1 w5 ho hb hg hat; obtain ⟨hlk5, w6, hup, HS6⟩ := met_push HSx.out hokk hgk ho hg; replace HS6 := Aside0.mk HS6; clear ho hb hg hat)
            go_roundw
            case measure => simp [intOf]; omega
            case rel => exact ⟨j + 1, st ++ [k], _, by omega, by go_num, by simp only [List.length_append, List.length_singleton]; omega, HS6, ⟨by have := hst2.out; push_cast; exact this⟩⟩
          | some v =>
            rw [hgk] at hlk
            simp only [Option.getD_some] at hlk
            have hst := Aside0.mk (hstep.out st (.inr ⟨⟨v, hgk⟩, rfl⟩))
            obtain ⟨_, hv1, hv2⟩ := hval v hgk
            have hv0 : (v == 0) = false := beq_eq_false_iff_ne.2 (by omega)
            have hv3 : v ≤ 3000000 := by omega
            have hun2 := hle (v + 1)
            rw [hgk] at hst
            simp only [Option.getD_some, Int.add_assoc] at hst
            have hst2 := Aside0.mk hst.out
            obtain ⟨w6, hup, hm6, hc6, hs6⟩ := HS2.out.out.store keyInt Try.underlying36 hokk (v + 1)
            have HS6 : MetSt w w6 bo (.slice sa st.length sc) st (upd g1 k (some (v + 1))) := ⟨hm6, R_map HS2.out.row HS2.out.out hc6, HS2.out.bel.trans (hc6.below HS2.out.bel.size (fun y hy => by rw [hy]; exact HS2.out.lob)), HS2.out.lob⟩
            replace HS6 := Aside0.mk HS6
            clear hstep hnew hle hval hm6 hc6 hs6 hst hv2
            go_wp2
            go_roundw
            case measure => simp [intOf]; omega
            case rel => exact ⟨j + 1, st, _, by omega, by go_num, by omega, HS6, ⟨by have := hst2.out; push_cast; exact this⟩⟩
        · have u1 : decide ((j : Int) < ((outs es n).length : Int)) = false := decide_eq_false (by omega)
          obtain rfl : j = (outs es n).length := by omega
          have hM3 := Aside0.mk (HM2.out.all (B' := ((p + 1 : Nat) : Int) * 1000) (by push_cast; omega))
          clear HM2
          go_wp2
          go_roundg (2 * unseen es g1 + st.length)
          case measure => omega
          case rel => exact ⟨st, g1, p + 1, Nat.le_refl _, by omega, HS2, hM3⟩
end Go.Proofs.Yteejeakbagbcoaa

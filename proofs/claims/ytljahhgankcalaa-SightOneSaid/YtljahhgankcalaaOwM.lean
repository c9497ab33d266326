import Derived.Test.YtljahhgankcalaaOtM
/-! SightOne: the walk. -/
namespace Go.Proofs.Ytljahhgankcalaa
open Go.RowKit Go.Maps Go.MapKept Go.WideMaps Go.Shelf
open Go.Proofs.YtljahhgankcalaaW.PrintWords Go.Proofs.YtljahhgankcalaaW.PrintLast Go.Proofs.YtljahhgankcalaaW.PrintMore
set_option linter.unusedVariables false
set_option linter.unusedSimpArgs false

theorem i8_range {n : Int} (h : (Lit.int .i8 n).wf = true) : -128 ≤ n ∧ n ≤ 127 := by
  have h2 : (decide (IntKind.i8.min ≤ n) && decide (n ≤ IntKind.i8.max)) = true := h
  have h3 : IntKind.i8.min = -128 := by decide
  have h4 : IntKind.i8.max = 127 := by decide
  rw [h3, h4] at h2
  simpa using h2
/-- Behind i acts, whatever they were. -/
def OneRel (w0 w : World) (b h x cB kB sB wB i : Nat) (tk : Bool) : Prop := ∃ (A : AH) (T : TT) (who : Nat → Tr) (com kept : Int → Int) (q : Int) (K : Nat → Prop) (vs vw : Nat → Value) (G : Nat → Nat → Prop), OneSt w0 w b h x cB kB sB wB i tk A T who com kept q K vs vw G

set_option maxRecDepth 100000 in
set_option maxHeartbeats 8000000 in
theorem one_main (A0 : Option Addr) (c0 : Nat) (l : List SAct) (when' : Int) (w : World) (hr : Kd.C kAct w A0 l.length l) (hc : l.length ≤ c0) (hg : ∀ x ∈ l, goodAct x) (h1 : l.length ≤ 80) :
    Calls Try.prog 6 #[.slice A0 l.length c0, .int .i64 when'] w fun e w' => e = .returned (.bool true) ∧ Below w.heap.size w w' := by
  have haw := awake_calls w
  have d0 : decide ((80 : Int) < (l.length : Int)) = false := decide_eq_false (by omega)
  have HR := Aside0.mk hr
  have HL := Aside0.mk (And.intro h1 (And.intro hc hg))
  clear hr hc hg h1
  go_enter Try.func6, Try.ntmps6
  go_wp2_with fail
  refine haw.mono ?_
  clear haw
  rintro e w2 ⟨rfl, bA⟩
  replace bA := Aside0.mk bA
  go_wp2_with fail
  refine (new_calls w2).mono ?_
  rintro e w3 ⟨h, rfl, h1, b1⟩
  replace h1 := Aside0.mk (And.intro h1 b1)
  clear b1
  go_wp2_with fail
  refine (xnew_calls w3).mono ?_
  rintro e w4 ⟨rfl, t2, b4, hsz⟩
  have HQ := SgW.start w2 h1.out.1 h1.out.2 t2 b4
  clear h1 t2 b4 hsz
  obtain ⟨x, hx⟩ : ∃ x, w3.heap.size = x := ⟨_, rfl⟩
  rw [hx] at HQ ⊢
  clear hx
  obtain ⟨w5, hw5⟩ : ∃ w5, w4.alloc (.cells #[.pointer (some ⟨h, 0, none⟩), .pointer (some ⟨x, 0, none⟩), .slice none 0 0] 49) = w5 := ⟨_, rfl⟩
  have hs5 : w5.heap.size = w4.heap.size + 1 := by rw [← hw5]; simp
  rw [hw5] at HQ
  go_upto_region 9 with (fail)
  try rw [hw5]
  try rw [← hs5]
  have HS := Aside0.mk (OneSt.start HQ.base rfl rfl rfl rfl)
  clear HQ hw5 hs5
  obtain ⟨b, hb⟩ : ∃ b, w4.heap.size = b := ⟨_, rfl⟩
  rw [hb] at HS ⊢
  clear hb
  simp only [Nat.add_assoc, Nat.reduceAdd]
  obtain ⟨cB, hcB⟩ : ∃ c, w5.heap.size = c := ⟨_, rfl⟩
  obtain ⟨kB, hkB⟩ : ∃ c, w5.heap.size + 1 = c := ⟨_, rfl⟩
  obtain ⟨sB, hsB⟩ : ∃ c, w5.heap.size + 2 = c := ⟨_, rfl⟩
  obtain ⟨wB, hwB⟩ : ∃ c, w5.heap.size + 3 = c := ⟨_, rfl⟩
  obtain ⟨K5, hK5⟩ : ∃ K5 : Nat → Prop, (fun g => w5.heap.size ≤ g ∧ g < w5.heap.size + 4) = K5 := ⟨_, rfl⟩
  rw [hK5, hkB, hsB, hwB, hcB] at HS
  rw [hkB, hsB, hwB, hcB]
  clear hcB hkB hsB hwB hK5
  go_wp2
  refine wp_loop_ghost_k (fun n a' w' => ∃ i tk, n + i = l.length ∧ Fr a' (.slice A0 l.length c0) (.int .i64 when') b cB kB sB wB tk i ∧ OneRel w2 w' b h x cB kB sB wB i tk) l.length ⟨0, false, rfl, ⟨rfl, rfl, rfl, rfl, rfl, rfl, rfl, rfl, rfl, rfl, rfl, rfl⟩, _, _, _, _, _, _, _, _, _, _, HS.out⟩ ?_
  rintro gk a' wr ⟨i, tk, hn, HF, A, T, who, com, kept, q, K, vs, vw, G, HS⟩
  obtain ⟨u, hu, ha⟩ := HF.open
  clear HF hu
  subst ha
  intro J KK hJ hK
  replace HS := Aside0.mk HS
  have HN := Aside0.mk hn
  by_cases hlt : i < l.length
  · have d1 : decide ((i : Int) < (l.length : Int)) = true := decide_eq_true (by omega)
    have d1b : decide (i < l.length) = true := decide_eq_true hlt
    have d2 : (0 : Int) ≤ (i : Int) := by omega
    have d3 : (i : Int) < (l.length : Int) := by omega
    have d4 : ¬ (l.length : Int) = 0 := by omega
    have d5 : (l.length : Int) < 1000 := by have := HL.out.1; omega
    obtain ⟨ad, s, e1, hs, hcells⟩ := cellsAct HR.out i d3
    cases e1
    have HSS := Aside0.mk hs
    have HLT := Aside0.mk hlt
    replace hcells := Aside0.mk hcells
    clear hs hlt hn
    go_upto_if 57 with (fail)
    refine wp_cut (fun a' w' => ∃ tk, Fr a' (.slice (some ad) l.length c0) (.int .i64 when') b cB kB sB wB tk i ∧ ∃ kept q K vs vw G, OneSt w2 w' b h x cB kB sB wB i tk A T who com kept q K vs vw G) ?rest ?first
    case first =>
      intro J1 K1 hJ1 hK1
      have c1 := HS.out.sg.wr.c1
      have hnw := HS.out.sg.now (by have := HL.out.1; have := HLT.out; omega) 0
      go_wp2_with fail
      · refine hnw.mono ?_
        clear hnw c1
        rintro e w6 ⟨rfl, b6⟩
        have HS6 := HS.out.below b6
        have q0 := HS6.mem.ccom (r := 0) (by omega)
        have q1 := HS6.mem.ccom (r := 1) (by omega)
        have q2 := HS6.mem.ccom (r := 2) (by omega)
        have q3 := HS6.mem.ccom (r := 3) (by omega)
        have n1 : ¬ cB = sB := HS6.mem.four.2.2.1
        have n2 : ¬ sB = cB := fun e => n1 e.symm
        have s0 := blk_cell HS6.mem.sb 0
        have s1 := blk_cell HS6.mem.sb 1
        simp at s0 s1
        have k0 := HS6.mem.ckept (r := 0) (by omega)
        have k1 := HS6.mem.ckept (r := 1) (by omega)
        have k2 := HS6.mem.ckept (r := 2) (by omega)
        have k3 := HS6.mem.ckept (r := 3) (by omega)
        have n3 : ¬ kB = sB := HS6.mem.four.2.2.2.2.1
        have n4 : ¬ sB = kB := fun e => n3 e.symm
        have n5 : ¬ cB = kB := HS6.mem.four.2.1
        have n6 : ¬ kB = cB := fun e => n5 e.symm
        have fs : ∀ j, w6.frozen? ⟨sB, j, none⟩ = false := fun j => blk_frozen HS6.mem.sb j
        have fk : ∀ j, w6.frozen? ⟨kB, j, none⟩ = false := fun j => blk_frozen HS6.mem.kb j
        replace HS6 := Aside0.mk HS6
        clear b6
        go_wp2_with fail
        refine Met.intro ?_
        go_step
        exact ⟨true, ⟨rfl, rfl, rfl, rfl, rfl, rfl, rfl, rfl, rfl, rfl, rfl, rfl⟩, _, _, _, _, _, _, HS6.out.shot⟩
      · refine Met.intro ?_
        go_step
        exact ⟨tk, ⟨rfl, rfl, rfl, rfl, rfl, rfl, rfl, rfl, rfl, rfl, rfl, rfl⟩, _, _, _, _, _, _, HS.out⟩
    case rest =>
      clear HS
      rintro a' wr ⟨tk, HF, kept, q, K, vs, vw, G, HS⟩
      obtain ⟨u, hu, ha⟩ := HF.open
      clear HF hu
      subst ha
      obtain ⟨x0, x1, x2, x3⟩ := hcells.out wr (bA.out.trans (HS.bel.mono bA.out.size))
      have hgood := HL.out.2.2 s (by rw [HSS.out, List.getD_eq_getElem?_getD, List.getElem?_eq_getElem HLT.out]; exact List.getElem_mem HLT.out)
      obtain ⟨a0, ha0⟩ : ∃ a0 : Nat, s.f0 = (a0 : Int) := ⟨s.f0.toNat, by have := u8_range hgood.1; omega⟩
      have g0 : (a0 : Int) < 256 := by have := u8_range hgood.1; omega
      replace hgood := Aside0.mk hgood
      rw [ha0] at x0
      replace ha0 := Aside0.mk ha0
      go_upto_block 2 with (fail)
      obtain ⟨k, hk⟩ : ∃ k, a0 % 3 = k := ⟨_, rfl⟩
      rw [hk]
      have hk3 : k < 3 := by omega
      clear hk g0 x0 ha0
      replace HS := Aside0.mk HS
      have hB := HL.out.1
      refine Cuts.use (c := blk 2) (R := ActR w2 (.slice (some ad) l.length c0) (.int .i64 when') b h x cB kB sB wB i tk kept q) ?first2 ?rest2
      case first2 =>
        by_cases hw : who k = []
        · exact act_begin hk3 HLT.out hB ⟨⟨rfl, rfl, rfl, rfl, rfl, rfl, rfl, rfl, rfl, rfl, rfl, rfl⟩, rfl⟩ hw HS.out
        · by_cases h0 : s.f1 = 0
          · exact act_commit hk3 HLT.out hB ⟨⟨rfl, rfl, rfl, rfl, rfl, rfl, rfl, rfl, rfl, rfl, rfl, rfl⟩, rfl⟩ hw (by rw [← h0]; exact x1) HS.out
          · by_cases h1 : s.f1 = 1
            · exact act_abort hk3 HLT.out hB ⟨⟨rfl, rfl, rfl, rfl, rfl, rfl, rfl, rfl, rfl, rfl, rfl, rfl⟩, rfl⟩ hw (by rw [← h1]; exact x1) HS.out
            · by_cases h2 : s.f1 = 2
              · exact act_save hk3 HLT.out hB ⟨⟨rfl, rfl, rfl, rfl, rfl, rfl, rfl, rfl, rfl, rfl, rfl, rfl⟩, rfl⟩ hw (by rw [← h2]; exact x1) HS.out
              · by_cases h3 : s.f1 = 3
                · exact act_back hk3 HLT.out hB ⟨⟨rfl, rfl, rfl, rfl, rfl, rfl, rfl, rfl, rfl, rfl, rfl, rfl⟩, rfl⟩ hw (by rw [← h3]; exact x1) HS.out
                · obtain ⟨r2, hr2⟩ : ∃ r2 : Nat, s.f2 = (r2 : Int) := ⟨s.f2.toNat, by have := u8_range hgood.out.2.2.1; omega⟩
                  have hn3 := i8_range hgood.out.2.2.2
                  have hu2 := u8_range hgood.out.2.2.1
                  refine act_write (r2 := r2) (nn := if s.f3 < 0 then -1 else s.f3) hk3 HLT.out hB ⟨⟨rfl, rfl, rfl, rfl, rfl, rfl, rfl, rfl, rfl, rfl, rfl, rfl⟩, rfl⟩ hw x1 (by rw [← hr2]; exact x2) x3 (beq_eq_false_iff_ne.2 h0) (beq_eq_false_iff_ne.2 h1) (beq_eq_false_iff_ne.2 h2) (beq_eq_false_iff_ne.2 h3) (by omega) hn3 ?_ HS.out
                  by_cases hneg : s.f3 < 0
                  · rw [if_pos hneg]; exact .inl ⟨hneg, rfl⟩
                  · rw [if_neg hneg]; exact .inr ⟨by omega, rfl⟩
      case rest2 =>
        clear HS x1 x2 x3
        rintro a' wr ⟨HF, A, T, who, com, K, vs, vw, G, HS⟩
        obtain ⟨u, hu, ha⟩ := HF.open
        clear HF hu
        subst ha
        replace HS := Aside0.mk HS
        go_upto_block 7 with (fail)
        refine Cuts.use (c := blk 7) (R := fun a' w' => Fr a' (.slice (some ad) l.length c0) (.int .i64 when') b cB kB sB wB tk i ∧ OneSt w2 w' b h x cB kB sB wB (i + 1) tk A T who com kept q K vs vw G) ?first3 ?rest3
        case first3 => exact check_rows (by omega) ⟨rfl, rfl, rfl, rfl, rfl, rfl, rfl, rfl, rfl, rfl, rfl, rfl⟩ rfl HS.out
        case rest3 =>
          rintro a' wr ⟨HF, HS⟩
          obtain ⟨u, hu, ha⟩ := HF.open
          clear HF hu
          subst ha
          replace HS := Aside0.mk HS
          go_wp2
          exact Handed.intro (gk - 1) (by have := HN.out; have := HLT.out; omega) (hJ _ _ _ ⟨i + 1, tk, by have := HN.out; have := HLT.out; omega, ⟨rfl, rfl, rfl, rfl, rfl, rfl, rfl, rfl, rfl, rfl, rfl, congrArg (Value.int .i64) (by omega)⟩, _, _, _, _, _, _, _, _, _, _, HS.out⟩)
  · have d1 : decide ((i : Int) < (l.length : Int)) = false := decide_eq_false (by omega)
    have d1b : decide (i < l.length) = false := decide_eq_false hlt
    clear hlt hn
    go_wp2
    go_ret
    exact ⟨rfl, bA.out.trans (HS.out.bel.mono bA.out.size)⟩
set_option maxRecDepth 100000 in
set_option maxHeartbeats 8000000 in
theorem one_calls (A0 : Option Addr) (c0 : Nat) (l : List SAct) (when' : Int) (w : World) (hr : Kd.C kAct w A0 l.length l) (hc : l.length ≤ c0) (hg : ∀ x ∈ l, goodAct x) :
    Calls Try.prog 6 #[.slice A0 l.length c0, .int .i64 when'] w fun e w' => e = .returned (.bool true) ∧ Below w.heap.size w w' := by
  by_cases h1 : l.length ≤ 80
  · exact one_main A0 c0 l when' w hr hc hg h1
  · have haw := awake_calls w
    have d0 : decide ((80 : Int) < (l.length : Int)) = true := decide_eq_true (by omega)
    clear hr hc hg
    go_enter Try.func6, Try.ntmps6
    go_wp2_with fail
    refine haw.mono ?_
    clear haw
    rintro e w2 ⟨rfl, bA⟩
    go_wp2
    go_ret
    exact ⟨rfl, bA⟩
end Go.Proofs.Ytljahhgankcalaa

import Derived.Test.YtljahhgankcalaaGP
/-! SightOne: what each is told, behind an act, row by row. -/
namespace Go.Proofs.Ytljahhgankcalaa
open Go.RowKit Go.Maps Go.MapKept Go.WideMaps Go.Shelf
open Go.Proofs.YtljahhgankcalaaW.PrintWords Go.Proofs.YtljahhgankcalaaW.PrintLast Go.Proofs.YtljahhgankcalaaW.PrintMore
set_option linter.unusedVariables false
set_option linter.unusedSimpArgs false

section
variable {w2 wr w w' : World} {b h x cB kB sB wB m : Nat} {A : AH} {T : TT} {who : Nat → Tr} {com kept : Int → Int} {q : Int} {K : Nat → Prop} {vs vw : Nat → Value} {G : Nat → Nat → Prop} {L wh : Value} {tk : Bool} {i k r : Nat} {a : Act}
set_option maxRecDepth 100000 in
set_option maxHeartbeats 4000000 in
theorem check_rows (hi : m ≤ 1000) (HF : Fr a L wh b cB kB sB wB tk i) (e24 : a.tmps.getD 24 undef = .int .i64 0)
    (HS : OneSt w2 wr b h x cB kB sB wB m tk A T who com kept q K vs vw G) :
    Cuts (blk 7) (fun a' w' => Fr a' L wh b cB kB sB wB tk i ∧ OneSt w2 w' b h x cB kB sB wB m tk A T who com kept q K vs vw G) a wr := by
  intro J K' hJ hK
  obtain ⟨u, hu, ha⟩ := HF.open
  have u24 := (hu 24).trans e24
  subst ha
  rw [u24]
  clear hu HF e24 u24
  conv => arg 2; whnf
  go_wp2
  refine wp_loop_ghost_k (fun n a' w' => ∃ r, n + r = 4 ∧ Fr a' L wh b cB kB sB wB tk i ∧ a'.tmps.getD 24 undef = .int .i64 r ∧ OneSt w2 w' b h x cB kB sB wB m tk A T who com kept q K vs vw G) 4 ⟨0, by omega, ⟨rfl, rfl, rfl, rfl, rfl, rfl, rfl, rfl, rfl, rfl, rfl, rfl⟩, rfl, HS⟩ ?_
  clear HS
  rintro gk a' wr ⟨r, hn, HF, e24, HS⟩
  obtain ⟨u, hu, ha⟩ := HF.open
  have u24 := (hu 24).trans e24
  subst ha
  rw [u24]
  clear hu HF e24 u24
  intro J2 K2 hJ2 hK2
  by_cases hr : r < 4
  · have d1 : decide ((r : Int) < 4) = true := decide_eq_true (by omega)
    have i3 : (0 : Int) ≤ (r : Int) := by omega
    have i4 : (r : Int) < 4 := by omega
    have HN := Aside0.mk (And.intro hn (And.intro hr hi))
    go_upto_region 60 with (fail)
    refine Cuts.use (R := fun a' w' => Fr a' L wh b cB kB sB wB tk i ∧ a'.tmps.getD 24 undef = .int .i64 r ∧ a'.tmps.getD 339 undef = .bool false ∧ OneSt w2 w' b h x cB kB sB wB m tk A T who com kept q K vs vw G) ?first ?rest
    case first =>
      intro J3 K3 hJ3 hK3
      have hseen := HS.seen hi hr (HS.one.says (r := (r : Int)) (by omega) (by omega))
      have hnow := HS.now hi 0
      have hcells : ∀ W, Below wr.heap.size wr W → W.cell? ⟨b, 1, none⟩ = some (.pointer (some ⟨x, 0, none⟩)) ∧ W.cell? ⟨cB, r, none⟩ = some (.int .i64 (com r)) ∧ W.cell? ⟨sB, 0, none⟩ = some (.int .i64 q) ∧ W.cell? ⟨sB, 1, none⟩ = some (.int .i64 0) ∧ W.cell? ⟨kB, r, none⟩ = some (.int .i64 (kept r)) := fun W hb => ⟨(HS.sg.below hb).wr.c1, (HS.mem.below hb).ccom hr, blk_cell (HS.mem.below hb).sb 0, blk_cell (HS.mem.below hb).sb 1, (HS.mem.below hb).ckept hr⟩
      have hb0 : Aside0 (Below wr.heap.size wr wr.drew) := ⟨(Below.refl _ _).drew⟩
      have i6 : IntKind.i64.wrap ((r : Int) + 1) = (r : Int) + 1 := IntWalk.i64_in _ (by omega)
      replace hseen := Aside0.mk hseen
      replace hnow := Aside0.mk hnow
      obtain ⟨s0, s1, s2, s3, s4⟩ := hcells wr (Below.refl _ _)
      replace hcells := Aside0.mk hcells
      cases tk with
      | true =>
        have hsnap := HS.seen hi hr ((HS.snap rfl).says HS.one.hA (r := (r : Int)) (by omega) (by omega))
        replace hsnap := Aside0.mk hsnap
        replace HS := Aside0.mk HS
        generalize com (r : Int) = v at hseen hcells s1 ⊢
        generalize kept (r : Int) = v3 at hsnap hcells s4 ⊢
        have v1 : (v != v) = false := bne_self_eq_false v
        have v2 : (v3 != v3) = false := bne_self_eq_false v3
        clear hn hr hi
        go_region_held3 (fun W => W.cell? ⟨b, 1, none⟩ = some (.pointer (some ⟨x, 0, none⟩)) ∧ W.cell? ⟨cB, r, none⟩ = some (.int .i64 v) ∧ W.cell? ⟨sB, 0, none⟩ = some (.int .i64 q) ∧ W.cell? ⟨sB, 1, none⟩ = some (.int .i64 0) ∧ W.cell? ⟨kB, r, none⟩ = some (.int .i64 v3)) (go_keep) ((first
          | (go_at_call 22; refine (hnow.out _ (Aside0.out (by assumption))).mono ?_; rintro e W1 ⟨rfl, hb1⟩; obtain ⟨hbb, hbb'⟩ : ∃ h : Aside0 (Below wr.heap.size wr W1), True := ⟨⟨Below.trans (Aside0.out (by assumption)) (hb1.mono (Below.size (B := wr.heap.size) (w := wr) (Aside0.out (by assumption))))⟩, trivial⟩; obtain ⟨s0, s1, s2, s3, s4⟩ := hcells.out _ hbb.out; clear hb1 hbb')
          | (go_at_call 27; (first | (with_reducible refine (hseen.out _ (Aside0.out (by assumption))).mono ?_) | (with_reducible refine (hsnap.out _ (Aside0.out (by assumption))).mono ?_)); rintro e W1 ⟨rfl, hb1⟩; obtain ⟨hbb, hbb'⟩ : ∃ h : Aside0 (Below wr.heap.size wr W1), True := ⟨⟨Below.trans (Aside0.out (by assumption)) (hb1.mono (Below.size (B := wr.heap.size) (w := wr) (Aside0.out (by assumption))))⟩, trivial⟩; obtain ⟨s0, s1, s2, s3, s4⟩ := hcells.out _ hbb.out; clear hb1 hbb')))
        go_wp2
        exact Met.intro (hJ3 _ _ ⟨⟨rfl, rfl, rfl, rfl, rfl, rfl, rfl, rfl, rfl, rfl, rfl, rfl⟩, rfl, rfl, HS.out.below (Aside0.out (by assumption))⟩)
      | false =>
        replace HS := Aside0.mk HS
        generalize com (r : Int) = v at hseen hcells s1 ⊢
        have v1 : (v != v) = false := bne_self_eq_false v
        clear hn hr hi
        refine wp_region_held_drew (S := (fun W => W.cell? ⟨b, 1, none⟩ = some (.pointer (some ⟨x, 0, none⟩)) ∧ W.cell? ⟨cB, r, none⟩ = some (.int .i64 v))) (by kernel_rfl) ?_ (fun hHeld => ?_)
        · go_keep
        refine wpAnyH_take (i := 0) (v := ?_) rfl (by kernel_rfl) (by kernel_rfl) (by kernel_rfl) (fun _ _ _ h => h) (Or.inl ⟨by rfl, ?_⟩) (by assumption) ?_
        rotate_left
        · intro w hSw
          try dsimp only at hSw
          go_simp
          try with_reducible rfl
        try simp only [Act.put, List.getElem_toArray, List.getElem_cons_zero, List.getElem_cons_succ, List.setIfInBounds_toArray, List.set_cons_zero, List.set_cons_succ]
        refine wpAnyH_take (i := 1) (v := ?_) rfl (by kernel_rfl) (by kernel_rfl) (by kernel_rfl) (fun _ _ _ h => h) (Or.inl ⟨by rfl, ?_⟩) (by assumption) ?_
        rotate_left
        · intro w hSw
          try dsimp only at hSw
          go_simp
          try with_reducible rfl
        try simp only [Act.put, List.getElem_toArray, List.getElem_cons_zero, List.getElem_cons_succ, List.setIfInBounds_toArray, List.set_cons_zero, List.set_cons_succ]
        refine wpAnyH_take (i := 2) (v := ?_) rfl (by kernel_rfl) (by kernel_rfl) (by kernel_rfl) (fun _ _ _ h => h) (Or.inl ⟨by rfl, ?_⟩) (by assumption) ?_
        rotate_left
        · intro w hSw
          try dsimp only at hSw
          go_simp
          try with_reducible rfl
        try simp only [Act.put, List.getElem_toArray, List.getElem_cons_zero, List.getElem_cons_succ, List.setIfInBounds_toArray, List.set_cons_zero, List.set_cons_succ]
        refine wpAnyH_take (i := 3) (v := ?_) rfl (by kernel_rfl) (by kernel_rfl) (by kernel_rfl) (fun _ _ _ h => h) (Or.inl ⟨by rfl, ?_⟩) (by assumption) ?_
        rotate_left
        · intro w hSw
          try dsimp only at hSw
          go_simp
          try with_reducible rfl
        try simp only [Act.put, List.getElem_toArray, List.getElem_cons_zero, List.getElem_cons_succ, List.setIfInBounds_toArray, List.set_cons_zero, List.set_cons_succ]
        refine wpAnyH_take (i := 4) (v := ?_) rfl (by kernel_rfl) (by kernel_rfl) (by kernel_rfl) (fun _ _ _ h => h) (Or.inl ⟨by rfl, ?_⟩) (by assumption) ?_
        rotate_left
        · intro w hSw
          try dsimp only at hSw
          go_simp
          try with_reducible rfl
        try simp only [Act.put, List.getElem_toArray, List.getElem_cons_zero, List.getElem_cons_succ, List.setIfInBounds_toArray, List.set_cons_zero, List.set_cons_succ]
        refine wpAnyH_take (i := 6) (v := ?_) rfl (by kernel_rfl) (by kernel_rfl) (by kernel_rfl) (fun _ _ _ h => h) (Or.inl ⟨by rfl, ?_⟩) (by assumption) ?_
        rotate_left
        · intro w hSw
          try dsimp only at hSw
          go_simp
          try with_reducible rfl
        try simp only [Act.put, List.getElem_toArray, List.getElem_cons_zero, List.getElem_cons_succ, List.setIfInBounds_toArray, List.set_cons_zero, List.set_cons_succ]
        refine wpAnyH_take (i := 7) (v := ?_) rfl (by kernel_rfl) (by kernel_rfl) (by kernel_rfl) (fun _ _ _ h => h) (Or.inl ⟨by rfl, ?_⟩) (by assumption) ?_
        rotate_left
        · intro w hSw
          try dsimp only at hSw
          go_simp
          try with_reducible rfl
        try simp only [Act.put, List.getElem_toArray, List.getElem_cons_zero, List.getElem_cons_succ, List.setIfInBounds_toArray, List.set_cons_zero, List.set_cons_succ]
        refine wpAnyH_take (i := 9) (v := ?_) rfl (by kernel_rfl) (by kernel_rfl) (by kernel_rfl) (fun _ _ _ h => h) (Or.inl ⟨by rfl, ?_⟩) (by assumption) ?_
        rotate_left
        · intro w hSw
          try dsimp only at hSw
          go_simp
          try with_reducible rfl
        try simp only [Act.put, List.getElem_toArray, List.getElem_cons_zero, List.getElem_cons_succ, List.setIfInBounds_toArray, List.set_cons_zero, List.set_cons_succ]
        refine wpAnyH_take (i := 10) (v := ?_) rfl (by kernel_rfl) (by kernel_rfl) (by kernel_rfl) (fun _ _ _ h => h) (Or.inl ⟨by rfl, ?_⟩) (by assumption) ?_
        rotate_left
        · intro w hSw
          try dsimp only at hSw
          go_simp
          try with_reducible rfl
        try simp only [Act.put, List.getElem_toArray, List.getElem_cons_zero, List.getElem_cons_succ, List.setIfInBounds_toArray, List.set_cons_zero, List.set_cons_succ]
        refine wpAnyH_take (i := 11) (v := ?_) rfl (by kernel_rfl) (by kernel_rfl) (by kernel_rfl) (fun _ _ _ h => h) (Or.inl ⟨by rfl, ?_⟩) (by assumption) ?_
        rotate_left
        · intro w hSw
          try dsimp only at hSw
          go_simp
          try with_reducible rfl
        try simp only [Act.put, List.getElem_toArray, List.getElem_cons_zero, List.getElem_cons_succ, List.setIfInBounds_toArray, List.set_cons_zero, List.set_cons_succ]
        refine wpAnyH_ready (rs := [5]) (by kernel_rfl) (by simp) ?_
        refine AllReadyH.cons rfl (fun K hK => ?_) AllReadyH.nil
        go_simp
        refine (hnow.out _ (Aside0.out (by assumption))).mono ?_; rintro e W1 ⟨rfl, hb1⟩; obtain ⟨hbb, hbb'⟩ : ∃ h : Aside0 (Below wr.heap.size wr W1), True := ⟨⟨Below.trans (Aside0.out (by assumption)) (hb1.mono (Below.size (B := wr.heap.size) (w := wr) (Aside0.out (by assumption))))⟩, trivial⟩; obtain ⟨s0, s1, s2, s3, s4⟩ := hcells.out _ hbb.out; clear hb1 hbb'
        refine hK.out _ _ ?_ (fun hHeld => ?_)
        · go_keep
        clear hK K
        try simp only [Act.put, List.getElem_toArray, List.getElem_cons_zero, List.getElem_cons_succ, List.setIfInBounds_toArray, List.set_cons_zero, List.set_cons_succ]
        refine wpAnyH_ready (rs := [8]) (by kernel_rfl) (by simp) ?_
        refine AllReadyH.cons rfl (fun K hK => ?_) AllReadyH.nil
        go_simp
        refine (hseen.out _ (Aside0.out (by assumption))).mono ?_; rintro e W1 ⟨rfl, hb1⟩; obtain ⟨hbb, hbb'⟩ : ∃ h : Aside0 (Below wr.heap.size wr W1), True := ⟨⟨Below.trans (Aside0.out (by assumption)) (hb1.mono (Below.size (B := wr.heap.size) (w := wr) (Aside0.out (by assumption))))⟩, trivial⟩; obtain ⟨s0, s1, s2, s3, s4⟩ := hcells.out _ hbb.out; clear hb1 hbb'
        refine hK.out _ _ ?_ (fun hHeld => ?_)
        · go_keep
        clear hK K
        try simp only [Act.put, List.getElem_toArray, List.getElem_cons_zero, List.getElem_cons_succ, List.setIfInBounds_toArray, List.set_cons_zero, List.set_cons_succ]
        refine wpAnyH_take (i := 12) (v := ?_) rfl (by kernel_rfl) (by kernel_rfl) (by kernel_rfl) (fun _ _ _ h => h) (Or.inl ⟨by rfl, ?_⟩) (by assumption) ?_
        rotate_left
        · intro w hSw
          try dsimp only at hSw
          go_simp
          try with_reducible rfl
        try simp only [Act.put, List.getElem_toArray, List.getElem_cons_zero, List.getElem_cons_succ, List.setIfInBounds_toArray, List.set_cons_zero, List.set_cons_succ]
        refine wpAnyH_take (i := 13) (v := ?_) rfl (by kernel_rfl) (by kernel_rfl) (by kernel_rfl) (fun _ _ _ h => h) (Or.inl ⟨by rfl, ?_⟩) (by assumption) ?_
        rotate_left
        · intro w hSw
          try dsimp only at hSw
          go_simp
          try with_reducible rfl
        try simp only [Act.put, List.getElem_toArray, List.getElem_cons_zero, List.getElem_cons_succ, List.setIfInBounds_toArray, List.set_cons_zero, List.set_cons_succ]
        refine wpAnyH_take (i := 14) (v := ?_) rfl (by kernel_rfl) (by kernel_rfl) (by kernel_rfl) (fun _ _ _ h => h) (Or.inl ⟨by rfl, ?_⟩) (by assumption) ?_
        rotate_left
        · intro w hSw
          try dsimp only at hSw
          go_simp
          try with_reducible rfl
        try simp only [Act.put, List.getElem_toArray, List.getElem_cons_zero, List.getElem_cons_succ, List.setIfInBounds_toArray, List.set_cons_zero, List.set_cons_succ]
        refine wpAnyH_take (i := 15) (v := ?_) rfl (by kernel_rfl) (by kernel_rfl) (by kernel_rfl) (fun _ _ _ h => h) (Or.inl ⟨by rfl, ?_⟩) (by assumption) ?_
        rotate_left
        · intro w hSw
          try dsimp only at hSw
          go_simp
          try with_reducible rfl
        try simp only [Act.put, List.getElem_toArray, List.getElem_cons_zero, List.getElem_cons_succ, List.setIfInBounds_toArray, List.set_cons_zero, List.set_cons_succ]
        refine wpAnyH_take (i := 16) (v := _) rfl (by kernel_rfl) (by kernel_rfl) (by kernel_rfl) (fun _ _ _ h => h) (Or.inr ⟨by rfl, rfl⟩) (by assumption) ?_
        try simp only [Act.put, List.getElem_toArray, List.getElem_cons_zero, List.getElem_cons_succ, List.setIfInBounds_toArray, List.set_cons_zero, List.set_cons_succ]
        refine wpAnyH_take (i := 17) (v := _) rfl (by kernel_rfl) (by kernel_rfl) (by kernel_rfl) (fun _ _ _ h => h) (Or.inr ⟨by rfl, rfl⟩) (by assumption) ?_
        try simp only [Act.put, List.getElem_toArray, List.getElem_cons_zero, List.getElem_cons_succ, List.setIfInBounds_toArray, List.set_cons_zero, List.set_cons_succ]
        refine wpAnyH_take (i := 18) (v := _) rfl (by kernel_rfl) (by kernel_rfl) (by kernel_rfl) (fun _ _ _ h => h) (Or.inr ⟨by rfl, rfl⟩) (by assumption) ?_
        try simp only [Act.put, List.getElem_toArray, List.getElem_cons_zero, List.getElem_cons_succ, List.setIfInBounds_toArray, List.set_cons_zero, List.set_cons_succ]
        refine wpAnyH_take (i := 19) (v := _) rfl (by kernel_rfl) (by kernel_rfl) (by kernel_rfl) (fun _ _ _ h => h) (Or.inr ⟨by rfl, rfl⟩) (by assumption) ?_
        try simp only [Act.put, List.getElem_toArray, List.getElem_cons_zero, List.getElem_cons_succ, List.setIfInBounds_toArray, List.set_cons_zero, List.set_cons_succ]
        refine wpAnyH_take (i := 20) (v := _) rfl (by kernel_rfl) (by kernel_rfl) (by kernel_rfl) (fun _ _ _ h => h) (Or.inr ⟨by rfl, rfl⟩) (by assumption) ?_
        try simp only [Act.put, List.getElem_toArray, List.getElem_cons_zero, List.getElem_cons_succ, List.setIfInBounds_toArray, List.set_cons_zero, List.set_cons_succ]
        refine wpAnyH_take (i := 21) (v := _) rfl (by kernel_rfl) (by kernel_rfl) (by kernel_rfl) (fun _ _ _ h => h) (Or.inr ⟨by rfl, rfl⟩) (by assumption) ?_
        try simp only [Act.put, List.getElem_toArray, List.getElem_cons_zero, List.getElem_cons_succ, List.setIfInBounds_toArray, List.set_cons_zero, List.set_cons_succ]
        refine wpAnyH_take (i := 22) (v := _) rfl (by kernel_rfl) (by kernel_rfl) (by kernel_rfl) (fun _ _ _ h => h) (Or.inr ⟨by rfl, rfl⟩) (by assumption) ?_
        try simp only [Act.put, List.getElem_toArray, List.getElem_cons_zero, List.getElem_cons_succ, List.setIfInBounds_toArray, List.set_cons_zero, List.set_cons_succ]
        refine wpAnyH_take (i := 23) (v := _) rfl (by kernel_rfl) (by kernel_rfl) (by kernel_rfl) (fun _ _ _ h => h) (Or.inr ⟨by rfl, rfl⟩) (by assumption) ?_
        try simp only [Act.put, List.getElem_toArray, List.getElem_cons_zero, List.getElem_cons_succ, List.setIfInBounds_toArray, List.set_cons_zero, List.set_cons_succ]
        refine wpAnyH_take (i := 24) (v := _) rfl (by kernel_rfl) (by kernel_rfl) (by kernel_rfl) (fun _ _ _ h => h) (Or.inr ⟨by rfl, rfl⟩) (by assumption) ?_
        try simp only [Act.put, List.getElem_toArray, List.getElem_cons_zero, List.getElem_cons_succ, List.setIfInBounds_toArray, List.set_cons_zero, List.set_cons_succ]
        refine wpAnyH_take (i := 25) (v := ?_) rfl (by kernel_rfl) (by kernel_rfl) (by kernel_rfl) (fun _ _ _ h => h) (Or.inl ⟨by rfl, ?_⟩) (by assumption) ?_
        rotate_left
        · intro w hSw
          try dsimp only at hSw
          go_simp
          try with_reducible rfl
        try simp only [Act.put, List.getElem_toArray, List.getElem_cons_zero, List.getElem_cons_succ, List.setIfInBounds_toArray, List.set_cons_zero, List.set_cons_succ]
        refine wpAnyH_take (i := 26) (v := ?_) rfl (by kernel_rfl) (by kernel_rfl) (by kernel_rfl) (fun _ _ _ h => h) (Or.inl ⟨by rfl, ?_⟩) (by assumption) ?_
        rotate_left
        · intro w hSw
          try dsimp only at hSw
          go_simp
          try with_reducible rfl
        try simp only [Act.put, List.getElem_toArray, List.getElem_cons_zero, List.getElem_cons_succ, List.setIfInBounds_toArray, List.set_cons_zero, List.set_cons_succ]
        refine wpAnyH_done (by kernel_rfl) ?_ _
        go_wp2
        exact Met.intro (hJ3 _ _ ⟨⟨rfl, rfl, rfl, rfl, rfl, rfl, rfl, rfl, rfl, rfl, rfl, rfl⟩, rfl, rfl, HS.out.below (Aside0.out (by assumption))⟩)
    case rest =>
      clear HS
      rintro a' wr ⟨HF, e24, e339, HS⟩
      obtain ⟨u, hu, ha⟩ := HF.open
      have u24 := (hu 24).trans e24
      have u339 := (hu 339).trans e339
      subst ha
      rw [u24, u339]
      clear hu HF e24 e339 u24 u339
      replace HS := Aside0.mk HS
      clear hn hr hi
      go_upto_block 9 with (fail)
      refine Cuts.use (c := blk 9) (check_who (L := L) (wh := wh) (tk := tk) (i := i) (r := r) HN.out.2.1 HN.out.2.2 ?f1 ?f2 ?f3 HS.out) ?rest2
      case f1 => exact ⟨rfl, rfl, rfl, rfl, rfl, rfl, rfl, rfl, rfl, rfl, rfl, rfl⟩
      case f2 => rfl
      case f3 => rfl
      rintro a' wr ⟨HF, e24, HS⟩
      obtain ⟨u, hu, ha⟩ := HF.open
      have u24 := (hu 24).trans e24
      subst ha
      rw [u24]
      clear hu HF e24 u24
      replace HS := Aside0.mk HS
      go_wp2
      refine Handed.intro (gk - 1) (by have := HN.out; omega) (hJ2 _ _ _ ⟨r + 1, by have := HN.out; omega, ⟨rfl, rfl, rfl, rfl, rfl, rfl, rfl, rfl, rfl, rfl, rfl, rfl⟩, congrArg (Value.int .i64) (by omega), HS.out⟩)
  · have d1 : decide ((r : Int) < 4) = false := decide_eq_false (by omega)
    replace HS := Aside0.mk HS
    go_wp2
    exact Met.intro (hJ _ _ ⟨⟨rfl, rfl, rfl, rfl, rfl, rfl, rfl, rfl, rfl, rfl, rfl, rfl⟩, HS.out⟩)
end
end Go.Proofs.Ytljahhgankcalaa

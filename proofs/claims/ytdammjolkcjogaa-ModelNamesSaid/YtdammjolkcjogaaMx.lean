import Derived.Test.YtdammjolkcjogaaMw
/-! ModelNames: the walk. -/
namespace Go.Proofs.Ytdammjolkcjogaa
open Go.RowKit Go.Maps Go.MapKept Go.WideMaps Go.Shelf
open Go.Proofs.YtdammjolkcjogaaW.PrintWords Go.Proofs.YtdammjolkcjogaaW.PrintLast Go.Proofs.YtdammjolkcjogaaW.PrintMore
open PModelNames
set_option linter.unusedVariables false
set_option linter.unusedSimpArgs false

theorem tabs_empty {m : Nat} {F : Nat → Prop} {w : World} (H : InstIs w m MI.empty F []) : Calls Try.prog 10 #[.pointer (some ⟨m, 0, none⟩)] w fun e w' => ∃ A c, e = .returned (.slice A 0 c) ∧ Below w.heap.size w w' := by
  obtain ⟨mb, tb, rv, H, hD⟩ := H
  refine (tables_calls H hD (by simp)).mono ?_
  rintro e w' ⟨v, l, rfl, hR, hT, hB⟩
  have hl : l = [] := List.eq_nil_iff_forall_not_mem.2 (fun x hx => by
    obtain ⟨i, hi⟩ := (hT.2 x).1 hx
    exact hi rfl)
  subst hl
  obtain ⟨A, c, e⟩ := Kd.R_slice hR
  exact ⟨A, c, by rw [e]; rfl, hB⟩
theorem tabs_some {m : Nat} {F : Nat → Prop} {w : World} {I : MI} {D : List Int} (H : InstIs w m I F D) (hl : D.length ≤ 1000000) (h : I.rows 1 1 ≠ none) : Calls Try.prog 10 #[.pointer (some ⟨m, 0, none⟩)] w fun e w' => ∃ v x T, e = .returned v ∧ Kd.R kInt 3 w' w.heap.size (fun _ => True) v (x :: T) ∧ Below w.heap.size w w' := by
  obtain ⟨mb, tb, rv, H, hD⟩ := H
  refine (tables_calls H hD hl).mono ?_
  rintro e w' ⟨v, l, rfl, hR, hT, hB⟩
  have h1 : (1 : Int) ∈ l := (hT.2 1).2 ⟨1, h⟩
  cases l with
  | nil => cases h1
  | cons x T => exact ⟨v, x, T, rfl, hR, hB⟩
def lawI : MI := MI.empty.put 1 1 []
set_option maxRecDepth 100000 in
set_option maxHeartbeats 4000000 in
theorem names_law (w : World) : Calls Try.prog 3 #[] w fun e w' => e = .returned (.bool true) ∧ Below w.heap.size w w' := by
  have p1 := Aside0.mk (fun (W : World) (no i : Int) (v : Value) => put_nil W no i v)
  have p2 := Aside0.mk (fun (W : World) (no i : Int) => del_nil W no i)
  have p3 := Aside0.mk (fun (W : World) (no i : Int) => row_nil W no i)
  go_enter Try.func3, Try.ntmps3
  go_wp2_with fail
  refine (p1.out _ _ _ _).mono ?_
  rintro e wq ⟨rfl, hq⟩
  rw [hq]
  clear hq
  go_wp2_with fail
  refine (p2.out _ _ _).mono ?_
  rintro e wq ⟨rfl, hq⟩
  rw [hq]
  clear hq
  go_wp2_with fail
  refine (p3.out _ _ _).mono ?_
  rintro e wq ⟨rfl, hq⟩
  rw [hq]
  clear hq
  clear p1 p2 p3
  go_wp2_with fail
  refine (new_calls _).mono ?_
  rintro e w1 ⟨m, rfl, hm, H1, b1⟩
  have hput : Calls Try.prog 5 #[.pointer (some ⟨m, 0, none⟩), .int .i64 1, .int .i64 1, .slice none 0 0] w1 fun e w' => e = .returned (.tuple #[]) ∧ ∃ F, InstIs w' m lawI F [1] ∧ Below w'.heap.size w' w' ∧ w1.heap.size ≤ w'.heap.size ∧ Chg w1 w' (fun k => w.heap.size ≤ k) := by
    obtain ⟨mb, tb, rv, H, hD⟩ := H1
    refine (put_calls H hD 1 1 (okI_small (by decide) (by decide)) (okI_small (by decide) (by decide)) none 0 [] (fun W hc => C_none _ _ _) (Nat.le_refl _) (by decide)).mono ?_
    rintro e w' ⟨rfl, h1, h2⟩
    exact ⟨rfl, _, h1, Below.refl _ _, h2.size, h2.mono (fun k _ hk => hk.1)⟩
  replace b1 := Aside0.mk b1
  clear H1 hm
  go_wp2_with fail
  refine hput.mono ?_
  clear hput
  rintro e w2 ⟨rfl, F, H2, _, hs2, hc2⟩
  have b2 := Aside0.mk (b1.out.trans (hc2.below b1.out.size (fun k hk => hk)))
  have hrow : Calls Try.prog 7 #[.pointer (some ⟨m, 0, none⟩), .int .i64 1, .int .i64 1] w2 fun e w' => ∃ A c, e = .returned (.tuple #[.slice A 0 c, .bool true]) ∧ Below w2.heap.size w2 w' := by
    obtain ⟨mb, tb, rv, H, hD⟩ := H2
    have hr : lawI.rows 1 1 = some [] := rfl
    have h := row_calls H 1 1 (okI_small (by decide) (by decide)) (okI_small (by decide) (by decide)) (fun l hl => by rw [hr] at hl; injection hl with hl; subst hl; decide)
    rw [hr] at h
    refine h.mono ?_
    rintro e w' ⟨v, rfl, hv, hB⟩
    obtain ⟨A, c, ev⟩ := Kd.R_slice hv
    exact ⟨A, c, by rw [ev]; rfl, hB⟩
  have HM := Aside0.mk H2
  clear H2 hs2 hc2
  go_wp2_with fail
  refine hrow.mono ?_
  clear hrow
  rintro e w3 ⟨A3, c3, rfl, hB3⟩
  have m3 := Aside0.mk hB3
  clear hB3
  go_wp2_with fail
  refine (next_nil _ _).mono ?_
  rintro e wq ⟨rfl, hq⟩
  rw [hq]
  clear hq
  go_wp2_with fail
  refine (tables_nil _).mono ?_
  rintro e w4 ⟨rfl, hB4⟩
  replace m3 := Aside0.mk (m3.out.trans (hB4.mono m3.out.size))
  clear hB4
  go_wp2_with fail
  refine (ids_calls w4 (.pointer none) 1 [] (.inl rfl) (fun _ => False) (tells_nil w4 1 _)).mono ?_
  rintro e w5 ⟨v5, rfl, hv5, hB5⟩
  obtain ⟨A5, c5, e5⟩ := Kd.R_slice hv5
  have e5' : v5 = .slice A5 0 c5 := e5
  subst e5'
  have m5 := Aside0.mk (m3.out.trans (hB5.mono m3.out.size))
  clear hv5 hB5 e5 m3
  have hf := find_calls (w5.alloc (.cells #[.int .i64 0] 3)) (.pointer none) 1 (some ⟨w5.heap.size, 0, none⟩) none 1 1 0 0 [] (.inl rfl) (fun _ => False) (fun _ => true) (tells_nil _ 1 _) (fun _ _ _ h => h.elim)
  go_wp2_with fail
  refine hf.mono ?_
  clear hf
  rintro e w6 ⟨v6, rfl, hv6, hB6⟩
  obtain ⟨A6, c6, e6⟩ := Kd.R_slice hv6
  have e6' : v6 = .slice A6 0 c6 := e6
  subst e6'
  have m6 := Aside0.mk (m5.out.trans ((((Below.refl _ w5).alloc (Nat.le_refl _) (.cells #[.int .i64 0] 3)).trans (hB6.mono (by simp))).mono m5.out.size))
  clear hv6 hB6 e6 m5
  go_wp2_with fail
  refine (len_nil _).mono ?_
  rintro e w7 ⟨rfl, hB7⟩
  have m7 := Aside0.mk (m6.out.trans (hB7.mono m6.out.size))
  clear hB7 m6
  go_wp2_with fail
  refine (copy_nil _).mono ?_
  rintro e wq ⟨rfl, hq⟩
  rw [hq]
  clear hq
  go_wp2_with fail
  refine (new_calls _).mono ?_
  rintro e w8 ⟨m8, rfl, _, H8, hB8⟩
  have m8b := Aside0.mk (m7.out.trans (hB8.mono m7.out.size))
  have hs8 := same_nobody (.pointer (some ⟨m8, 0, none⟩)) w8 (fun W hW => tabs_empty (H8.below hW))
  clear H8 hB8 m7
  go_wp2_with fail
  refine hs8.mono ?_
  clear hs8
  rintro e w9 ⟨rfl, hB9⟩
  have m9 := Aside0.mk (m8b.out.trans (hB9.mono m8b.out.size))
  clear hB9 m8b
  have hs9 := same_nobody (.pointer none) w9 (fun W hW => (tables_nil W).mono (fun e w' h => ⟨none, 0, h.1, h.2⟩))
  go_wp2_with fail
  refine hs9.mono ?_
  clear hs9
  rintro e w10 ⟨rfl, hB10⟩
  have m10 := Aside0.mk (m9.out.trans (hB10.mono m9.out.size))
  clear hB10 m9
  have hs10 := same_not (.pointer (some ⟨m, 0, none⟩)) w10 (fun W hW => tabs_some (HM.out.below (m10.out.trans (hW.mono m10.out.size))) (by decide) (fun h => by cases h))
  go_wp2_with fail
  refine hs10.mono ?_
  clear hs10
  rintro e w11 ⟨rfl, hB11⟩
  have m11 := Aside0.mk (m10.out.trans (hB11.mono m10.out.size))
  clear hB11 m10
  go_wp2_with fail
  refine (awake_calls _).mono ?_
  rintro e w12 ⟨rfl, hB12⟩
  have b12 := Aside0.mk (b2.out.trans ((m11.out.trans (hB12.mono m11.out.size)).mono b2.out.size))
  clear hB12 m11
  go_wp2
  go_ret
  exact ⟨rfl, b12.out⟩
end Go.Proofs.Ytdammjolkcjogaa

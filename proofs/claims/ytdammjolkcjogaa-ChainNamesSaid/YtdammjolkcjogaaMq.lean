import Derived.Test.YtdammjolkcjogaaMo
/-! model: Put, Row, Next; nobody's instance. -/
namespace Go.Proofs.Ytdammjolkcjogaa
open Go.RowKit Go.Maps Go.MapKept Go.WideMaps
open Go.Proofs.YtdammjolkcjogaaW.PrintWords Go.Proofs.YtdammjolkcjogaaW.PrintLast Go.Proofs.YtdammjolkcjogaaW.PrintMore
open PModelNames
attribute [local go_sem] max2_mx max_two
set_option linter.unusedVariables false
set_option linter.unusedSimpArgs false

section
variable {w : World} {m : Nat} {I : MI} {F : Nat → Prop} {mb : Nat} {tb : Int → Option (Nat × Nat)} {rv : Int → Int → Option Value}
set_option maxRecDepth 100000 in
set_option maxHeartbeats 2000000 in
theorem put_calls {D : List Int} (H : InstAt w m I F mb tb rv) (hD : ∀ n x, tb n = some x → n ∈ D) (no i : Int) (ho : okI no) (hoi : okI i) (A : Option Addr) (c : Nat) (xs : List AVal) (hC : ∀ W, Chg w W F → Kd.C kVal W A xs.length xs) (hc : xs.length ≤ c) (hl : xs.length < 3518437208883) :
    Calls Try.prog 5 #[.pointer (some ⟨m, 0, none⟩), .int .i64 no, .int .i64 i, .slice A xs.length c] w fun e w' => e = .returned (.tuple #[]) ∧ InstIs w' m (I.put no i xs) (ext F w w') (no :: D) ∧ Chg w w' F := by
  have htab := table_calls H no ho
  have hbd := Aside0.mk H.bound
  have HC := Aside0.mk (And.intro hC (And.intro hc (And.intro hl (And.intro hoi hD))))
  clear H hC hc hl hoi hD
  go_enter Try.func5, Try.ntmps5
  go_wp2_with fail
  refine htab.mono ?_
  clear htab
  rintro e w1 ⟨t, r, tb', rfl, H1, ht, hc1, hdm⟩
  replace hdm := Aside0.mk (fun n x (h : tb' n = some x) => (show n ∈ no :: D from (by
    rcases hdm n x h with e | e
    · rw [e]; simp
    · exact List.mem_cons_of_mem _ (HC.out.2.2.2.2 n x e))))
  have c0 := blk_cell (H1.tabs no t r ht).1 0
  simp at c0
  have hcl := Aside0.mk (fun (W : World) (hB : Below w1.heap.size w1 W) => cloneC A c xs W (HC.out.1 W (hc1.then_below hB)) HC.out.2.1 HC.out.2.2.1)
  have hst := Aside0.mk (fun (W : World) (hB : Below w1.heap.size w1 W) (v : Value) => ((H1.below hB).tabs no t r ht).2.1.store keyInt Try.underlying57 HC.out.2.2.2.1 v)
  have htr := (H1.tne ht).2.2
  have htl := H1.bound t (H1.tabs no t r ht).2.2.1
  replace H1 := Aside0.mk (And.intro H1 (And.intro ht hc1))
  clear ht hc1
  go_upto_region 2 with (fail)
  go_region_held3 (fun W => W.cell? ⟨t, 0, none⟩ = some (.map (some r))) (go_keep) ((go_at_call 22; refine (hcl.out _ (Below.refl _ _).drew).mono ?_; rintro e w5 ⟨v, rfl, hv, hB⟩; have hB5 := ((Below.refl w1.heap.size w1).drew).trans hB; have f5 := (hB5.cell (p := ⟨t, 0, none⟩) htl).trans c0; obtain ⟨w6, hup, hm6, hc6, hs6⟩ := hst.out w5 hB5 v; simp only [id] at hup; have f6 := hc6.cell_some (p := ⟨t, 0, none⟩) f5 htr; replace hB5 := Aside0.mk hB5; replace hm6 := Aside0.mk hm6; replace hc6 := Aside0.mk hc6; replace hv := Aside0.mk hv; clear hB))
  all_goals
    have H6 := H1.out.1.putrow H1.out.2.1 hB5.out hv.out hm6.out hc6.out
    have b1 := (H6.tabs no t r H1.out.2.1).1
    have c1 := blk_cell b1 1
    have g1 := blk_frozen b1 1
    simp at c1
    have c1' : w6.cell? ⟨t, 1, none⟩ = some (.int .i64 (I.last no)) := c1
    have H7 := H6.setlast H1.out.2.1 (mx (I.last no) i)
    have hF : Aside0 (InstIs (w6.setCell ⟨t, 1, none⟩ (.int .i64 (mx (I.last no) i))) m (I.put no i xs) (ext F w (w6.setCell ⟨t, 1, none⟩ (.int .i64 (mx (I.last no) i)))) (no :: D) ∧ Chg w (w6.setCell ⟨t, 1, none⟩ (.int .i64 (mx (I.last no) i))) F) := ⟨by
      have s1 := H1.out.2.2.size
      have s5 := hB5.out.size
      have s6 := hc6.out.size
      have s7 := H7.2.size
      obtain ⟨_, _, a3, a4, _⟩ := H1.out.1.tabs no t r H1.out.2.1
      refine ⟨⟨mb, tb', _, H7.1.mono (fun k hk => ?_) (fun k hk => ?_), hdm.out⟩, ?_⟩
      · rcases hk with (hk | hk) | hk
        · exact .inl hk
        · exact .inr (by omega)
        · exact .inr (by omega)
      · rcases hk with hk | hk
        · have := hbd.out k hk; omega
        · exact hk.2
      · refine (((H1.out.2.2.then_below hB5.out).then_ hc6.out (fun k hk e => ?_)).then_ H7.2 (fun k hk e => ?_))
        · subst e
          rcases a4 with h | h
          · exact h
          · omega
        · subst e
          rcases a3 with h | h
          · exact h
          · omega⟩
    clear H6 H7 b1 c1
    go_wp2
    go_end0
    exact ⟨rfl, hF.out.1, hF.out.2⟩
end
end Go.Proofs.Ytdammjolkcjogaa

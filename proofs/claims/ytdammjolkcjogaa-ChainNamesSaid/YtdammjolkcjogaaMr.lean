import Derived.Test.YtdammjolkcjogaaMq
/-! model: Row, Next; nobody's instance. -/
namespace Go.Proofs.Ytdammjolkcjogaa
open Go.RowKit Go.Maps Go.MapKept Go.WideMaps
open Go.Proofs.YtdammjolkcjogaaW.PrintWords Go.Proofs.YtdammjolkcjogaaW.PrintLast Go.Proofs.YtdammjolkcjogaaW.PrintMore
open PModelNames
set_option linter.unusedVariables false
set_option linter.unusedSimpArgs false

section
variable {w : World} {m : Nat} {I : MI} {F : Nat → Prop} {mb : Nat} {tb : Int → Option (Nat × Nat)} {rv : Int → Int → Option Value}
set_option maxRecDepth 100000 in
set_option maxHeartbeats 2000000 in
theorem row_calls (H : InstAt w m I F mb tb rv) (no i : Int) (ho : okI no) (hoi : okI i) (hl : ∀ l, I.rows no i = some l → l.length < 3518437208883) :
    Calls Try.prog 7 #[.pointer (some ⟨m, 0, none⟩), .int .i64 no, .int .i64 i] w fun e w' => ∃ v, e = .returned (.tuple #[v, .bool (I.rows no i).isSome]) ∧ Kd.R kVal 53 w' w.heap.size (fun _ => True) v ((I.rows no i).getD []) ∧ Below w.heap.size w w' := by
  have hlk := H.amap.look keyInt Try.underlying60 (Try.zeroTab _) false ho
  have c0 := blk_cell H.blk 0
  simp at c0
  cases h : tb no with
  | none =>
    rw [h] at hlk
    have hlk2 : (Instr.lookup 60 (.map (some mb)) (.int .i64 no) false).run Try.prog w = .ok (.pointer none) w := hlk
    rw [H.none_ no i ((H.off no h).1 i)]
    clear H hlk h hl
    go_enter Try.func7, Try.ntmps7
    go_wp2
    go_ret2
    exact ⟨_, rfl, Kd.R_nil _ _ _ _ _, Below.refl _ _⟩
  | some x =>
    obtain ⟨t, r⟩ := x
    rw [h] at hlk
    have hlk2 : (Instr.lookup 60 (.map (some mb)) (.int .i64 no) false).run Try.prog w = .ok (.pointer (some ⟨t, 0, none⟩)) w := hlk
    obtain ⟨b1, b2, _, _, _⟩ := H.tabs no t r h
    have c1 := blk_cell b1 0
    simp at c1
    have hlr := b2.look keyInt Try.underlying57 (Try.zeroRow w) true hoi
    cases hv : rv no i with
    | none =>
      rw [hv] at hlr
      have hlr2 : (Instr.lookup 57 (.map (some r)) (.int .i64 i) true).run Try.prog w = .ok (.tuple #[.slice none 0 0, .bool false]) w := hlr
      rw [H.none_ no i hv]
      have hcl := cloneVals_nil 0 w
      clear H hlk h hl hlr hv b1 b2
      go_enter Try.func7, Try.ntmps7
      go_wp2_with (go_at_call 22; refine hcl.mono ?_; rintro e w' ⟨rfl, rfl⟩)
      go_ret2
      exact ⟨_, rfl, Kd.R_nil _ _ _ _ _, Below.refl _ _⟩
    | some v =>
      rw [hv] at hlr
      have hlr2 : (Instr.lookup 57 (.map (some r)) (.int .i64 i) true).run Try.prog w = .ok (.tuple #[v, .bool true]) w := hlr
      obtain ⟨l, hr, hR⟩ := H.vals no i v hv
      rw [hr]
      have hcl := cloneVals v l w F hR (hl l hr)
      clear H hlk h hl hlr hv b1 b2 hR hr
      go_enter Try.func7, Try.ntmps7
      go_wp2_with (go_at_call 22; refine hcl.mono ?_; rintro e w' ⟨v1, rfl, hr, hB⟩; replace hr := Aside0.mk hr; replace hB := Aside0.mk hB)
      go_ret2
      exact ⟨_, rfl, hr.out, hB.out⟩
set_option maxRecDepth 100000 in
set_option maxHeartbeats 2000000 in
theorem next_calls {D : List Int} (H : InstAt w m I F mb tb rv) (hD : ∀ n x, tb n = some x → n ∈ D) (no : Int) (ho : okI no) (h0 : 0 ≤ I.last no) (h1 : I.last no < 1000000000000) :
    Calls Try.prog 9 #[.pointer (some ⟨m, 0, none⟩), .int .i64 no] w fun e w' => e = .returned (.int .i64 (I.last no + 1)) ∧ InstIs w' m (I.withLast no (I.last no + 1)) (ext F w w') (no :: D) ∧ Chg w w' F := by
  have htab := table_calls H no ho
  have w1a : IntKind.wrap .i64 (I.last no + 1) = I.last no + 1 := by rw [IntKind.wrap_i64]; omega
  have hbd := Aside0.mk H.bound
  have HDD := Aside0.mk hD
  clear H h0 h1 hD
  go_enter Try.func9, Try.ntmps9
  go_wp2_with fail
  refine htab.mono ?_
  clear htab
  rintro e w1 ⟨t, r, tb', rfl, H1, ht, hc1, hdm⟩
  replace hdm := Aside0.mk (fun n x (h : tb' n = some x) => (show n ∈ no :: D from (by
    rcases hdm n x h with e | e
    · rw [e]; simp
    · exact List.mem_cons_of_mem _ (HDD.out n x e))))
  have b1 := (H1.tabs no t r ht).1
  have a3 := (H1.tabs no t r ht).2.2.1
  have c1 := blk_cell b1 1
  have g1 := blk_frozen b1 1
  simp at c1
  have H7 := H1.setlast ht (I.last no + 1)
  have hF : Aside0 (InstIs (w1.setCell ⟨t, 1, none⟩ (.int .i64 (I.last no + 1))) m (I.withLast no (I.last no + 1)) (ext F w (w1.setCell ⟨t, 1, none⟩ (.int .i64 (I.last no + 1)))) (no :: D) ∧ Chg w (w1.setCell ⟨t, 1, none⟩ (.int .i64 (I.last no + 1))) F) := ⟨by
    have s1 := hc1.size
    have s7 := H7.2.size
    refine ⟨⟨mb, tb', _, H7.1.mono (fun k hk => ?_) (fun k hk => ?_), hdm.out⟩, hc1.then_ H7.2 (fun k hk e => ?_)⟩
    · rcases hk with hk | hk
      · exact .inl hk
      · exact .inr (by omega)
    · rcases hk with hk | hk
      · have := hbd.out k hk; omega
      · exact hk.2
    · subst e
      rcases a3 with h | h
      · exact h
      · omega⟩
  clear H1 H7 b1 a3 hc1 ht
  go_wp2
  go_ret
  exact ⟨rfl, hF.out.1, hF.out.2⟩
end
section
variable (w : World)
theorem put_nil (no i : Int) (v : Value) : Calls Try.prog 5 #[.pointer none, .int .i64 no, .int .i64 i, v] w fun e w' => e = .returned (.tuple #[]) ∧ w' = w := by
  go_enter Try.func5, Try.ntmps5
  go_wp2
  first | go_end0 | (refine bodyPost_ret (results_none rfl _ _ _) rfl ?_)
  exact ⟨rfl, rfl⟩
theorem del_nil (no i : Int) : Calls Try.prog 6 #[.pointer none, .int .i64 no, .int .i64 i] w fun e w' => e = .returned (.tuple #[]) ∧ w' = w := by
  go_enter Try.func6, Try.ntmps6
  go_wp2
  first | go_end0 | (refine bodyPost_ret (results_none rfl _ _ _) rfl ?_)
  exact ⟨rfl, rfl⟩
theorem row_nil (no i : Int) : Calls Try.prog 7 #[.pointer none, .int .i64 no, .int .i64 i] w fun e w' => e = .returned (.tuple #[.slice none 0 0, .bool false]) ∧ w' = w := by
  go_enter Try.func7, Try.ntmps7
  go_wp2
  go_ret2
  exact ⟨rfl, rfl⟩
theorem next_nil (no : Int) : Calls Try.prog 9 #[.pointer none, .int .i64 no] w fun e w' => e = .returned (.int .i64 0) ∧ w' = w := by
  go_enter Try.func9, Try.ntmps9
  go_wp2
  go_ret
  exact ⟨rfl, rfl⟩
theorem tables_nil : Calls Try.prog 10 #[.pointer none] w fun e w' => e = .returned (.slice none 0 0) ∧ Below w.heap.size w w' := by
  go_enter Try.func10, Try.ntmps10
  go_wp2
  go_ret
  exact ⟨rfl, (Below.refl _ w).alloc (Nat.le_refl _) _⟩
theorem copy_nil : Calls Try.prog 14 #[.pointer none] w fun e w' => e = .returned (.pointer none) ∧ w' = w := by
  go_enter Try.func14, Try.ntmps14
  go_wp2
  go_ret
  exact ⟨rfl, rfl⟩
set_option maxRecDepth 100000 in
theorem len_nil : Calls Try.prog 13 #[.pointer none] w fun e w' => e = .returned (.int .i64 0) ∧ Below w.heap.size w w' := by
  have ht := tables_nil w
  go_enter Try.func13, Try.ntmps13
  go_wp2_with (go_at_call 10; refine ht.mono ?_; rintro e w1 ⟨rfl, hB⟩; replace hB := Aside0.mk hB)
  go_loopw [3, 9] (fun v3 v9 wr => v3 = .int .i64 0 ∧ v9 = .int .i64 0 ∧ wr = w1) (fun v3 v9 _ => 0)
  case atStart => exact ⟨rfl, rfl, rfl⟩
  case round =>
    obtain ⟨rfl, rfl, rfl⟩ := hrel
    go_wp2
    go_ret
    exact ⟨rfl, hB.out⟩
end
end Go.Proofs.Ytdammjolkcjogaa

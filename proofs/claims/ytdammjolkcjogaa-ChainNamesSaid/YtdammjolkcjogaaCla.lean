import Derived.Test.YtdammjolkcjogaaCl0
import Derived.Shelf.SlMaps.Clone
import Derived.Laws.Externs
/-! model: maps.Clone; Copy of an instance. -/
namespace Go.Proofs.Ytdammjolkcjogaa
open Go.RowKit Go.Maps Go.MapKept Go.WideMaps
open Go.Proofs.YtdammjolkcjogaaW.PrintWords Go.Proofs.YtdammjolkcjogaaW.PrintLast Go.Proofs.YtdammjolkcjogaaW.PrintMore
open PModelNames
set_option linter.unusedVariables false
set_option linter.unusedSimpArgs false

abbrev tRows : TypeId := 57
set_option maxRecDepth 100000 in
theorem Try.ext_clone {w : World} {r : Nat} {es : Array MapEntry} {clock : Nat} (hb : w.heap[r]? = some (.map es clock)) : (callFunc 52 #[.iface tRows (.map (some r))]).run Try.prog w = .ok (.value (.iface tRows (.map (some w.heap.size)))) (w.alloc (.map es clock)) := by
  rw [run_callFunc_extern Try.func52 (by kernel_rfl) (by kernel_rfl) (by kernel_rfl) (show Extern.find Try.f52 = some Extern.MapsClone.clone by kernel_rfl), run_maps_clone_sl w tRows hb]
  rfl
set_option maxRecDepth 100000 in
set_option maxHeartbeats 1000000 in
theorem mclone_calls {w : World} {r : Nat} {g : Int → Option Value} (h : MapOf (Value.int .i64) id okI w r g) : Calls Try.prog 29 #[.map (some r)] w fun e w' => ∃ r', e = .returned (.map (some r')) ∧ w.heap.size ≤ r' ∧ MapOf (Value.int .i64) id okI w' r' g ∧ Below w.heap.size w w' := by
  obtain ⟨es, clock, hb, hs, h1, h2⟩ := h
  have hx := Try.ext_clone hb
  have hq := fun w => run_eql_map_nil_sl (P := Try.prog) w tRows _ _ (some r) Try.underlying57
  have hM : Aside0 (MapOf (Value.int .i64) id okI (w.alloc (.map es clock)) w.heap.size g) := ⟨es, clock, heap_alloc_new w _, hs, h1, h2⟩
  clear h1 h2 hs hb
  go_enter Try.func29, Try.ntmps29
  go_wp2
  rw [run_typeAssert_map_sl _ tRows _ _ _ _ Try.underlying57]
  simp only [Result.andThen]
  rw [Oper.upon_value]
  go_wp2
  go_ret
  exact ⟨_, rfl, Nat.le_refl _, hM.out, (Below.refl _ w).alloc (Nat.le_refl _) _⟩
end Go.Proofs.Ytdammjolkcjogaa

import Derived.Test.YtahlcefjkcgciaaGreatKs
import Derived.Lib.Bytealg
import Derived.Laws.Externs
/-! The evaluator: a closed function that comes to true. -/
namespace Go.Proofs.YtahlcefjkcgciaaGreat.Ev
open Go Go.RowKit
set_option linter.unusedVariables false
set_option linter.unusedSimpArgs false

/-- strings.Compare, in assembly. -/
def cmpE : H → List V → Option V := fun _ args =>
  match args with
  | [.str a, .str b] => some (.int .i64 (Lib.compareBytes a b))
  | _ => none
def ext1 (g0 : FuncId) : ExtT := fun g => cond (Nat.beq g g0) (some cmpE) none
def noSpec : SpecT := fun _ => none
theorem noSpec_ok {P : Program} : SpecOk P noSpec := fun g f q => by cases q
theorem ext1_ok {P : Program} {g0 : FuncId} {fn : Func} (hf : P.funcs[g0]? = some fn) (hnm : (fn.name == "runtime.NumGoroutine") = false) (hb : fn.body.isNone = true) (hn : Extern.findNext fn = none) (he : Extern.find fn = some Extern.BytealgCompare.compare) : ExtOk P (ext1 g0) := by
  intro g f q w0 e h w args v hv R xs hx
  unfold ext1 at q
  cases hg : Nat.beq g g0 with
  | false => rw [hg] at q; cases q
  | true =>
    rw [hg] at q
    cases q
    have hg := Nat.eq_of_beq_eq_true hg
    subst hg
    unfold cmpE at hv
    split at hv
    · rename_i a b
      cases hv
      obtain ⟨x, r, rfl, h1, h2⟩ := vrels_cons.1 hx
      obtain ⟨y, r', rfl, h3, h4⟩ := vrels_cons.1 h2
      obtain rfl := vrels_nil.1 h4
      simp only [vrel] at h1 h3
      subst h1 h3
      refine ⟨_, ?_, by simp only [vrel]; rfl⟩
      rw [run_callFunc_extern hf hnm hb hn he]
      have := Lib.run_compareString (P := P) ⟨⟨a⟩⟩ ⟨⟨b⟩⟩ w
      rw [show (⟨[.string ⟨⟨a⟩⟩, .string ⟨⟨b⟩⟩]⟩ : Array Value) = #[.string ⟨⟨a⟩⟩, .string ⟨⟨b⟩⟩] from rfl, this]
      rfl
    · cases hv
theorem names_of {P : Program} (h : P.funcs.toList.all (fun fn => !(fn.name == "runtime.NumGoroutine")) = true) : ∀ (g : FuncId) (fn : Func), P.funcs[g]? = some fn → (fn.name == "runtime.NumGoroutine") = false := by
  intro g fn hg
  have hm : fn ∈ P.funcs.toList := by
    have := Array.mem_of_getElem? hg
    simpa using this
  have := List.all_eq_true.1 h fn hm
  simpa using this
def isTrueV : Option (V × H) → Bool
  | some (.bool true, _) => true
  | _ => false
def runE (P : Program) (ext : ExtT) (spec : SpecT) (d : Nat) (g : FuncId) : Bool := isTrueV (evCall P ext spec (drawV P) d (.fn g []) ⟨.leaf, 0⟩)
theorem calls_true {P : Program} {ext : ExtT} {spec : SpecT} {d : Nat} {g : FuncId} (hm : P.follows .mixedOrders = true) (hnm : ∀ (g : FuncId) (fn : Func), P.funcs[g]? = some fn → (fn.name == "runtime.NumGoroutine") = false) (hex : ExtOk P ext) (hsp : SpecOk P spec) (h : runE P ext spec d g = true) (W : World) :
    Calls P g #[] W fun e W' => e = .returned (.bool true) ∧ Below W.heap.size W W' := by
  unfold runE at h
  cases hq : evCall P ext spec (drawV P) d (.fn g []) ⟨.leaf, 0⟩ with
  | none => rw [hq] at h; cases h
  | some r =>
    obtain ⟨v, h'⟩ := r
    rw [hq] at h
    have hv : v = .bool true := by
      unfold isTrueV at h
      split at h
      · rename_i hh; cases hh; rfl
      · cases h
    subst hv
    have hc := evCall_ok hnm hex hsp (fun call hc => drawV_ok hm hc) d
    have R : Rel W ⟨fun _ => none, fun _ => none, 0⟩ ⟨.leaf, 0⟩ W :=
      ⟨fun b o k hb => (by cases hb), fun b k hk => (by cases hk), fun b k hk => (by cases hk), fun b b' k o o' hk => (by cases hk), fun b k hk => (by cases hk), Below.refl _ _, fun b _ => rfl, rfl⟩
    have := (hc.fn hq R [] (vrels_nil.2 rfl)).2 0
    refine (callsIn_wide.1 this).mono ?_
    rintro en w' ⟨e', x, rfl, h1, h2, h3⟩
    simp only [vrel] at h2
    subst h2
    exact ⟨rfl, h3.bel⟩
end Go.Proofs.YtahlcefjkcgciaaGreat.Ev

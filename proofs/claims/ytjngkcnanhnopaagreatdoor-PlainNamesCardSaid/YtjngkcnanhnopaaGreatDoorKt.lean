import Derived.Test.YtjngkcnanhnopaaGreatDoorKw
import Derived.Lib.Bytealg
import Derived.Laws.Externs
import Derived.MapKept
/-! The evaluator: a closed function that comes to true. -/
namespace Go.Proofs.YtjngkcnanhnopaaGreatDoor.Ev
open Go Go.RowKit
set_option linter.unusedVariables false
set_option linter.unusedSimpArgs false

/-- strings.Compare, in assembly. -/
def cmpE : H → List V → Option V := fun _ args =>
  match args with
  | [.str a, .str b] => some (.int .i64 (Lib.compareBytes a b))
  | _ => none
/-- strings.IndexByte, in assembly. -/
def idxE : H → List V → Option V := fun _ args =>
  match args with
  | [.str a, .int .u8 c] => some (.int .i64 (Lib.indexByte a c.toNat.toUInt8))
  | _ => none
def pureE (f : H → List V → Option V) : H → List V → Option (V × H) := fun h args => match f h args with
  | some v => some (v, h)
  | none => none
/-- maps.Clone's own. -/
def clnE : H → List V → Option (V × H) := fun h args =>
  match args with
  | [.iface t (.map (some r))] => (match h.get r with
    | some (.map es ls) => some (.iface t (.map (some h.nxt)), h.new (.map es ls))
    | _ => none)
  | _ => none
def extL : List (FuncId × (H → List V → Option (V × H))) → ExtT
  | [], _ => none
  | p :: l, g => cond (Nat.beq g p.1) (some p.2) (extL l g)
def ExtFOk (P : Program) (g : FuncId) (f : H → List V → Option (V × H)) : Prop := ∀ w0 e h w args v h', f h args = some (v, h') → Rel w0 e h w → ∀ xs, vrels e args xs → ∃ e' x w', (callFunc g ⟨xs⟩).run P w = .ok (.value x) w' ∧ e.le e' ∧ vrel e' v x ∧ Rel w0 e' h' w'
def ExtPOk (P : Program) (g : FuncId) (f : H → List V → Option V) : Prop := ∀ w0 e h w args v, f h args = some v → Rel w0 e h w → ∀ xs, vrels e args xs → ∃ x, (callFunc g ⟨xs⟩).run P w = .ok (.value x) w ∧ vrel e v x
theorem pureE_ok {P : Program} {g : FuncId} {f : H → List V → Option V} (hp : ExtPOk P g f) : ExtFOk P g (pureE f) := by
  intro w0 e h w args v h' q R xs hv
  unfold pureE at q
  split at q
  · rename_i v' hf
    cases q
    obtain ⟨x, h1, h2⟩ := hp w0 e h w args v hf R xs hv
    exact ⟨e, x, w, h1, E.le.refl e, h2, R⟩
  · cases q
theorem extL_ok {P : Program} : ∀ l : List (FuncId × (H → List V → Option (V × H))), (∀ p ∈ l, ExtFOk P p.1 p.2) → ExtOk P (extL l)
  | [], _ => fun g f q => by cases q
  | p :: l, hl => fun g f q => by
    unfold extL at q
    cases hg : Nat.beq g p.1 with
    | false => rw [hg] at q; exact extL_ok l (fun p hp => hl p (List.mem_cons_of_mem _ hp)) g f q
    | true =>
      rw [hg] at q
      cases q
      have hg := Nat.eq_of_beq_eq_true hg
      subst hg
      exact hl p List.mem_cons_self
def noSpec : SpecT := fun _ => none
theorem noSpec_ok {P : Program} : SpecOk P noSpec := fun g f q => by cases q
theorem cmpE_ok {P : Program} {g : FuncId} {fn : Func} (hf : P.funcs[g]? = some fn) (hnm : (fn.name == "runtime.NumGoroutine") = false) (hb : fn.body.isNone = true) (hn : Extern.findNext fn = none) (he : Extern.find fn = some Extern.BytealgCompare.compare) : ExtPOk P g cmpE := by
  intro w0 e h w args v hv R xs hx
  unfold cmpE at hv
  split at hv
  · rename_i a b
    cases hv
    obtain ⟨x, r, rfl, h1, h2⟩ := vrels_cons.1 hx
    obtain ⟨y, r', rfl, h3, h4⟩ := vrels_cons.1 h2
    obtain rfl := vrels_nil.1 h4
    simp only [vrel] at h1 h3
    subst h1 h3
    refine ⟨_, ?_, by simp only [vrel]; rfl⟩
    rw [run_callFunc_extern hf hnm hb hn he]
    have := Lib.run_compareString (P := P) ⟨⟨a⟩⟩ ⟨⟨b⟩⟩ w
    rw [show (⟨[.string ⟨⟨a⟩⟩, .string ⟨⟨b⟩⟩]⟩ : Array Value) = #[.string ⟨⟨a⟩⟩, .string ⟨⟨b⟩⟩] from rfl, this]
    rfl
  · cases hv
theorem idxE_ok {P : Program} {g : FuncId} {fn : Func} (hf : P.funcs[g]? = some fn) (hnm : (fn.name == "runtime.NumGoroutine") = false) (hb : fn.body.isNone = true) (hn : Extern.findNext fn = none) (he : Extern.find fn = some Extern.BytealgIndexByte.indexByte) : ExtPOk P g idxE := by
  intro w0 e h w args v hv R xs hx
  unfold idxE at hv
  split at hv
  · rename_i a c
    cases hv
    obtain ⟨x, r, rfl, h1, h2⟩ := vrels_cons.1 hx
    obtain ⟨y, r', rfl, h3, h4⟩ := vrels_cons.1 h2
    obtain rfl := vrels_nil.1 h4
    simp only [vrel] at h1 h3
    subst h1 h3
    refine ⟨_, ?_, by simp only [vrel]; rfl⟩
    rw [run_callFunc_extern hf hnm hb hn he]
    have := Lib.run_indexByteString (P := P) ⟨⟨a⟩⟩ c w
    rw [show (⟨[.string ⟨⟨a⟩⟩, .int .u8 c]⟩ : Array Value) = #[.string ⟨⟨a⟩⟩, .int .u8 c] from rfl, this]
    rfl
  · cases hv
theorem clnE_ok {P : Program} {g : FuncId} {fn : Func} (hf : P.funcs[g]? = some fn) (hnm : (fn.name == "runtime.NumGoroutine") = false) (hb : fn.body.isNone = true) (hn : Extern.findNext fn = none) (he : Extern.find fn = some Extern.MapsClone.clone) : ExtFOk P g clnE := by
  intro w0 e h w args v h' q R xs hx
  unfold clnE at q
  split at q
  · rename_i t r
    split at q
    · rename_i es ls hg
      cases q
      obtain ⟨x, r', rfl, h1, h2⟩ := vrels_cons.1 hx
      obtain rfl := vrels_nil.1 h2
      simp only [vrel] at h1
      obtain ⟨y, rfl, k, hk, rfl⟩ := h1
      obtain ⟨l, clk, es', t1, tp, t2, t3, t4, t5⟩ := R.map hg hk
      have hle : e.le (e.bind h.nxt (some w.heap.size) none) := E.bind_le R.rn R.kn R.ll
      refine ⟨e.bind h.nxt (some w.heap.size) none, .iface t (.map (some w.heap.size)), w.alloc (.map ⟨l⟩ clk), ?_, hle, ?_, ?_⟩
      · rw [run_callFunc_extern hf hnm hb hn he]
        have : (Extern.MapsClone.clone #[.iface t (.map (some k))]).run P w = .ok (.iface t (.map (some w.heap.size))) (w.alloc (.map ⟨l⟩ clk)) := by
          have e1 : Extern.MapsClone.clone #[.iface t (.map (some k))] = (getObj k >>= fun o => match o with
              | .map entries clock => (newObj (.map entries clock) >>= fun n => pure (.iface t (.map (some n))))
              | _ => stuck "maps.clone: a map expected") := rfl
          rw [e1]
          simp [MapKept.run_getObj_map t1, Result.andThen, go_sem]
        rw [show (⟨[.iface t (.map (some k))]⟩ : Array Value) = #[.iface t (.map (some k))] from rfl, this]
        rfl
      · simp only [vrel]
        exact ⟨_, rfl, _, E.bind_ρ _ _ _ _, rfl⟩
      · refine R.made (World.grownBy_alloc w (.map ⟨l⟩ clk) none) (Nat.le_refl _) (by rw [World.size_alloc]; exact Nat.lt_succ_self _) ?_
        rw [World.alloc_heap_new]
        exact ⟨l, clk, es', rfl, tp, mrel_mono hle t2, t3, t4, crel_mono hle t5⟩
    · cases q
  · cases q
theorem names_of {P : Program} (h : P.funcs.toList.all (fun fn => !(fn.name == "runtime.NumGoroutine")) = true) : ∀ (g : FuncId) (fn : Func), P.funcs[g]? = some fn → (fn.name == "runtime.NumGoroutine") = false := by
  intro g fn hg
  have hm : fn ∈ P.funcs.toList := by
    have := Array.mem_of_getElem? hg
    simpa using this
  have := List.all_eq_true.1 h fn hm
  simpa using this
def isTrueV : Option (V × H) → Bool
  | some (.bool true, h) => h.log.isEmpty
  | _ => false
noncomputable def runE (P : Program) (ext : ExtT) (spec : SpecT) (d : Nat) (g : FuncId) : Bool := isTrueV (evCall P ext spec (drawF P) d (.fn g []) ⟨.leaf, 0, 0, []⟩)
theorem calls_true {P : Program} {ext : ExtT} {spec : SpecT} {d : Nat} {g : FuncId} (hm : P.follows .mixedOrders = true) (hnm : ∀ (g : FuncId) (fn : Func), P.funcs[g]? = some fn → (fn.name == "runtime.NumGoroutine") = false) (hex : ExtOk P ext) (hsp : SpecOk P spec) (h : runE P ext spec d g = true) (W : World) :
    Calls P g #[] W fun e W' => e = .returned (.bool true) ∧ Below W.heap.size W W' := by
  unfold runE at h
  cases hq : evCall P ext spec (drawF P) d (.fn g []) ⟨.leaf, 0, 0, []⟩ with
  | none => rw [hq] at h; cases h
  | some r =>
    obtain ⟨v, h'⟩ := r
    rw [hq] at h
    have hv : v = .bool true ∧ h'.log = [] := by
      unfold isTrueV at h
      split at h
      · rename_i hh; cases hh; exact ⟨rfl, List.isEmpty_iff.1 h⟩
      · cases h
    obtain ⟨rfl, hlog⟩ := hv
    have hc := evCall_ok hnm hex hsp (fun call hc => drawF_ok hm hc) d
    have R : Rel W ⟨fun _ => none, fun _ => none, 0⟩ ⟨.leaf, 0, 0, []⟩ W :=
      ⟨fun b o k _ hk => (by cases hk), fun b k hk => (by cases hk), fun b k hk => (by cases hk), fun b b' k o o' hk => (by cases hk), fun b k hk => (by cases hk), ⟨rfl, rfl, rfl, Nat.le_refl _, fun _ _ _ => rfl⟩, fun b _ => Tr.get_leaf b, rfl⟩
    have := (hc.fn hq R [] (vrels_nil.2 rfl)).2 0
    refine (callsIn_wide.1 this).mono ?_
    rintro en w' ⟨e', x, rfl, h1, h2, h3⟩
    simp only [vrel] at h2
    subst h2
    exact ⟨rfl, h3.bel.below (fun k hk => by obtain ⟨b, hb, _⟩ := hk; rw [hlog] at hb; cases hb)⟩
end Go.Proofs.YtjngkcnanhnopaaGreatDoor.Ev

import Derived.Test.YtjngkcnanhnopaaGreatDoorKx
import Derived.Test.YtjngkcnanhnopaaGreatDoorKt
/-! The evaluator: calls, told by recursors. -/
namespace Go.Proofs.YtjngkcnanhnopaaGreatDoor.Ev
open Go Go.RowKit
set_option linter.unusedVariables false
set_option linter.unusedSimpArgs false

noncomputable def argK (l : List V) : Nat → Tr V → Tr V := List.rec (motive := fun _ => Nat → Tr V → Tr V) (fun _ t => t) (fun v _ ih i t => ih (Nat.succ i) (LP.rec (motive := fun _ => Tr V) (fun g => g (some v) t) (lensP i))) l
theorem argK_eq : ∀ (l : List V) (i : Nat) (t : Tr V), argK l i t = argTm i l t
  | [], _, _ => rfl
  | v :: l, i, t => argK_eq l (i + 1) (t.set i (some v))
noncomputable def resCellK (P : Program) (h : H) (t : TypeId) (v : V) : Option V := Option.rec (motive := fun _ => Option V) none (fun p => loadR P t h p) (asPtr v)
noncomputable def resLK (l : List ResultVar) : Program → Tr V → H → Option (List V) :=
  List.rec (motive := fun _ => Program → Tr V → H → Option (List V)) (fun _ _ _ => some []) (fun r _ ih P tm h => Option.rec (motive := fun _ => Option (List V)) none (fun v => Option.rec (motive := fun _ => Option (List V)) none (fun vs => some (v :: vs)) (ih P tm h))
    (ResultVar.rec (motive := fun _ => Option V) (fun t => tm.get t) (fun a t => Option.rec (motive := fun _ => Option V) none (resCellK P h t) (tm.get a)) r)) l
theorem resLK_eq (P : Program) (s : St) : ∀ l : List ResultVar, resLK l P s.tm s.h = resL P s l
  | [] => rfl
  | .tmp t :: l => by
    show Option.rec (motive := fun _ => Option (List V)) none (fun v => Option.rec (motive := fun _ => Option (List V)) none (fun vs => some (v :: vs)) (resLK l P s.tm s.h)) (s.tm.get t) = _
    rw [resLK_eq P s l]
    show _ = match s.tm.get t, resL P s l with
      | some v, some vs => some (v :: vs)
      | _, _ => none
    cases s.tm.get t with
    | none => rfl
    | some v => cases resL P s l <;> rfl
  | .cell a t :: l => by
    show Option.rec (motive := fun _ => Option (List V)) none (fun v => Option.rec (motive := fun _ => Option (List V)) none (fun vs => some (v :: vs)) (resLK l P s.tm s.h)) (Option.rec (motive := fun _ => Option V) none (resCellK P s.h t) (s.tm.get a)) = _
    rw [resLK_eq P s l]
    show _ = match s.tm.get a with
      | some (.ptr (some p)) => (match loadV P s.h t p, resL P s l with
        | some v, some vs => some (v :: vs)
        | _, _ => none)
      | _ => none
    cases s.tm.get a with
    | none => rfl
    | some v =>
      unfold resCellK
      dsimp only
      rw [asPtr_eq]
      cases v with
      | ptr q => cases q with
        | none => rfl
        | some p =>
          dsimp only
          rw [loadR_eq]
          cases loadV P s.h t p with
          | none => rfl
          | some v => cases resL P s l <;> rfl
      | _ => rfl
noncomputable def resVK (l : List V) : V := List.rec (motive := fun _ => V) (.tuple []) (fun v t _ => List.rec (motive := fun _ => V) v (fun _ _ _ => .tuple (v :: t)) t) l
theorem resVK_eq (l : List V) : resVK l = resV l := by
  cases l with
  | nil => rfl
  | cons v t => cases t <;> rfl
noncomputable def endK2 (P : Program) (fn : Func) (tm : Tr V) (h : H) : Option (V × H) := Option.rec (motive := fun _ => Option (V × H)) none (fun vs => some (resVK vs, h)) (resLK fn.results.toList P tm h)
noncomputable def endK (P : Program) (fn : Func) (s : St) (mk : List Nat) : Option (V × H) :=
  St.rec (motive := fun _ => Option (V × H)) (fun tm h => List.rec (motive := fun _ => Option (V × H)) (endK2 P fn tm h) (fun _ _ _ => evEnd P fn ⟨tm, h⟩ mk) mk) s
theorem endK_eq (P : Program) (fn : Func) (s : St) (mk : List Nat) : endK P fn s mk = evEnd P fn s mk := by
  obtain ⟨tm, h⟩ := s
  cases mk with
  | cons _ _ => rfl
  | nil =>
    show endK2 P fn tm h = _
    unfold endK2
    rw [resLK_eq P ⟨tm, h⟩]
    show _ = match resL P ⟨tm, h⟩ fn.results.toList with
      | some vs => some (resV vs, h)
      | none => none
    cases resL P ⟨tm, h⟩ fn.results.toList with
    | none => rfl
    | some vs => show some (resVK vs, h) = _; rw [resVK_eq]
noncomputable def bodyEnd (P : Program) (fn : Func) (r : Res) : Option (V × H) :=
  Option.rec (motive := fun _ => Option (V × H)) none (fun p => Prod.rec (motive := fun _ => Option (V × H)) (fun ex q => Prod.rec (motive := fun _ => Option (V × H)) (fun s mk => Ex.rec (motive := fun _ => Option (V × H)) (endK P fn s mk) (fun _ => none) (fun _ => none) (endK P fn s mk) ex) q) p) r
noncomputable def fnK (P : Program) (call : CallT) (draw : DrawT) (args : List V) (h : H) (fn : Func) : Option (V × H) :=
  Option.rec (motive := fun _ => Option (V × H)) none (fun c => Bool.rec (motive := fun _ => Option (V × H)) none (bodyEnd P fn (evKC c P call draw fn.ntmps none (St.mk (argK args 0 .leaf) h) [])) (Nat.ble args.length fn.ntmps)) fn.body
noncomputable def evFnK (P : Program) (spec : SpecT) (call : CallT) (draw : DrawT) (g : FuncId) (args : List V) (h : H) : Option (V × H) :=
  Option.rec (motive := fun _ => Option (V × H)) (Option.rec (motive := fun _ => Option (V × H)) none (fnK P call draw args h) ((funcT P).get g)) (fun f => f h args) (spec g)
theorem evFnK_eq (P : Program) (spec : SpecT) (call : CallT) (draw : DrawT) (g : FuncId) (args : List V) (h : H) : evFnK P spec call draw g args h = evFn P spec call draw g args h := by
  unfold evFnK evFn
  cases spec g with
  | some f => rfl
  | none =>
    dsimp only
    cases (funcT P).get g with
    | none => rfl
    | some fn =>
      dsimp only
      unfold fnK
      cases fn.body with
      | none => rfl
      | some c =>
        dsimp only
        cases Nat.ble args.length fn.ntmps with
        | false => rfl
        | true =>
          show bodyEnd P fn (evKC c P call draw fn.ntmps none ⟨argK args 0 .leaf, h⟩ []) = _
          rw [evKC_eq, argK_eq]
          simp only [cond_true]
          cases evR c P call draw fn.ntmps none ⟨argTm 0 args .leaf, h⟩ [] with
          | none => rfl
          | some p =>
            obtain ⟨ex, s, mk⟩ := p
            cases ex <;> first | rfl | exact endK_eq P fn s mk
noncomputable def evCallK (P : Program) (ext : ExtT) (spec : SpecT) (draw : CallT → DrawT) (d : Nat) : CallT :=
  Nat.rec (motive := fun _ => CallT) (fun _ _ => none) (fun _ ih task h => Task.rec (motive := fun _ => Option (V × H)) (fun g args => evFnK P spec ih (draw ih) g args h)
    (fun g args => Option.rec (motive := fun _ => Option (V × H)) (evFnK P spec ih (draw ih) g args h) (fun f => f h args) (ext g))
    (fun l args => evRound P ih (draw ih) l args h) task) d
theorem evCallK_eq (P : Program) (ext : ExtT) (spec : SpecT) (draw : CallT → DrawT) : ∀ d, evCallK P ext spec draw d = evCall P ext spec draw d
  | 0 => rfl
  | d + 1 => by
    funext task h
    show Task.rec (motive := fun _ => Option (V × H)) (fun g args => evFnK P spec (evCallK P ext spec draw d) (draw (evCallK P ext spec draw d)) g args h)
      (fun g args => Option.rec (motive := fun _ => Option (V × H)) (evFnK P spec (evCallK P ext spec draw d) (draw (evCallK P ext spec draw d)) g args h) (fun f => f h args) (ext g))
      (fun l args => evRound P (evCallK P ext spec draw d) (draw (evCallK P ext spec draw d)) l args h) task = _
    rw [evCallK_eq P ext spec draw d]
    cases task with
    | fn g args => exact evFnK_eq P spec _ _ g args h
    | call g args =>
      simp only [evCall]
      cases ext g with
      | none => exact evFnK_eq P spec _ _ g args h
      | some f => rfl
    | round l args => rfl
noncomputable def runK (P : Program) (ext : ExtT) (spec : SpecT) (d : Nat) (g : FuncId) : Bool := isTrueV (evCallK P ext spec (drawK P) d (.fn g []) ⟨.leaf, 0, 0, []⟩)
theorem runK_eq (P : Program) (ext : ExtT) (spec : SpecT) (d : Nat) (g : FuncId) : runK P ext spec d g = runE P ext spec d g := by
  unfold runK runE
  rw [evCallK_eq, show drawK P = drawF P from funext fun call => drawK_eq P call]
end Go.Proofs.YtjngkcnanhnopaaGreatDoor.Ev

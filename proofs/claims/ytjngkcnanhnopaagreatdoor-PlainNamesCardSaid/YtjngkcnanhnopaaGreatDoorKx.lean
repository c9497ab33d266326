import Derived.Test.YtjngkcnanhnopaaGreatDoorKw
/-! The evaluator's hot path, told by recursors: the same, and the kernel runs it faster. -/
namespace Go.Proofs.YtjngkcnanhnopaaGreatDoor.Ev
open Go Go.RowKit
set_option linter.unusedVariables false
set_option linter.unusedSimpArgs false

noncomputable def opdR (x : Operand) (tm : Tr V) : Option V :=
  Operand.rec (motive := fun _ => Option V) (fun t => LG.rec (motive := fun _ => Option V) (fun g => g tm) (lensG t)) (fun v => toV 12 v) (fun _ => none) (fun f => some (.func (.func f) [] [])) x
theorem opdR_eq (x : Operand) (tm : Tr V) : opdR x tm = evO tm x := by cases x <;> rfl
noncomputable def evLR (l : List Operand) : Tr V → Option (List V) :=
  List.rec (motive := fun _ => Tr V → Option (List V)) (fun _ => some []) (fun x _ ih tm => Option.rec (motive := fun _ => Option (List V)) none (fun v => Option.rec (motive := fun _ => Option (List V)) none (fun vs => some (v :: vs)) (ih tm)) (opdR x tm)) l
theorem evLR_eq (tm : Tr V) : ∀ l : List Operand, evLR l tm = evL tm l
  | [] => rfl
  | x :: l => by
    show Option.rec (motive := fun _ => Option (List V)) none (fun v => Option.rec (motive := fun _ => Option (List V)) none (fun vs => some (v :: vs)) (evLR l tm)) (opdR x tm) = _
    rw [opdR_eq, evLR_eq tm l]
    show _ = (match evO tm x, evL tm l with
      | some v, some vs => some (v :: vs)
      | _, _ => none)
    cases evO tm x with
    | none => rfl
    | some v => cases evL tm l <;> rfl

noncomputable def asPtr (v : V) : Option (Nat × Nat) := V.rec (motive_1 := fun _ => Option (Nat × Nat)) (motive_2 := fun _ => PUnit) (fun _ => none) (fun _ _ => none) (fun _ => none) (fun a => a) (fun _ _ _ => none) (fun _ => none) (fun _ _ _ _ _ => none) (fun _ => none) (none) (fun _ _ _ => none) (none) (fun _ _ => none) (fun _ _ => none) (fun _ => none) (none) PUnit.unit (fun _ _ _ _ => PUnit.unit) v
theorem asPtr_eq (v : V) : asPtr v = match v with
  | .ptr (some p) => some p
  | _ => none := by
  cases v <;> try rfl
  rename_i a
  cases a <;> rfl
/-- One cell; some cells; cells anew. -/
noncomputable def cellR (off : Nat) : List V → Option V :=
  Nat.rec (motive := fun _ => List V → Option V) (fun l => List.rec (motive := fun _ => Option V) none (fun a _ _ => some a) l) (fun _ ih l => List.rec (motive := fun _ => Option V) none (fun _ t _ => ih t) l) off
theorem cellR_eq : ∀ (off : Nat) (l : List V), cellR off l = l[off]?
  | 0, [] => rfl
  | 0, _ :: _ => rfl
  | n + 1, [] => rfl
  | n + 1, _ :: l => by rw [List.getElem?_cons_succ]; exact cellR_eq n l
noncomputable def takeR (n : Nat) : List V → Option (List V) :=
  Nat.rec (motive := fun _ => List V → Option (List V)) (fun _ => some []) (fun _ ih l => List.rec (motive := fun _ => Option (List V)) none (fun a t _ => Option.rec (motive := fun _ => Option (List V)) none (fun r => some (a :: r)) (ih t)) l) n
theorem takeR_eq : ∀ (n : Nat) (l : List V), takeR n l = cond (Nat.ble n l.length) (some (l.take n)) none
  | 0, l => rfl
  | n + 1, [] => rfl
  | n + 1, a :: l => by
    show Option.rec (motive := fun _ => Option (List V)) none (fun r => some (a :: r)) (takeR n l) = _
    rw [takeR_eq n l]
    show _ = cond (Nat.ble n l.length) (some (a :: l.take n)) none
    cases Nat.ble n l.length <;> rfl
noncomputable def cellsR (n off : Nat) : List V → Option (List V) :=
  Nat.rec (motive := fun _ => List V → Option (List V)) (fun l => takeR n l) (fun _ ih l => List.rec (motive := fun _ => Option (List V)) none (fun _ t _ => ih t) l) off
theorem cellsR_eq (n : Nat) (hn : 0 < n) : ∀ (off : Nat) (l : List V), cellsR n off l = cond (Nat.ble (off + n) l.length) (some ((l.drop off).take n)) none
  | 0, l => by rw [Nat.zero_add]; exact takeR_eq n l
  | k + 1, [] => by
    have h : Nat.ble (k + 1 + n) ([] : List V).length = false := by
      cases h : Nat.ble (k + 1 + n) ([] : List V).length with
      | false => rfl
      | true => have := Nat.le_of_ble_eq_true h; simp at this
    rw [h]; rfl
  | k + 1, a :: l => by
    show cellsR n k l = _
    rw [cellsR_eq n hn k l]
    have : Nat.ble (k + 1 + n) (a :: l).length = Nat.ble (k + n) l.length := by rw [show k + 1 + n = (k + n) + 1 by omega]; rfl
    rw [this, List.drop_succ_cons]
noncomputable def getR (h : H) (b : Nat) : Option O := H.rec (motive := fun _ => Option O) (fun hp _ _ _ => LG.rec (motive := fun _ => Option O) (fun g => g hp) (lensG b)) h
theorem getR_eq (h : H) (b : Nat) : getR h b = h.get b := rfl
noncomputable def getWR (h : H) (b : Nat) : Option O := getR h b
theorem getWR_eq (h : H) (b : Nat) : getWR h b = h.getW b := rfl
noncomputable def oneR (off : Nat) (o : O) : Option V := O.rec (motive := fun _ => Option V) (fun l _ _ => cellR off l) (fun _ _ => none) (fun _ _ _ _ => none) (fun _ => none) none o
noncomputable def manyR (n off : Nat) (o : O) : Option V := O.rec (motive := fun _ => Option V) (fun l _ _ => Option.rec (motive := fun _ => Option V) none (fun r => some (.agg r)) (cellsR n off l)) (fun _ _ => none) (fun _ _ _ _ => none) (fun _ => none) none o
noncomputable def aggR (h : H) (p : Nat × Nat) (n : Nat) : Option V :=
  Nat.rec (motive := fun _ => Option V) (Option.rec (motive := fun _ => Option V) none (fun l => some (.agg l)) (loadN h p 0)) (fun k _ => Prod.rec (motive := fun _ => Option V) (fun b off => Option.rec (motive := fun _ => Option V) none (manyR (Nat.succ k) off) (getR h b)) p) n
noncomputable def celR (h : H) (p : Nat × Nat) : Option V := Prod.rec (motive := fun _ => Option V) (fun b off => Option.rec (motive := fun _ => Option V) none (oneR off) (getR h b)) p
noncomputable def loadR (P : Program) (t : TypeId) (h : H) (p : Nat × Nat) : Option V :=
  Option.rec (motive := fun _ => Option V) none (fun ag => Bool.rec (motive := fun _ => Option V) (celR h p) (Option.rec (motive := fun _ => Option V) none (aggR h p) (sz P t)) ag) (isAg P t)
theorem celV_eq (l : List V) (off : Nat) : (match cond (Nat.ble (off + 1) l.length) (some ((l.drop off).take 1)) none with
    | some [v] => some v
    | _ => none) = l[off]? := by
  cases h : Nat.ble (off + 1) l.length with
  | false =>
    have : ¬ off < l.length := fun h' => by rw [Nat.ble_eq_true_of_le h'] at h; cases h
    rw [List.getElem?_eq_none (by omega)]
    rfl
  | true =>
    have hlt : off < l.length := Nat.le_of_ble_eq_true h
    have hd : (l.drop off).take 1 = [l[off]] := by rw [List.drop_eq_getElem_cons hlt]; rfl
    rw [cond_true, hd, List.getElem?_eq_getElem hlt]
theorem celR_eq (h : H) (p : Nat × Nat) : celR h p = match loadN h p 1 with
    | some [v] => some v
    | _ => none := by
  obtain ⟨b, off⟩ := p
  show Option.rec (motive := fun _ => Option V) none (oneR off) (h.get b) = _
  unfold loadN
  dsimp only
  cases h.get b with
  | none => rfl
  | some o => cases o with
    | cells l t opn =>
      dsimp only
      rw [celV_eq]
      exact cellR_eq off l
    | _ => rfl
theorem aggR_eq (h : H) (p : Nat × Nat) (n : Nat) : aggR h p n = match loadN h p n with
    | some l => some (.agg l)
    | none => none := by
  cases n with
  | zero =>
    show Option.rec (motive := fun _ => Option V) none (fun l => some (.agg l)) (loadN h p 0) = _
    cases loadN h p 0 <;> rfl
  | succ k =>
    obtain ⟨b, off⟩ := p
    show Option.rec (motive := fun _ => Option V) none (manyR (Nat.succ k) off) (h.get b) = _
    unfold loadN
    dsimp only
    cases h.get b with
    | none => rfl
    | some o => cases o with
      | cells l t opn =>
        show Option.rec (motive := fun _ => Option V) none (fun r => some (.agg r)) (cellsR (k + 1) off l) = _
        rw [cellsR_eq (k + 1) (Nat.succ_pos k)]
        dsimp only
        cases Nat.ble (off + (k + 1)) l.length <;> rfl
      | _ => rfl
theorem loadR_eq (P : Program) (t : TypeId) (h : H) (p : Nat × Nat) : loadR P t h p = loadV P h t p := by
  unfold loadR loadV
  cases isAg P t with
  | none => rfl
  | some ag => cases ag with
    | false => exact celR_eq h p
    | true => cases sz P t with
      | none => rfl
      | some n => exact aggR_eq h p n

noncomputable def simpleV (v : V) : Bool := V.rec (motive_1 := fun _ => Bool) (motive_2 := fun _ => PUnit) (fun _ => true) (fun _ _ => true) (fun _ => true) (fun _ => true) (fun _ _ _ => true) (fun _ => true) (fun _ _ _ _ _ => true) (fun _ => true) (true) (fun _ _ _ => true) (true) (fun _ _ => false) (fun _ _ => false) (fun _ => true) (false) PUnit.unit (fun _ _ _ _ => PUnit.unit) v
noncomputable def asInt (v : V) : Option (IntKind × Int) := V.rec (motive_1 := fun _ => Option (IntKind × Int)) (motive_2 := fun _ => PUnit) (fun _ => none) (fun k n => some (k, n)) (fun _ => none) (fun _ => none) (fun _ _ _ => none) (fun _ => none) (fun _ _ _ _ _ => none) (fun _ => none) (none) (fun _ _ _ => none) (none) (fun _ _ => none) (fun _ _ => none) (fun _ => none) (none) PUnit.unit (fun _ _ _ _ => PUnit.unit) v
noncomputable def asFn (v : V) : Option (Fn × List V × List V) := V.rec (motive_1 := fun _ => Option (Fn × List V × List V)) (motive_2 := fun _ => PUnit) (fun _ => none) (fun _ _ => none) (fun _ => none) (fun _ => none) (fun _ _ _ => none) (fun _ => none) (fun fn f c _ _ => some (fn, f, c)) (fun _ => none) (none) (fun _ _ _ => none) (none) (fun _ _ => none) (fun _ _ => none) (fun _ => none) (none) PUnit.unit (fun _ _ _ _ => PUnit.unit) v
noncomputable def asBool (v : V) : Option Bool := V.rec (motive_1 := fun _ => Option Bool) (motive_2 := fun _ => PUnit) (fun b => some b) (fun _ _ => none) (fun _ => none) (fun _ => none) (fun _ _ _ => none) (fun _ => none) (fun _ _ _ _ _ => none) (fun _ => none) (none) (fun _ _ _ => none) (none) (fun _ _ => none) (fun _ _ => none) (fun _ => none) (none) PUnit.unit (fun _ _ _ _ => PUnit.unit) v
noncomputable def asTup (v : V) : Option (List V) := V.rec (motive_1 := fun _ => Option (List V)) (motive_2 := fun _ => PUnit) (fun _ => none) (fun _ _ => none) (fun _ => none) (fun _ => none) (fun _ _ _ => none) (fun _ => none) (fun _ _ _ _ _ => none) (fun _ => none) (none) (fun _ _ _ => none) (none) (fun _ _ => none) (fun l _ => some l) (fun _ => none) (none) PUnit.unit (fun _ _ _ _ => PUnit.unit) v
theorem asInt_eq {v : V} {r : IntKind × Int} (h : asInt v = some r) : v = .int r.1 r.2 := by
  cases v <;> first | (cases h; rfl) | cases h
theorem asFn_eq {v : V} {r : Fn × List V × List V} (h : asFn v = some r) : v = .func r.1 r.2.1 r.2.2 := by
  cases v <;> first | (cases h; rfl) | cases h
theorem asFn_none {v : V} (h : asFn v = none) : ∀ fn f c, v ≠ .func fn f c := by
  intro fn f c q
  subst q
  cases h
theorem simpleV_cells {v : V} (h : simpleV v = true) : v.cells = [v] ∧ v.ok = true ∧ v.one = true := by
  cases v <;> first | exact ⟨rfl, rfl, rfl⟩ | cases h
noncomputable def overR (vs : List V) : List V → Option (List V) :=
  List.rec (motive := fun _ => List V → Option (List V)) (fun l => some l) (fun v _ ih l => List.rec (motive := fun _ => Option (List V)) none (fun _ t _ => Option.rec (motive := fun _ => Option (List V)) none (fun r => some (v :: r)) (ih t)) l) vs
theorem overR_eq : ∀ (vs l : List V), overR vs l = cond (Nat.ble vs.length l.length) (some (vs ++ l.drop vs.length)) none
  | [], l => rfl
  | v :: vs, [] => rfl
  | v :: vs, a :: l => by
    show Option.rec (motive := fun _ => Option (List V)) none (fun r => some (v :: r)) (overR vs l) = cond (Nat.ble vs.length l.length) (some (v :: (vs ++ l.drop vs.length))) none
    rw [overR_eq vs l]
    cases Nat.ble vs.length l.length <;> rfl
noncomputable def setAtR (vs : List V) (off : Nat) : List V → Option (List V) :=
  Nat.rec (motive := fun _ => List V → Option (List V)) (fun l => overR vs l) (fun _ ih l => List.rec (motive := fun _ => Option (List V)) none (fun a t _ => Option.rec (motive := fun _ => Option (List V)) none (fun r => some (a :: r)) (ih t)) l) off
theorem setAtR_eq (vs : List V) (hv : vs ≠ []) : ∀ (off : Nat) (l : List V), setAtR vs off l = cond (Nat.ble (off + vs.length) l.length) (some (setR l off vs)) none
  | 0, l => by
    rw [Nat.zero_add]
    show overR vs l = _
    rw [overR_eq]
    simp [setR]
  | n + 1, [] => by
    have h : Nat.ble (n + 1 + vs.length) ([] : List V).length = false := by
      cases h : Nat.ble (n + 1 + vs.length) ([] : List V).length with
      | false => rfl
      | true => have := Nat.le_of_ble_eq_true h; simp at this
    rw [h]; rfl
  | n + 1, a :: l => by
    show Option.rec (motive := fun _ => Option (List V)) none (fun r => some (a :: r)) (setAtR vs n l) = _
    rw [setAtR_eq vs hv n l]
    have h : Nat.ble (n + 1 + vs.length) (a :: l).length = Nat.ble (n + vs.length) l.length := by rw [show n + 1 + vs.length = (n + vs.length) + 1 by omega]; rfl
    have h2 : setR (a :: l) (n + 1) vs = a :: setR l n vs := by
      unfold setR
      rw [List.take_succ_cons, show n + 1 + vs.length = (n + vs.length) + 1 by omega, List.drop_succ_cons]
      rfl
    rw [h, h2]
    cases Nat.ble (n + vs.length) l.length <;> rfl
noncomputable def putObR (h : H) (b : Nat) (t : TypeId) (opn : Option Nat) (o : Option (List V)) : Option H := Option.rec (motive := fun _ => Option H) none (fun l => some (h.set b (some (.cells l t opn)))) o
noncomputable def storeObR (h : H) (b off : Nat) (vs : List V) (o : O) : Option H := O.rec (motive := fun _ => Option H) (fun l t opn => putObR h b t opn (setAtR vs off l)) (fun _ _ => none) (fun _ _ _ _ => none) (fun _ => none) none o
noncomputable def storeR (h : H) (p : Nat × Nat) (vs : List V) : Option H :=
  Prod.rec (motive := fun _ => Option H) (fun b off => Option.rec (motive := fun _ => Option H) none (storeObR h b off vs) (getWR h b)) p
theorem storeR_eq (h : H) (p : Nat × Nat) (vs : List V) (hv : vs ≠ []) (ho : vs.all V.one = true) : storeR h p vs = storeN h p vs := by
  obtain ⟨b, off⟩ := p
  show Option.rec (motive := fun _ => Option H) none (storeObR h b off vs) (getWR h b) = _
  rw [getWR_eq]
  unfold storeN
  dsimp only
  cases h.getW b with
  | none => rfl
  | some o => cases o with
    | cells l t opn =>
      show putObR h b t opn (setAtR vs off l) = _
      rw [setAtR_eq vs hv]
      dsimp only
      rw [ho]
      cases Nat.ble (off + vs.length) l.length <;> rfl
    | _ => rfl
noncomputable def doneR (o : Option H) : Option (V × H) := Option.rec (motive := fun _ => Option (V × H)) none (fun h' => some (.tuple [], h')) o
def storeG (h : H) (p : Nat × Nat) (v : V) (n : Nat) : Option (V × H) := cond (v.ok && Nat.beq v.cells.length n) (match storeN h p v.cells with
  | some h' => some (.tuple [], h')
  | none => none) none
noncomputable def storeS (h : H) (p : Nat × Nat) (v : V) (n : Nat) : Option (V × H) :=
  Bool.rec (motive := fun _ => Option (V × H)) (storeG h p v n) (Bool.rec (motive := fun _ => Option (V × H)) none (doneR (storeR h p [v])) (Nat.beq 1 n)) (simpleV v)
theorem storeS_eq (h : H) (p : Nat × Nat) (v : V) (n : Nat) : storeS h p v n = storeG h p v n := by
  unfold storeS
  cases hs : simpleV v with
  | false => rfl
  | true =>
    obtain ⟨h1, h2, h3⟩ := simpleV_cells hs
    unfold storeG
    rw [h1, h2]
    show Bool.rec (motive := fun _ => Option (V × H)) none (doneR (storeR h p [v])) (Nat.beq 1 n) = _
    rw [storeR_eq h p [v] (by simp) (by simp [h3])]
    simp only [Bool.true_and, List.length_singleton]
    cases Nat.beq 1 n with
    | false => rfl
    | true =>
      show doneR (storeN h p [v]) = _
      cases storeN h p [v] <;> rfl
noncomputable def bindP (o : Option V) (k : Nat × Nat → Option (V × H)) : Option (V × H) := Option.rec (motive := fun _ => Option (V × H)) none (fun a => Option.rec (motive := fun _ => Option (V × H)) none k (asPtr a)) o
noncomputable def e_storeR (t : TypeId) (a x : Operand) (P : Program) (_ : CallT) (h : H) (tm : Tr V) : Option (V × H) :=
  bindP (opdR a tm) (fun p => Option.rec (motive := fun _ => Option (V × H)) none (fun v => Option.rec (motive := fun _ => Option (V × H)) none (storeS h p v) (sz P t)) (opdR x tm))
theorem e_storeR_eq (t : TypeId) (a x : Operand) (P : Program) (call : CallT) (h : H) (tm : Tr V) : e_storeR t a x P call h tm = e_store t a x P call h tm := by
  unfold e_storeR e_store bindP
  rw [opdR_eq, opdR_eq]
  cases evO tm a with
  | none => rfl
  | some av =>
    show Option.rec (motive := fun _ => Option (V × H)) none _ (asPtr av) = _
    rw [asPtr_eq]
    cases av with
    | ptr q => cases q with
      | none => rfl
      | some p => cases evO tm x with
        | none => rfl
        | some v => cases hz : sz P t with
          | none => simp only [hz]
          | some n =>
            simp only [hz]
            exact storeS_eq h p v n
    | _ => rfl
/-- A value, and the heap as it is. -/
noncomputable def withH (o : Option V) (h : H) : Option (V × H) := Option.rec (motive := fun _ => Option (V × H)) none (fun v => some (v, h)) o
theorem withH_eq (o : Option V) (h : H) : withH o h = wrapP o h := by cases o <;> rfl
noncomputable def r_load (t : TypeId) (a : Operand) (P : Program) (_ : CallT) (h : H) (tm : Tr V) : Option (V × H) := bindP (opdR a tm) (fun p => withH (loadR P t h p) h)
theorem r_load_eq (t : TypeId) (a : Operand) (P : Program) (call : CallT) (h : H) (tm : Tr V) : r_load t a P call h tm = wrapP (p_load t a P h tm) h := by
  unfold r_load p_load bindP
  rw [opdR_eq]
  cases evO tm a with
  | none => rfl
  | some av =>
    show Option.rec (motive := fun _ => Option (V × H)) none _ (asPtr av) = _
    rw [asPtr_eq]
    cases av with
    | ptr q => cases q with
      | none => rfl
      | some p =>
        show withH (loadR P t h p) h = _
        rw [withH_eq, loadR_eq]
    | _ => rfl
def fieldOff (P : Program) (s : TypeId) (f : Nat) : Option Nat :=
  match P.underlying s with
  | some (.struct fs) => (match fs[f]? with
    | some fl => (match sz P fl.type with
      | some (_ + 1) => some fl.offset
      | _ => none)
    | none => none)
  | _ => none
noncomputable def r_fieldAddr (s : TypeId) (x : Operand) (f : Nat) (P : Program) (_ : CallT) (h : H) (tm : Tr V) : Option (V × H) :=
  bindP (opdR x tm) (fun p => Option.rec (motive := fun _ => Option (V × H)) none (fun o => Prod.rec (motive := fun _ => Option (V × H)) (fun b off => some (.ptr (some (b, Nat.add off o)), h)) p) (fieldOff P s f))
theorem r_fieldAddr_eq (s : TypeId) (x : Operand) (f : Nat) (P : Program) (call : CallT) (h : H) (tm : Tr V) : r_fieldAddr s x f P call h tm = wrapP (p_fieldAddr s x f P h tm) h := by
  unfold r_fieldAddr p_fieldAddr bindP
  rw [opdR_eq]
  cases evO tm x with
  | none => rfl
  | some av =>
    show Option.rec (motive := fun _ => Option (V × H)) none _ (asPtr av) = _
    rw [asPtr_eq]
    unfold fieldA fieldOff
    cases hu : P.underlying s with
    | none => cases av with
      | ptr q => cases q <;> rfl
      | _ => rfl
    | some d => cases d with
      | struct fs => cases av with
        | ptr q => cases q with
          | none => rfl
          | some p =>
            dsimp only
            cases hf : fs[f]? with
            | none => rfl
            | some fl =>
              dsimp only
              cases sz P fl.type with
              | none => rfl
              | some n => cases n <;> rfl
        | _ => rfl
      | _ => cases av with
        | ptr q => cases q <;> rfl
        | _ => rfl

noncomputable def kNo (k : IntKind) : Nat := IntKind.rec (motive := fun _ => Nat) 0 1 2 3 4 5 6 7 k
noncomputable def kTop (k : IntKind) : Nat := IntKind.rec (motive := fun _ => Nat) 127 32767 2147483647 9223372036854775807 255 65535 4294967295 18446744073709551615 k
theorem kNo_eq (k k' : IntKind) : Nat.beq (kNo k) (kNo k') = decide (k = k') := by cases k <;> cases k' <;> rfl
theorem wrap_of {k : IntKind} {x : Int} (h1 : x % (2 ^ k.bits : Int) = x) (h2 : k.signed = true → x < (2 ^ (k.bits - 1) : Int)) : k.wrap x = x := by
  unfold IntKind.wrap
  simp only [h1]
  split
  · rename_i h
    simp only [Bool.and_eq_true, decide_eq_true_iff] at h
    have := h2 h.1
    omega
  · rfl
theorem wrap_small (k : IntKind) (n : Nat) (h : n ≤ kTop k) : k.wrap (Int.ofNat n) = Int.ofNat n := by
  have hn : (0 : Int) ≤ Int.ofNat n := Int.natCast_nonneg n
  have hi : (Int.ofNat n : Int) = (n : Int) := rfl
  cases k
  · have h : n ≤ 127 := h
    exact wrap_of (Int.emod_eq_of_lt hn (show Int.ofNat n < (2 ^ 8 : Int) by rw [hi]; omega)) (fun _ => show Int.ofNat n < (2 ^ 7 : Int) by rw [hi]; omega)
  · have h : n ≤ 32767 := h
    exact wrap_of (Int.emod_eq_of_lt hn (show Int.ofNat n < (2 ^ 16 : Int) by rw [hi]; omega)) (fun _ => show Int.ofNat n < (2 ^ 15 : Int) by rw [hi]; omega)
  · have h : n ≤ 2147483647 := h
    exact wrap_of (Int.emod_eq_of_lt hn (show Int.ofNat n < (2 ^ 32 : Int) by rw [hi]; omega)) (fun _ => show Int.ofNat n < (2 ^ 31 : Int) by rw [hi]; omega)
  · have h : n ≤ 9223372036854775807 := h
    exact wrap_of (Int.emod_eq_of_lt hn (show Int.ofNat n < (2 ^ 64 : Int) by rw [hi]; omega)) (fun _ => show Int.ofNat n < (2 ^ 63 : Int) by rw [hi]; omega)
  · have h : n ≤ 255 := h
    exact wrap_of (Int.emod_eq_of_lt hn (show Int.ofNat n < (2 ^ 8 : Int) by rw [hi]; omega)) (fun q => nomatch q)
  · have h : n ≤ 65535 := h
    exact wrap_of (Int.emod_eq_of_lt hn (show Int.ofNat n < (2 ^ 16 : Int) by rw [hi]; omega)) (fun q => nomatch q)
  · have h : n ≤ 4294967295 := h
    exact wrap_of (Int.emod_eq_of_lt hn (show Int.ofNat n < (2 ^ 32 : Int) by rw [hi]; omega)) (fun q => nomatch q)
  · have h : n ≤ 18446744073709551615 := h
    exact wrap_of (Int.emod_eq_of_lt hn (show Int.ofNat n < (2 ^ 64 : Int) by rw [hi]; omega)) (fun q => nomatch q)
noncomputable def ieq (a b : Int) : Bool := Int.rec (motive := fun _ => Bool) (fun m => Int.rec (motive := fun _ => Bool) (fun n => Nat.beq m n) (fun _ => false) b) (fun m => Int.rec (motive := fun _ => Bool) (fun _ => false) (fun n => Nat.beq m n) b) a
noncomputable def ile (a b : Int) : Bool := Int.rec (motive := fun _ => Bool) (fun m => Int.rec (motive := fun _ => Bool) (fun n => Nat.ble m n) (fun _ => false) b) (fun m => Int.rec (motive := fun _ => Bool) (fun _ => true) (fun n => Nat.ble n m) b) a
theorem ieq_eq (a b : Int) : ieq a b = (a == b) := by
  cases a with
  | ofNat m => cases b with
    | ofNat n =>
      show Nat.beq m n = _
      rw [Bool.eq_iff_iff]
      simp [Nat.beq_eq]
      omega
    | negSucc n =>
      show false = _
      rw [Bool.eq_iff_iff]
      simp
  | negSucc m => cases b with
    | ofNat n =>
      show false = _
      rw [Bool.eq_iff_iff]
      simp
    | negSucc n =>
      show Nat.beq m n = _
      rw [Bool.eq_iff_iff]
      simp [Nat.beq_eq]
theorem ile_eq (a b : Int) : ile a b = decide (a ≤ b) := by
  rw [Bool.eq_iff_iff, decide_eq_true_iff]
  cases a with
  | ofNat m => cases b with
    | ofNat n =>
      show Nat.ble m n = true ↔ _
      rw [Nat.ble_eq]
      simp only [Int.ofNat_eq_natCast]
      omega
    | negSucc n =>
      show false = true ↔ _
      simp only [Int.ofNat_eq_natCast, Int.negSucc_eq]
      simp
      omega
  | negSucc m => cases b with
    | ofNat n =>
      show true = true ↔ _
      simp only [Int.ofNat_eq_natCast, Int.negSucc_eq]
      simp
      omega
    | negSucc n =>
      show Nat.ble n m = true ↔ _
      rw [Nat.ble_eq]
      simp only [Int.negSucc_eq]
      omega
noncomputable def addR (k : IntKind) (a b : Int) : Int :=
  Int.rec (motive := fun _ => Int) (fun m => Int.rec (motive := fun _ => Int) (fun n => Bool.rec (motive := fun _ => Int) (k.wrap (a + b)) (Int.ofNat (Nat.add m n)) (Nat.ble (Nat.add m n) (kTop k))) (fun _ => k.wrap (a + b)) b) (fun _ => k.wrap (a + b)) a
theorem addR_eq (k : IntKind) (a b : Int) : addR k a b = k.wrap (a + b) := by
  cases a with
  | ofNat m => cases b with
    | ofNat n =>
      show Bool.rec (motive := fun _ => Int) (k.wrap (Int.ofNat m + Int.ofNat n)) (Int.ofNat (Nat.add m n)) (Nat.ble (Nat.add m n) (kTop k)) = _
      cases h : Nat.ble (Nat.add m n) (kTop k) with
      | false => rfl
      | true => exact (wrap_small k _ (Nat.le_of_ble_eq_true h)).symm
    | negSucc n => rfl
  | negSucc m => rfl
noncomputable def intR (op : BinOp) : IntKind → Int → Int → Option V :=
  BinOp.rec (motive := fun _ => IntKind → Int → Int → Option V)
    (fun k a b => some (.int k (addR k a b)))
    (fun k a b => semV (intOp .sub k a b)) (fun k a b => semV (intOp .mul k a b)) (fun k a b => semV (intOp .quo k a b)) (fun k a b => semV (intOp .rem k a b)) (fun k a b => semV (intOp .and k a b)) (fun k a b => semV (intOp .or k a b)) (fun k a b => semV (intOp .xor k a b))
    (fun k a b => none) (fun k a b => none) (fun k a b => semV (intOp .andNot k a b))
    (fun k a b => some (.bool (ieq a b))) (fun k a b => some (.bool (Bool.rec true false (ieq a b)))) (fun k a b => some (.bool (Bool.rec true false (ile b a)))) (fun k a b => some (.bool (ile a b))) (fun k a b => some (.bool (Bool.rec true false (ile a b)))) (fun k a b => some (.bool (ile b a))) op
noncomputable def isShift (op : BinOp) : Bool := BinOp.rec (motive := fun _ => Bool) false false false false false false false false true true false false false false false false false op
theorem not_rec (b : Bool) : (Bool.rec true false b : Bool) = !b := by cases b <;> rfl
theorem intR_eq (op : BinOp) (k : IntKind) (a b : Int) (h : isShift op = false) : intR op k a b = semV (intOp op k a b) := by
  cases op <;> first
    | (cases h; done)
    | rfl
    | (show some (V.int k (addR k a b)) = some (V.int k (k.wrap (a + b)))
       rw [addR_eq])
    | (show some (V.bool (ieq a b)) = some (V.bool (a == b))
       rw [ieq_eq])
    | (show some (V.bool (Bool.rec true false (ieq a b))) = some (V.bool (a != b))
       rw [not_rec, ieq_eq]; rfl)
    | (show some (V.bool (Bool.rec true false (ile b a))) = some (V.bool (decide (a < b)))
       rw [not_rec, ile_eq]; congr 2; rw [Bool.eq_iff_iff]; simp)
    | (show some (V.bool (ile a b)) = some (V.bool (decide (a ≤ b)))
       rw [ile_eq])
    | (show some (V.bool (Bool.rec true false (ile a b))) = some (V.bool (decide (a > b)))
       rw [not_rec, ile_eq]; congr 2; rw [Bool.eq_iff_iff]; simp)
    | (show some (V.bool (ile b a)) = some (V.bool (decide (a ≥ b)))
       rw [ile_eq])
theorem binI_ns {op : BinOp} (k : IntKind) (a : Int) (k' : IntKind) (b : Int) (h : isShift op = false) : binI op k a k' b = if k = k' then semV (intOp op k a b) else none := by
  cases op <;> first | (cases h; done) | rfl
noncomputable def binIR (op : BinOp) (k : IntKind) (a : Int) (k' : IntKind) (b : Int) : Option V :=
  Bool.rec (motive := fun _ => Option V) (Bool.rec (motive := fun _ => Option V) none (intR op k a b) (Nat.beq (kNo k) (kNo k'))) (binI op k a k' b) (isShift op)
theorem binIR_eq (op : BinOp) (k : IntKind) (a : Int) (k' : IntKind) (b : Int) : binIR op k a k' b = binI op k a k' b := by
  unfold binIR
  cases hs : isShift op with
  | true => rfl
  | false =>
    show Bool.rec (motive := fun _ => Option V) none (intR op k a b) (Nat.beq (kNo k) (kNo k')) = _
    rw [kNo_eq, intR_eq op k a b hs]
    rw [binI_ns k a k' b hs]
    by_cases hk : k = k'
    · rw [if_pos hk, decide_eq_true hk]
    · rw [if_neg hk, decide_eq_false hk]
noncomputable def r_binOp (op : BinOp) (t : TypeId) (x y : Operand) (u : TypeId) (P : Program) (_ : CallT) (h : H) (tm : Tr V) : Option (V × H) :=
  Option.rec (motive := fun _ => Option (V × H)) none (fun a => Option.rec (motive := fun _ => Option (V × H)) none (fun b =>
    Option.rec (motive := fun _ => Option (V × H)) (wrapP (p_binOp op t x y u P h tm) h) (fun p => Option.rec (motive := fun _ => Option (V × H)) (wrapP (p_binOp op t x y u P h tm) h) (fun q =>
      Prod.rec (motive := fun _ => Option (V × H)) (fun k i => Prod.rec (motive := fun _ => Option (V × H)) (fun k' j => withH (binIR op k i k' j) h) q) p) (asInt b)) (asInt a)) (opdR y tm)) (opdR x tm)
theorem r_binOp_eq (op : BinOp) (t : TypeId) (x y : Operand) (u : TypeId) (P : Program) (call : CallT) (h : H) (tm : Tr V) : r_binOp op t x y u P call h tm = wrapP (p_binOp op t x y u P h tm) h := by
  unfold r_binOp
  rw [opdR_eq, opdR_eq]
  cases hx : evO tm x with
  | none => unfold p_binOp; rw [hx]; rfl
  | some a => cases hy : evO tm y with
    | none => unfold p_binOp; rw [hx, hy]; cases a <;> rfl
    | some b =>
      dsimp only
      cases ha : asInt a with
      | none => rfl
      | some p => cases hb : asInt b with
        | none => rfl
        | some q =>
          obtain ⟨k, i⟩ := p
          obtain ⟨k', j⟩ := q
          have h1 := asInt_eq ha
          have h2 := asInt_eq hb
          subst h1
          subst h2
          show withH (binIR op k i k' j) h = _
          rw [withH_eq, binIR_eq]
          unfold p_binOp
          rw [hx, hy]
          show wrapP (binI op k i k' j) h = wrapP (match binI op k i k' j with
            | some v => some v
            | none => none) h
          cases binI op k i k' j <;> rfl
noncomputable def r_extract (t : Operand) (i : Nat) (P : Program) (_ : CallT) (h : H) (tm : Tr V) : Option (V × H) :=
  Option.rec (motive := fun _ => Option (V × H)) none (fun a => Option.rec (motive := fun _ => Option (V × H)) none (fun l => withH (cellR i l) h) (asTup a)) (opdR t tm)
theorem r_extract_eq (t : Operand) (i : Nat) (P : Program) (call : CallT) (h : H) (tm : Tr V) : r_extract t i P call h tm = wrapP (p_extract t i P h tm) h := by
  unfold r_extract p_extract
  rw [opdR_eq]
  cases evO tm t with
  | none => rfl
  | some a => cases a with
    | tuple l =>
      show withH (cellR i l) h = _
      rw [withH_eq, cellR_eq]
    | _ => rfl
noncomputable def r_pick (c a b : Operand) (P : Program) (_ : CallT) (h : H) (tm : Tr V) : Option (V × H) :=
  Option.rec (motive := fun _ => Option (V × H)) none (fun v => Option.rec (motive := fun _ => Option (V × H)) none (fun q => Bool.rec (motive := fun _ => Option (V × H)) (withH (opdR b tm) h) (withH (opdR a tm) h) q) (asBool v)) (opdR c tm)
theorem r_pick_eq (c a b : Operand) (P : Program) (call : CallT) (h : H) (tm : Tr V) : r_pick c a b P call h tm = wrapP (p_pick c a b P h tm) h := by
  unfold r_pick p_pick
  rw [opdR_eq, opdR_eq, opdR_eq]
  cases evO tm c with
  | none => rfl
  | some v => cases v with
    | bool q => cases q with
      | true => exact withH_eq _ _
      | false => exact withH_eq _ _
    | _ => rfl
noncomputable def appR (a b : List V) : List V := List.rec (motive := fun _ => List V) b (fun x _ ih => x :: ih) a
theorem appR_eq (b : List V) : ∀ a : List V, appR a b = a ++ b
  | [] => rfl
  | x :: a => congrArg (x :: ·) (appR_eq b a)
noncomputable def app3 (a b c : List V) : List V := List.rec (motive := fun _ => List V) (appR a b) (fun _ _ _ => appR a (appR b c)) c
theorem app3_eq (a b c : List V) : app3 a b c = a ++ b ++ c := by
  cases c with
  | nil => show appR a b = _; rw [appR_eq]; simp
  | cons x c => show appR a (appR b (x :: c)) = _; rw [appR_eq, appR_eq]; simp
noncomputable def goFn (call : CallT) (h : H) (args : List V) (fv : V) (fn : Fn) (first cap : List V) : Option (V × H) :=
  Fn.rec (motive := fun _ => Option (V × H)) (fun g => call (.call g (app3 first args cap)) h) (fun _ => callV call h fv args) (fun _ _ => callV call h fv args) (fun _ _ _ _ => callV call h fv args) (fun _ => callV call h fv args) fn
noncomputable def callR (call : CallT) (h : H) (args : List V) (fv : V) : Option (V × H) :=
  Option.rec (motive := fun _ => Option (V × H)) (callV call h fv args) (fun q => Prod.rec (motive := fun _ => Option (V × H)) (fun fn fc => Prod.rec (motive := fun _ => Option (V × H)) (fun first cap => goFn call h args fv fn first cap) fc) q) (asFn fv)
theorem callR_eq (call : CallT) (h : H) (args : List V) (fv : V) : callR call h args fv = callV call h fv args := by
  unfold callR
  cases ha : asFn fv with
  | none => rfl
  | some q =>
    obtain ⟨fn, first, cap⟩ := q
    have h1 := asFn_eq ha
    subst h1
    show goFn call h args _ fn first cap = _
    cases fn <;> first | rfl | (unfold goFn; dsimp only; rw [app3_eq]; rfl)
noncomputable def e_valR (f : Operand) (c : Call) (call : CallT) (h : H) (tm : Tr V) : Option (V × H) :=
  Option.rec (motive := fun _ => Option (V × H)) none (fun args => Option.rec (motive := fun _ => Option (V × H)) none (callR call h args) (opdR f tm)) (evLR c.args.toList tm)
theorem e_valR_eq (f : Operand) (c : Call) (call : CallT) (h : H) (tm : Tr V) : e_valR f c call h tm = e_val f c call h tm := by
  unfold e_valR e_val
  rw [evLR_eq, opdR_eq]
  cases evL tm c.args.toList with
  | none => rfl
  | some args => cases evO tm f with
    | none => rfl
    | some fv => exact callR_eq call h args fv
noncomputable def e_callR (c : Call) (P : Program) (call : CallT) (h : H) (tm : Tr V) : Option (V × H) :=
  Callee.rec (motive := fun _ => Option (V × H)) (fun f => e_valR f c call h tm) (fun _ _ => e_call c P call h tm) (fun _ => e_call c P call h tm) c.callee
theorem e_callR_eq (c : Call) (P : Program) (call : CallT) (h : H) (tm : Tr V) : e_callR c P call h tm = e_call c P call h tm := by
  obtain ⟨callee, args, ats⟩ := c
  cases callee with
  | value f => exact e_valR_eq f _ call h tm
  | _ => rfl

noncomputable def evK (op : Op) : Program → CallT → H → Tr V → Option (V × H) :=
  Op.rec (motive := fun _ => Program → CallT → H → Tr V → Option (V × H))
    (fun a _ _ h tm => withH (opdR a tm) h)
    (fun a _ _ h tm => withH (opdR a tm) h)
    (r_pick)
    (fun a P _ h tm => wrapA (allocOp P h tm (.alloc a)) h)
    (fun a b P _ h tm => wrapA (allocOp P h tm (.box a b)) h)
    (fun a b P _ h tm => withH (p_build a b P h tm) h)
    (fun a b c P _ h tm => wrapA (allocOp P h tm (.buildSlice a b c)) h)
    (fun a b c d P call h tm => effOp P call h tm (.insert a b c d))
    (r_load)
    (e_storeR)
    (fun _ _ _ _ _ => none)
    (fun _ _ _ _ _ => none)
    (fun a P _ h tm => withH (p_nilCheck a P h tm) h)
    (r_binOp)
    (fun a b c P _ h tm => withH (p_unOp a b c P h tm) h)
    (fun a b c P _ h tm => withH (p_convert a b c P h tm) h)
    (fun _ _ _ _ _ _ => none)
    (fun a b P _ h tm => withH (p_makeInterface a b P h tm) h)
    (fun a b c P _ h tm => withH (p_makeFunc a b c P h tm) h)
    (fun a b P _ h tm => wrapA (allocOp P h tm (.makeMap a b)) h)
    (fun _ _ _ _ _ _ => none)
    (fun a b c P _ h tm => wrapA (allocOp P h tm (.makeSlice a b c)) h)
    (fun a b c d e P _ h tm => withH (p_slice a b c d e P h tm) h)
    (r_fieldAddr)
    (fun a b c P _ h tm => withH (p_field a b c P h tm) h)
    (fun a b c P _ h tm => withH (p_indexAddr a b c P h tm) h)
    (fun a b c P _ h tm => withH (p_index a b c P h tm) h)
    (fun a b c d P _ h tm => withH (p_lookup a b c d P h tm) h)
    (fun a b c d P call h tm => effOp P call h tm (.mapUpdate a b c d))
    (fun a b c P call h tm => effOp P call h tm (.mapEntry a b c))
    (fun a b c d P call h tm => effOp P call h tm (.entryStore a b c d))
    (fun a b P _ h tm => wrapA (allocOp P h tm (.range a b)) h)
    (fun a b P call h tm => effOp P call h tm (.next a b))
    (fun a P _ h tm => withH (p_entry a P h tm) h)
    (fun a b c d P _ h tm => withH (p_typeAssert a b c d P h tm) h)
    (r_extract)
    (e_callR)
    (fun _ _ _ _ _ => none)
    (fun _ _ _ _ _ => none)
    (fun _ _ _ _ _ => none)
    (fun _ _ _ _ _ _ => none)
    (fun _ _ _ _ _ _ _ => none)
    (fun _ _ _ _ _ _ => none)
    op
theorem evK_op (op : Op) (P : Program) (call : CallT) (h : H) (tm : Tr V) : evK op P call h tm = evOp P call h tm op := by
  rw [← evF_op]
  cases op
  case move a => show withH (opdR a tm) h = _; rw [opdR_eq, withH_eq]; rfl
  case assign a => show withH (opdR a tm) h = _; rw [opdR_eq, withH_eq]; rfl
  case pick a b c => exact r_pick_eq a b c P call h tm
  case load a b => exact r_load_eq a b P call h tm
  case store a b c => exact e_storeR_eq a b c P call h tm
  case binOp a b c d e => exact r_binOp_eq a b c d e P call h tm
  case fieldAddr a b c => exact r_fieldAddr_eq a b c P call h tm
  case extract a b => exact r_extract_eq a b P call h tm
  case call c => exact e_callR_eq c P call h tm
  all_goals first
    | rfl
    | exact withH_eq _ _
/-- One operation, and where its value goes. -/
noncomputable def putR (n : Nat) (dst : Option Tmp) (v : V) (tm : Tr V) (h : H) : Option St :=
  Option.rec (motive := fun _ => Option St) (some ⟨tm, h⟩) (fun d => Bool.rec (motive := fun _ => Option St) none (some (St.mk (LP.rec (motive := fun _ => Tr V) (fun g => g (some v) tm) (lensP d)) h)) (Nat.ble (Nat.succ d) n)) dst
theorem putR_eq (n : Nat) (dst : Option Tmp) (v : V) (tm : Tr V) (h : H) : putR n dst v tm h = match putO n tm dst v with
    | some tm' => some (St.mk tm' h)
    | none => none := by
  cases dst with
  | none => rfl
  | some d =>
    show Bool.rec (motive := fun _ => Option St) none (some ⟨tm.set d (some v), h⟩) (Nat.ble (Nat.succ d) n) = _
    unfold putO
    dsimp only
    show _ = match cond (Nat.ble (Nat.succ d) n) (some (tm.set d (some v))) none with
      | some tm' => some (St.mk tm' h)
      | none => none
    cases Nat.ble (Nat.succ d) n <;> rfl
noncomputable def gotR (n : Nat) (dst : Option Tmp) (tm : Tr V) (r : V × H) : Option St := Prod.rec (motive := fun _ => Option St) (fun v h' => putR n dst v tm h') r
noncomputable def runR (P : Program) (call : CallT) (n : Nat) (dst : Option Tmp) (op : Op) (tm : Tr V) (h : H) : Option St := Option.rec (motive := fun _ => Option St) none (gotR n dst tm) (evK op P call h tm)
noncomputable def stepR (o : Oper) (P : Program) (call : CallT) (ops : Array Oper) (n : Nat) (s : St) : Option St :=
  Oper.rec (motive := fun _ => Option St) (fun dst op _ _ _ guard => Option.rec (motive := fun _ => Option St)
    (St.rec (motive := fun _ => Option St) (fun tm h => runR P call n dst op tm h) s)
    (fun _ => Option.rec (motive := fun _ => Option St) none (fun b => Bool.rec (motive := fun _ => Option St)
      (St.rec (motive := fun _ => Option St) (fun tm h => putR n dst (.tuple []) tm h) s) (St.rec (motive := fun _ => Option St) (fun tm h => runR P call n dst op tm h) s) b) (wantV ops s.tm o)) guard) o
theorem runR_eq (P : Program) (call : CallT) (n : Nat) (dst : Option Tmp) (op : Op) (tm : Tr V) (h : H) : runR P call n dst op tm h = match evF op P call h tm with
    | some (v, h') => (match putO n tm dst v with
      | some tm' => some ⟨tm', h'⟩
      | none => none)
    | none => none := by
  unfold runR
  rw [evK_op, evF_op]
  cases evOp P call h tm op with
  | none => rfl
  | some r => exact putR_eq n dst r.1 tm r.2
theorem stepR_eq (o : Oper) (P : Program) (call : CallT) (ops : Array Oper) (n : Nat) (s : St) : stepR o P call ops n s = step1 P call ops n o s := by
  obtain ⟨dst, op, ty, pos, aft, guard⟩ := o
  obtain ⟨tm, h⟩ := s
  cases guard with
  | none =>
    show runR P call n dst op tm h = _
    rw [runR_eq]
    rfl
  | some g =>
    show Option.rec (motive := fun _ => Option St) none _ (wantV ops tm _) = _
    unfold step1
    dsimp only
    cases wantV ops tm _ with
    | none => rfl
    | some b => cases b with
      | false => exact putR_eq n dst _ tm h
      | true => exact runR_eq P call n dst op tm h
noncomputable def evListK (l : List Oper) : Program → CallT → Array Oper → Nat → St → Option St :=
  List.rec (motive := fun _ => Program → CallT → Array Oper → Nat → St → Option St) (fun _ _ _ _ s => some s) (fun o _ ih P call ops n s => Option.rec (motive := fun _ => Option St) none (ih P call ops n) (stepR o P call ops n s)) l
theorem evListK_eq (P : Program) (call : CallT) (ops : Array Oper) (n : Nat) : ∀ (l : List Oper) (s : St), evListK l P call ops n s = evList P call ops n l s
  | [], s => rfl
  | o :: l, s => by
    show Option.rec (motive := fun _ => Option St) none (evListK l P call ops n) (stepR o P call ops n s) = _
    rw [stepR_eq]
    simp only [evList]
    cases step1 P call ops n o s with
    | none => rfl
    | some s' => exact evListK_eq P call ops n l s'
/-- A region that draws. -/
noncomputable def clsK (op : Op) : Cls := cls op
noncomputable def pushK (op : Op) (p : PI) (pend : List PI) : List PI := Bool.rec (motive := fun _ => List PI) pend (p :: pend) (memB op)
noncomputable def contV (n : Nat) (dst : Option Tmp) (tm : Tr V) (h : H) (next : List PI → St → Option St) (pend : List PI) (v : V) : Option St :=
  Option.rec (motive := fun _ => Option St) none (next pend) (putR n dst v tm h)
noncomputable def valRun (P : Program) (call : CallT) (n : Nat) (next : List PI → St → Option St) (pend : List PI) (i : Nat) (o : Oper) (dst : Option Tmp) (op : Op) (tm : Tr V) (h : H) : Option St :=
  Option.rec (motive := fun _ => Option St) none (fun r => Prod.rec (motive := fun _ => Option St) (fun v _ => contV n dst tm h next (pushK op ⟨i, o, .val v⟩ pend) v) r) (evK op P call h tm)
def valG (P : Program) (ops : Array Oper) (n : Nat) (it : It) (next : List PI → St → Option St) (pend : List PI) (s : St) : Option St :=
  match freeS P ops n s it with
    | some (s', .val v) => next (cond (memB it.o.op) (⟨it.i, it.o, .val v⟩ :: pend) pend) s'
    | some (s', .skip) => next pend s'
    | _ => none
noncomputable def valK (P : Program) (call : CallT) (ops : Array Oper) (n : Nat) (it : It) (next : List PI → St → Option St) (pend : List PI) (s : St) : Option St :=
  It.rec (motive := fun _ => Option St) (fun i o m => Oper.rec (motive := fun _ => Option St) (fun dst op ty pos aft guard => Cls.rec (motive := fun _ => Option St)
    (Option.rec (motive := fun _ => Option St)
      (St.rec (motive := fun _ => Option St) (fun tm h => valRun P call n next pend i ⟨dst, op, ty, pos, aft, guard⟩ dst op tm h) s)
      (fun _ => Option.rec (motive := fun _ => Option St) none (fun b => Bool.rec (motive := fun _ => Option St)
        (St.rec (motive := fun _ => Option St) (fun tm h => contV n dst tm h next pend (.tuple [])) s)
        (St.rec (motive := fun _ => Option St) (fun tm h => valRun P call n next pend i ⟨dst, op, ty, pos, aft, guard⟩ dst op tm h) s) b) (wantV ops s.tm o)) guard)
    (valG P ops n it next pend s) (valG P ops n it next pend s) (clsK op)) o) it
theorem contV_eq (n : Nat) (dst : Option Tmp) (tm : Tr V) (h : H) (next : List PI → St → Option St) (pend : List PI) (v : V) : contV n dst tm h next pend v = match putO n tm dst v with
    | some tm' => next pend ⟨tm', h⟩
    | none => none := by
  unfold contV
  rw [putR_eq]
  cases putO n tm dst v <;> rfl
theorem evOp_pure {op : Op} (hc : cls op = .pure) (P : Program) (call : CallT) (h : H) (tm : Tr V) : evOp P call h tm op = match pureOp P h tm op with
    | some v => some (v, h)
    | none => none := by
  unfold evOp
  rw [hc]
  rfl
theorem valRun_eq {op : Op} (hc : cls op = .pure) (P : Program) (call : CallT) (n : Nat) (next : List PI → St → Option St) (pend : List PI) (i : Nat) (o : Oper) (dst : Option Tmp) (tm : Tr V) (h : H) :
    valRun P call n next pend i o dst op tm h = match pureOp P h tm op with
      | some v => (match putO n tm dst v with
        | some tm' => next (cond (memB op) (⟨i, o, .val v⟩ :: pend) pend) ⟨tm', h⟩
        | none => none)
      | none => none := by
  unfold valRun
  rw [evK_op, evOp_pure hc]
  cases pureOp P h tm op with
  | none => rfl
  | some v =>
    show contV n dst tm h next (pushK op ⟨i, o, .val v⟩ pend) v = _
    rw [contV_eq]
    unfold pushK
    cases memB op <;> rfl
theorem valK_eq (P : Program) (call : CallT) (ops : Array Oper) (n : Nat) (it : It) (next : List PI → St → Option St) (pend : List PI) (s : St) : valK P call ops n it next pend s = valG P ops n it next pend s := by
  obtain ⟨i, ⟨dst, op, ty, pos, aft, guard⟩, m⟩ := it
  obtain ⟨tm, h⟩ := s
  unfold valK clsK
  dsimp only
  cases hc : cls op with
  | alloc => rfl
  | eff => rfl
  | pure =>
    dsimp only
    unfold valG freeS
    dsimp only
    cases guard with
    | none =>
      dsimp only [wantV]
      rw [valRun_eq hc, hc]
      dsimp only
      cases pureOp P h tm op with
      | none => rfl
      | some v =>
        dsimp only
        cases putO n tm dst v <;> rfl
    | some g =>
      dsimp only
      cases wantV ops tm ⟨dst, op, ty, pos, aft, some g⟩ with
      | none => rfl
      | some b => cases b with
        | false =>
          dsimp only
          rw [contV_eq]
          cases putO n tm dst (.tuple []) <;> rfl
        | true =>
          dsimp only
          rw [valRun_eq hc, hc]
          dsimp only
          cases pureOp P h tm op with
          | none => rfl
          | some v =>
            dsimp only
            cases putO n tm dst v <;> rfl
def newG (P : Program) (ops : Array Oper) (n : Nat) (it : It) (next : List PI → St → Option St) (pend : List PI) (s : St) : Option St :=
  match freeS P ops n s it with
    | some (s', .new b ob v) => cond ((⟨it.i, it.o, .new b ob v⟩ :: pend).all fun p => !(memB p.o.op) || chk P ops n s' p) (next (⟨it.i, it.o, .new b ob v⟩ :: pend) s') none
    | some (s', .skip) => next pend s'
    | _ => none
def effG (P : Program) (ops : Array Oper) (n : Nat) (it : It) (next : List PI → St → Option St) (pend : List PI) (s' : St) : Option St :=
  cond ((pend.filter fun p => !(it.m.testBit p.i)).all (chk P ops n s')) (next (pend.filter fun p => !(it.m.testBit p.i)) s') none
noncomputable def effK (P : Program) (call : CallT) (ops : Array Oper) (n : Nat) (it : It) (next : List PI → St → Option St) (pend : List PI) (s : St) : Option St :=
  Option.rec (motive := fun _ => Option St) none (List.rec (motive := fun _ => St → Option St) (next []) (fun _ _ _ => effG P ops n it next pend) pend) (stepR it.o P call ops n s)
theorem effK_eq (P : Program) (call : CallT) (ops : Array Oper) (n : Nat) (it : It) (next : List PI → St → Option St) (pend : List PI) (s : St) : effK P call ops n it next pend s = match step1 P call ops n it.o s with
    | some s' => effG P ops n it next pend s'
    | none => none := by
  unfold effK
  rw [stepR_eq]
  cases step1 P call ops n it.o s with
  | none => rfl
  | some s' => cases pend <;> rfl
noncomputable def stepK (l : List SI) : Program → CallT → Array Oper → Nat → List PI → St → Option St :=
  List.rec (motive := fun _ => Program → CallT → Array Oper → Nat → List PI → St → Option St) (fun _ _ _ _ _ s => some s) (fun si _ ih P call ops n pend s => SI.rec (motive := fun _ => Option St)
    (fun it => valK P call ops n it (ih P call ops n) pend s) (fun it => newG P ops n it (ih P call ops n) pend s) (fun it => effK P call ops n it (ih P call ops n) pend s) si) l
theorem stepK_eq (P : Program) (call : CallT) (ops : Array Oper) (n : Nat) : ∀ (l : List SI) (pend : List PI) (s : St), stepK l P call ops n pend s = stepF P call ops n l pend s
  | [], pend, s => rfl
  | .val it :: l, pend, s => by
    show valK P call ops n it (stepK l P call ops n) pend s = _
    rw [valK_eq, show stepK l P call ops n = stepF P call ops n l from funext fun a => funext fun b => stepK_eq P call ops n l a b]
    rfl
  | .new it :: l, pend, s => by
    show newG P ops n it (stepK l P call ops n) pend s = _
    rw [show stepK l P call ops n = stepF P call ops n l from funext fun a => funext fun b => stepK_eq P call ops n l a b]
    rfl
  | .eff it :: l, pend, s => by
    show effK P call ops n it (stepK l P call ops n) pend s = _
    rw [effK_eq, show stepK l P call ops n = stepF P call ops n l from funext fun a => funext fun b => stepK_eq P call ops n l a b]
    rfl
noncomputable def drawK (P : Program) (call : CallT) : DrawT := fun ops n s => Option.rec (motive := fun _ => Option St) (drawV P call ops n s) (fun l => stepK l P call ops n [] s) (schedR ops)
theorem drawK_eq (P : Program) (call : CallT) : drawK P call = drawF P call := by
  funext ops n s
  unfold drawK drawF
  cases schedR ops with
  | none => rfl
  | some l => exact stepK_eq P call ops n l [] s
theorem drawK_ok {P : Program} {call : CallT} (hm : P.follows .mixedOrders = true) (hcall : CallOk P call) : DrawOk P call (drawK P call) := drawK_eq P call ▸ drawF_ok hm hcall
/-- Code. -/
noncomputable def wrapK (o : Option St) (mk : List Nat) : Res := Option.rec (motive := fun _ => Res) none (fun s' => some (.normal, s', mk)) o
noncomputable def thenE (k : St → List Nat → Res) (ex : Ex) (s : St) (mk : List Nat) : Res := Ex.rec (motive := fun _ => Res) (k s mk) (fun id => some (.exit id, s, mk)) (fun l => some (.goto l, s, mk)) (some (.ret, s, mk)) ex
noncomputable def thenK (r : Res) (k : St → List Nat → Res) : Res := Option.rec (motive := fun _ => Res) none (fun p => Prod.rec (motive := fun _ => Res) (fun ex q => Prod.rec (motive := fun _ => Res) (fun s mk => thenE k ex s mk) q) p) r
noncomputable def blockE (id : Nat) (ex : Ex) (q : St × List Nat) : Res := Ex.rec (motive := fun _ => Res) (some (.normal, q)) (fun id' => Bool.rec (motive := fun _ => Res) (some (.exit id', q)) (some (.normal, q)) (Nat.beq id' id)) (fun l => some (.goto l, q)) (some (.ret, q)) ex
noncomputable def blockK (id : Nat) (r : Res) : Res := Option.rec (motive := fun _ => Res) none (fun p => Prod.rec (motive := fun _ => Res) (fun ex q => blockE id ex q) p) r
noncomputable def pickK (v : Option V) (x y : Res) : Res := Option.rec (motive := fun _ => Res) none (fun a => Option.rec (motive := fun _ => Res) none (fun b => Bool.rec (motive := fun _ => Res) y x b) (asBool a)) v
theorem wrapK_eq (o : Option St) (mk : List Nat) : wrapK o mk = wrapS o mk := by cases o <;> rfl
theorem thenK_eq (r : Res) (k : St → List Nat → Res) : thenK r k = thenS r k := by
  cases r with
  | none => rfl
  | some p => obtain ⟨ex, s, mk⟩ := p; cases ex <;> rfl
theorem blockK_eq (id : Nat) (r : Res) : blockK id r = blockS id r := by
  cases r with
  | none => rfl
  | some p =>
    obtain ⟨ex, s, mk⟩ := p
    cases ex with
    | exit id' =>
      show Bool.rec (motive := fun _ => Res) (some (.exit id', s, mk)) (some (.normal, s, mk)) (Nat.beq id' id) = cond (Nat.beq id' id) (some (.normal, s, mk)) (some (.exit id', s, mk))
      cases Nat.beq id' id <;> rfl
    | _ => rfl
theorem pickK_eq (v : Option V) (x y : Res) : pickK v x y = pickS v x y := by
  cases v with
  | none => rfl
  | some a => cases a with
    | bool b => cases b <;> rfl
    | _ => rfl
noncomputable def loopK (f : Nat) : (St → List Nat → Res) → St → List Nat → Res :=
  Nat.rec (motive := fun _ => (St → List Nat → Res) → St → List Nat → Res) (fun _ _ _ => none) (fun _ ih step s mk => thenK (step s mk) (ih step)) f
theorem loopK_eq (step : St → List Nat → Res) : ∀ (f : Nat) (s : St) (mk : List Nat), loopK f step s mk = loopR f step s mk
  | 0, s, mk => rfl
  | f + 1, s, mk => by
    show thenK (step s mk) (loopK f step) = thenS (step s mk) (loopR f step)
    rw [thenK_eq, show loopK f step = loopR f step from funext fun a => funext fun b => loopK_eq step f a b]
noncomputable def k_region (_ : Nat) (ops : Array Oper) (d : Bool) : CT := fun P call draw n ro s mk => Bool.rec (motive := fun _ => Res) (wrapK (evListK ops.toList P call ops n s) mk) (wrapK (draw ops n s) mk) d
noncomputable def k_seq (_ _ : Code) (ra rb : CT) : CT := fun P call draw n ro s mk => thenK (ra P call draw n ro s mk) (rb P call draw n ro)
noncomputable def k_cond (c : Operand) (_ _ : Code) (ra rb : CT) : CT := fun P call draw n ro s mk => pickK (St.rec (motive := fun _ => Option V) (fun tm _ => opdR c tm) s) (ra P call draw n ro s mk) (rb P call draw n ro s mk)
noncomputable def k_block (id : Nat) (_ : Code) (ra : CT) : CT := fun P call draw n ro s mk => blockK id (ra P call draw n ro s mk)
noncomputable def k_loop (_ : Code) (ra : CT) : CT := fun P call draw n ro s mk => loopK 100000 (ra P call draw n ro) s mk
noncomputable def evKC (c : Code) : CT :=
  Code.rec (motive := fun _ => CT)
    (fun _ _ _ _ _ s mk => some (.normal, s, mk))
    k_region
    k_seq
    k_cond
    k_block
    k_loop
    c_range
    (fun id _ _ _ _ _ s mk => some (.exit id, s, mk))
    c_scope
    (fun _ _ _ _ _ _ s mk => some (.normal, s, mk))
    (fun l _ _ _ _ _ s mk => some (.goto l, s, mk))
    (fun _ _ _ _ _ s mk => some (.ret, s, mk))
    (fun _ _ _ _ _ _ _ _ => none)
    c
theorem evKC_eq (P : Program) (call : CallT) (draw : DrawT) (n : Nat) (ro : Option Nat) : ∀ (c : Code) (s : St) (mk : List Nat), evKC c P call draw n ro s mk = evR c P call draw n ro s mk
  | .skip, s, mk => rfl
  | .region id ops d, s, mk => by
    cases d with
    | false =>
      show wrapK (evListK ops.toList P call ops n s) mk = wrapS (evListR ops.toList P call ops n s) mk
      rw [wrapK_eq, evListK_eq, evListR_eq]
    | true =>
      show wrapK (draw ops n s) mk = wrapS (draw ops n s) mk
      rw [wrapK_eq]
  | .seq a b, s, mk => by
    show thenK (evKC a P call draw n ro s mk) (evKC b P call draw n ro) = thenS (evR a P call draw n ro s mk) (evR b P call draw n ro)
    rw [thenK_eq, evKC_eq P call draw n ro a, show evKC b P call draw n ro = evR b P call draw n ro from funext fun x => funext fun y => evKC_eq P call draw n ro b x y]
  | .cond c a b, s, mk => by
    show pickK (opdR c s.tm) (evKC a P call draw n ro s mk) (evKC b P call draw n ro s mk) = pickS (evO s.tm c) (evR a P call draw n ro s mk) (evR b P call draw n ro s mk)
    rw [pickK_eq, opdR_eq, evKC_eq P call draw n ro a, evKC_eq P call draw n ro b]
  | .block id b, s, mk => by
    show blockK id (evKC b P call draw n ro s mk) = blockS id (evR b P call draw n ro s mk)
    rw [blockK_eq, evKC_eq P call draw n ro b]
  | .loop b, s, mk => by
    show loopK 100000 (evKC b P call draw n ro) s mk = loopR 100000 (evR b P call draw n ro) s mk
    rw [loopK_eq, show evKC b P call draw n ro = evR b P call draw n ro from funext fun x => funext fun y => evKC_eq P call draw n ro b x y]
  | .rangeFunc g ps a b, s, mk => rfl
  | .exit id, s, mk => rfl
  | .scope b, s, mk => by
    show jumpN (evLab P call draw n ro b) 10000 (evKC b P call draw n ro s mk) = jumpN (evLab P call draw n ro b) 10000 (evR b P call draw n ro s mk)
    rw [evKC_eq P call draw n ro b]
  | .label _, s, mk => rfl
  | .goto _, s, mk => rfl
  | .ret, s, mk => rfl
  | .refuse _, s, mk => rfl

end Go.Proofs.YtjngkcnanhnopaaGreatDoor.Ev

import Derived.Test.YtjngkcnanhnopaaGreatDoorKe
/-! The evaluator: the operations that change nothing. -/
namespace Go.Proofs.YtjngkcnanhnopaaGreatDoor.Ev
open Go Go.RowKit
set_option linter.unusedVariables false
set_option linter.unusedSimpArgs false

theorem toV_junk : ∀ (d : Nat) (x : Value) (a : V), toV d x = some a → a ≠ .junk
  | 0, x, a, h => by simp [toV] at h
  | d + 1, .bool b, a, h | d + 1, .int k n, a, h | d + 1, .string s, a, h | d + 1, .pointer none, a, h | d + 1, .slice none n c, a, h | d + 1, .map none, a, h | d + 1, .nilFunc, a, h
  | d + 1, .nilIface, a, h => by simp [toV] at h; subst h; intro q; cases q
  | d + 1, .iface t v, a, h => by
    simp only [toV, Option.map_eq_some_iff] at h
    obtain ⟨y, h1, rfl⟩ := h
    intro q; cases q
  | d + 1, .agg ⟨c⟩, a, h => by
    simp only [toV, Option.map_eq_some_iff] at h
    obtain ⟨y, h1, rfl⟩ := h
    intro q; cases q
  | d + 1, .tuple ⟨c⟩, a, h => by
    simp only [toV, Option.map_eq_some_iff] at h
    obtain ⟨y, h1, rfl⟩ := h
    intro q; cases q
  | d + 1, .func (.func g) ⟨f⟩ ⟨c⟩, a, h => by
    simp only [toV] at h
    split at h
    · cases h; intro q; cases q
    · cases h
  | d + 1, .float .., a, h | d + 1, .complex .., a, h | d + 1, .pointer (some _), a, h | d + 1, .slice (some _) _ _, a, h | d + 1, .map (some _), a, h | d + 1, .chan _, a, h
  | d + 1, .func (.method _) _ _, a, h | d + 1, .func (.methodOf ..) _ _, a, h | d + 1, .func (.via ..) _ _, a, h | d + 1, .func (.yield _) _ _, a, h => by simp [toV] at h
def setR {α : Type} (l : List α) (off : Nat) (vs : List α) : List α := l.take off ++ (vs ++ l.drop (off + vs.length))
theorem setR_len {α : Type} {l : List α} {off : Nat} {vs : List α} (h : off + vs.length ≤ l.length) : (setR l off vs).length = l.length := by
  simp [setR]
  omega
theorem vrels_setR {e : E} {l vs : List V} {l' vs' : List Value} (off : Nat) (h : vrels e l l') (hv : vrels e vs vs') : vrels e (setR l off vs) (setR l' off vs') := by
  unfold setR
  rw [vrels_len hv]
  exact vrels_append (vrels_take off h) (vrels_append hv (vrels_drop _ h))
theorem fold_set : ∀ (vs : List Value) (k off : Nat) (cs : Array Value), off + k + vs.length ≤ cs.size →
    ((vs.zipIdx k).foldl (fun cs (p : Value × Nat) => cs.setIfInBounds (off + p.2) p.1) cs).toList = setR cs.toList (off + k) vs
  | [], k, off, cs, h => by simp [setR]
  | v :: vs, k, off, cs, h => by
    simp only [List.zipIdx_cons, List.foldl_cons]
    simp only [List.length_cons] at h
    rw [fold_set vs (k + 1) off _ (by simp; omega)]
    apply List.ext_getElem?
    intro i
    simp only [setR, Array.toList_setIfInBounds, List.getElem?_append, List.length_take, List.length_set, Array.length_toList, List.length_cons, List.getElem?_take, List.getElem?_drop, List.getElem?_set]
    by_cases h1 : i < off + k
    · simp [h1, show i < off + (k + 1) by omega, show i < min (off + (k + 1)) cs.size by omega, show i < min (off + k) cs.size by omega, show ¬ off + k = i by omega]
    · by_cases h2 : i = off + k
      · subst h2
        simp [show off + k < off + (k + 1) by omega, show off + k < min (off + (k + 1)) cs.size by omega, show ¬ off + k < min (off + k) cs.size by omega, show min (off + k) cs.size = off + k by omega, show off + k < cs.size by omega]
      · have h3 : ¬ i < min (off + (k + 1)) cs.size := by omega
        have h4 : ¬ i < min (off + k) cs.size := by omega
        simp only [h3, h4, if_false, if_true]
        rw [show min (off + (k + 1)) cs.size = off + k + 1 by omega, show min (off + k) cs.size = off + k by omega, show i - (off + k) = (i - (off + k + 1)) + 1 by omega]
        simp only [List.getElem?_cons_succ, Nat.add_lt_add_iff_right]
        by_cases h5 : i - (off + k + 1) < vs.length
        · simp [h5]
        · simp only [h5, if_false]
          rw [if_neg (by omega)]
          congr 1
          omega
def fillV (place : Nat → Option (Nat × Nat)) : List V → List (Nat × V) → Option (List V)
  | cs, [] => some cs
  | cs, (i, v) :: rest => match v with
    | .junk => none
    | v => match place i with
      | some (off, size) => cond (Nat.beq v.cells.length size) (cond (Nat.ble (off + size) cs.length) (fillV place (setR cs off v.cells) rest) none) none
      | none => none
def prels (e : E) : List (Nat × V) → List (Nat × Value) → Prop
  | [], l => l = []
  | (i, v) :: ps, l => ∃ x r, l = (i, x) :: r ∧ vrel e v x ∧ prels e ps r
theorem run_fillV {e : E} {place : Nat → Option (Nat × Nat)} : ∀ (ps : List (Nat × V)) (ps' : List (Nat × Value)) (cs : List V) (cs' : Array Value) (r : List V), prels e ps ps' → vrels e cs cs'.toList → fillV place cs ps = some r →
    ∃ r', Instr.fill place cs' ps' = some r' ∧ vrels e r r'.toList
  | [], _, cs, cs', r, hp, hc, q => by
    cases q
    have hp : _ = [] := hp
    subst hp
    exact ⟨cs', rfl, hc⟩
  | (i, v) :: ps, _, cs, cs', r, hp, hc, q => by
    obtain ⟨x, ps', rfl, hv, hps⟩ := hp
    unfold fillV at q
    split at q
    · cases q
    · rename_i hj
      split at q
      · rename_i off size hpl
        cases h1 : Nat.beq v.cells.length size with
        | false => rw [h1] at q; cases q
        | true =>
          cases h2 : Nat.ble (off + size) cs.length with
          | false => rw [h1, h2] at q; cases q
          | true =>
            rw [h1, h2] at q
            simp only [cond_true] at q
            have h1 := Nat.eq_of_beq_eq_true h1
            have h2 := Nat.le_of_ble_eq_true h2
            have hvc := vrel_cells (fun e1 => hj e1) hv
            have l1 := vrels_len hvc
            have l2 := vrels_len hc
            have l3 : x.cells.size = size := by simpa using l1.trans h1
            have hf := fold_set x.cells.toList 0 off cs' (by simp; simp at l2; omega)
            simp only [Nat.add_zero] at hf
            have hfold : ∀ (l : List (Value × Nat)), True := fun _ => trivial
            obtain ⟨r', h3, h4⟩ := run_fillV ps ps' _ (x.cells.zipIdx.foldl (fun cs (p : Value × Nat) => cs.setIfInBounds (off + p.2) p.1) cs') r hps (by
              rw [← Array.foldl_toList, Array.toList_zipIdx, hf]
              exact vrels_setR off hc hvc) q
            refine ⟨r', ?_, h4⟩
            unfold Instr.fill
            simp only [hpl]
            rw [if_neg (by simp at l2; simp; omega)]
            exact h3
      · cases q
def placesV (P : Program) (fs : List Field) : Option (List (Nat × Nat)) := fs.mapM (fun f => (P.info? f.type).map fun i => (f.offset, i.size))
def buildV (P : Program) (t : TypeId) (ps : List (Nat × V)) : Option V :=
  match zer P t, P.underlying t with
  | some z, some (.struct fs) => (match placesV P fs.toList with
    | some pl => (match fillV (fun i => pl[i]?) z.cells ps with
      | some r => some (.agg r)
      | none => none)
    | none => none)
  | some z, some (.array _ el) => (match sz P el with
    | some s => (match fillV (fun i => some (i * s, s)) z.cells ps with
      | some r => some (.agg r)
      | none => none)
    | none => none)
  | _, _ => none
def unV (op : UnOp) (x : V) : Option V :=
  match op, x with
  | .not, .bool b => some (.bool (!b))
  | .neg, .int k n => semV (Op.intArith .sub k 0 n)
  | .xor, .int k n => semV (Op.intBits .xor k (if k.signed then -1 else k.max) n)
  | _, _ => none
def fieldA (P : Program) (s : TypeId) (x : V) (f : Nat) : Option V :=
  match P.underlying s, x with
  | some (.struct fs), .ptr (some p) => (match fs[f]? with
    | some fl => (match sz P fl.type with
      | some (_ + 1) => some (.ptr (some (p.1, p.2 + fl.offset)))
      | _ => none)
    | none => none)
  | _, _ => none
def fieldV (P : Program) (t : TypeId) (x : V) (f : Nat) : Option V :=
  match P.underlying t, x with
  | some (.struct fs), .agg cs => (match fs[f]? with
    | some fl => partV P fl.type cs fl.offset
    | none => none)
  | _, _ => none
def convV (P : Program) (src dst : TypeId) (x : V) : Option V :=
  match P.underlying src, P.underlying dst, x with
  | some _, some (.int k), .int _ n => some (.int k (k.wrap n))
  | some _, some .string, .str s => some (.str s)
  | _, _, _ => none
def entsV (h : H) (m : V) : Option (List (V × V × Nat)) :=
  match m with
  | .map none => some []
  | .map (some r) => (match h.get r with
    | some (.map es _) => some es
    | _ => none)
  | _ => none
def lookV (P : Program) (h : H) (t : TypeId) (m k : V) (ok : Bool) : Option V :=
  match P.underlying t with
  | some (.map kt el) => (match entsV h m with
    | some es => cond (keyOk P kt k) (match findA P kt k es with
      | some (some (_, v, _)) => some (cond ok (.tuple [v, .bool true]) v)
      | some none => (match zer P el with
        | some z => some (cond ok (.tuple [z, .bool false]) z)
        | none => none)
      | none => none) none
    | none => none)
  | _ => none
def lenV (P : Program) (h : H) (t : TypeId) (x : V) : Option V :=
  match P.underlying t, x with
  | some .string, .str s => some (.int .i64 s.length)
  | some (.slice _), .slice _ n _ => some (.int .i64 n)
  | some (.map _ _), .map none => some (.int .i64 0)
  | some (.map _ _), .map (some r) => (match h.get r with
    | some (.map es _) => some (.int .i64 es.length)
    | _ => none)
  | _, _ => none
def minL : V → List V → Option V
  | x, [] => some x
  | .int k a, .int _ b :: l => minL (.int k (if b < a then b else a)) l
  | _, _ => none
def maxL : V → List V → Option V
  | x, [] => some x
  | .int k a, .int _ b :: l => maxL (.int k (if b > a then b else a)) l
  | _, _ => none
section
variable {P : Program} {w0 w : World} {e : E} {h : H}
theorem run_buildV {t : TypeId} {ps : List (Nat × V)} {ps' : Array (Nat × Value)} {v : V} (hp : prels e ps ps'.toList) (q : buildV P t ps = some v) : ∃ z, (Instr.build t ps').run P w = .ok z w ∧ vrel e v z := by
  unfold buildV at q
  split at q
  · rename_i z fs hz hu
    obtain ⟨it, z', h1, h2, h3⟩ := zer_info hz
    have hzr := toV_rel (e := e) 12 z' z h3
    split at q
    · rename_i pl hpl
      split at q
      · rename_i r hr
        cases q
        have hj : z ≠ .junk := toV_junk 12 z' z h3
        obtain ⟨r', h4, h5⟩ := run_fillV ps ps'.toList z.cells z'.cells r hp (vrel_cells hj hzr) hr
        refine ⟨.agg r', run_build w t ps' r' ?_, by simp only [vrel]; exact ⟨r'.toList, rfl, h5⟩⟩
        unfold placesV at hpl
        simp only [Program.built, h1, hu, h2, hpl]
        rw [← h4]
        simp
      · cases q
    · cases q
  · rename_i z n el hz hu
    obtain ⟨it, z', h1, h2, h3⟩ := zer_info hz
    have hzr := toV_rel (e := e) 12 z' z h3
    split at q
    · rename_i s hs
      split at q
      · rename_i r hr
        cases q
        have hj : z ≠ .junk := toV_junk 12 z' z h3
        obtain ⟨r', h4, h5⟩ := run_fillV ps ps'.toList z.cells z'.cells r hp (vrel_cells hj hzr) hr
        have hs' := sz_map hs
        refine ⟨.agg r', run_build w t ps' r' ?_, by simp only [vrel]; exact ⟨r'.toList, rfl, h5⟩⟩
        cases hi : P.info? el with
        | none => rw [hi] at hs'; cases hs'
        | some ie =>
          rw [hi] at hs'
          simp at hs'
          subst hs'
          simp only [Program.built, h1, hu, h2, hi]
          exact h4
      · cases q
    · cases q
  · cases q
theorem run_unV {op : UnOp} {x v : V} {x' : Value} (hx : vrel e x x') (q : unV op x = some v) : ∃ z, (Op.unary op x').run P w = .ok z w ∧ vrel e v z := by
  unfold unV at q
  split at q
  · simp only [vrel] at hx; subst hx; cases q; exact ⟨_, rfl, by simp only [vrel]⟩
  · simp only [vrel] at hx; subst hx; exact run_semV q
  · simp only [vrel] at hx; subst hx; exact run_semV q
  · cases q
theorem run_fieldA {s : TypeId} {x v : V} {f : Nat} {x' : Value} (hx : vrel e x x') (q : fieldA P s x f = some v) : ∃ z, (Instr.fieldAt s x' f).run P w = .ok z w ∧ vrel e v z := by
  unfold fieldA at q
  split at q
  · rename_i fs p hu
    obtain ⟨b, o⟩ := p
    simp only [vrel] at hx
    obtain ⟨k, hk, rfl⟩ := hx
    split at q
    · rename_i fl hf
      split at q
      · rename_i n hs
        cases q
        refine ⟨.pointer (some ⟨k, o + fl.offset, none⟩), ?_, by simp only [vrel]; exact ⟨k, hk, rfl⟩⟩
        simp [Instr.fieldAt, run_underlying hu, hf, Instr.sureAddr, fieldPlace, run_sz hs, addr_add]
      · cases q
    · cases q
  · cases q
theorem run_fieldV {t : TypeId} {x v : V} {f : Nat} {x' : Value} (hx : vrel e x x') (q : fieldV P t x f = some v) : ∃ z, (Instr.field t x' f).run P w = .ok z w ∧ vrel e v z := by
  unfold fieldV at q
  split at q
  · rename_i fs cs hu
    simp only [vrel] at hx
    obtain ⟨vs, rfl, hv⟩ := hx
    split at q
    · rename_i fl hf
      obtain ⟨z, h1, h2⟩ := run_partV (w := w) hv q
      exact ⟨z, by simp [Instr.field, run_underlying hu, hf, asAgg, h1], h2⟩
    · cases q
  · cases q
theorem run_convV {src dst : TypeId} {x v : V} {x' : Value} (hx : vrel e x x') (q : convV P src dst x = some v) : ∃ z, (convert src dst x').run P w = .ok z w ∧ vrel e v z := by
  unfold convV at q
  split at q
  · rename_i h1 h2
    simp only [vrel] at hx
    subst hx
    cases q
    exact ⟨_, by simp [convert, run_underlying h1, run_underlying h2, Conv.intToInt]; rfl, by simp only [vrel]⟩
  · rename_i h1 h2
    simp only [vrel] at hx
    subst hx
    cases q
    exact ⟨_, by simp [convert, run_underlying h1, run_underlying h2]; rfl, by simp only [vrel]⟩
  · cases q
theorem mrel_len : ∀ {es : List (V × V × Nat)} {l : List MapEntry}, mrel e es l → l.length = es.length
  | [], _, q => by have q : _ = [] := q; rw [q]; rfl
  | (k, v, s) :: es, _, ⟨x, r, h1, _, _, _, h5⟩ => by rw [h1]; simp [mrel_len h5]
theorem Rel.map (R : Rel w0 e h w) {r k : Nat} {es : List (V × V × Nat)} {ls : Option Nat} (hg : h.get r = some (.map es ls)) (hk : e.ρ r = some k) : ∃ l clk es', w.heap[k]? = some (.map ⟨l⟩ clk) ∧ es.Perm es' ∧ mrel e es' l ∧ (∀ x ∈ l, x.born < clk) ∧ (l.map (·.born)).Nodup ∧ crel e ls clk := R.heap r _ k hg hk
theorem run_getMap {k clk : Nat} {l : List MapEntry} (hg : w.heap[k]? = some (.map ⟨l⟩ clk)) : (getObj k).run P w = .ok (.map ⟨l⟩ clk) w := by
  simp [getObj, Sem.run, hg]
theorem run_lookV (R : Rel w0 e h w) {t : TypeId} {m k v : V} {m' k' : Value} {ok : Bool} (hm : vrel e m m') (hk : vrel e k k') (q : lookV P h t m k ok = some v) : ∃ z, (Instr.lookup t m' k' ok).run P w = .ok z w ∧ vrel e v z := by
  unfold lookV at q
  split at q
  · rename_i kt el hu
    split at q
    · rename_i es hes
      cases hko : keyOk P kt k with
      | false => rw [hko] at q; cases q
      | true =>
        rw [hko] at q
        simp only [cond_true] at q
        have hku : (P.underlying kt).isSome = true := by
          unfold keyOk at hko
          split at hko
          · rename_i hh; rw [hh]; rfl
          · unfold flatT at hko
            split at hko <;> first | (rename_i hh; rw [hh]; rfl) | cases hko
        have tail : ∀ (l : List MapEntry) (es' : List (V × V × Nat)), es.Perm es' → mrel e es' l → ∃ z, ((do
            Instr.checkKey (⟨l⟩ : Array MapEntry).isEmpty 10000 kt k'
            let (v, ok') ← match ← Instr.findKey kt k' l with
              | some (_, v) => pure (v, true)
              | none => pure (← zeroValue el, false)
            pure (if ok then .tuple #[v, .bool ok'] else v) : Sem Value)).run P w = .ok z w ∧ vrel e v z := by
          intro l es' hperm hml
          have hck := run_keyOk (w := w) hk hko (⟨l⟩ : Array MapEntry).isEmpty 9998
          split at q
          · rename_i k1 v1 s hf
            cases q
            obtain ⟨r', h1, h2⟩ := run_findA (w := w) hku hk hperm hml hf
            obtain ⟨j, x, _, _, rfl, hxv, _⟩ := h2
            refine ⟨if ok then .tuple #[x.val, .bool true] else x.val, ?_, ?_⟩
            · simp only [Sem.run_bind, Result.andThen_ok, hck, h1, Sem.run_pure]
            · cases ok
              · exact hxv
              · simp only [cond_true, vrel]
                exact ⟨[x.val, .bool true], rfl, vrels_cons.2 ⟨_, _, rfl, hxv, vrels_one (by simp only [vrel])⟩⟩
          · rename_i hf
            split at q
            · rename_i z hz
              cases q
              obtain ⟨r', h1, h2⟩ := run_findA (w := w) hku hk hperm hml hf
              have h2 : r' = none := h2
              subst h2
              obtain ⟨z', h3, _, h4⟩ := run_zer (w := w) hz
              refine ⟨if ok then .tuple #[z', .bool false] else z', ?_, ?_⟩
              · simp only [Sem.run_bind, Result.andThen_ok, hck, h1, h3, Sem.run_pure]
              · cases ok
                · exact h4 e
                · simp only [cond_true, vrel]
                  exact ⟨[z', .bool false], rfl, vrels_cons.2 ⟨_, _, rfl, h4 e, vrels_one (by simp only [vrel])⟩⟩
            · cases q
          · cases q
        unfold entsV at hes
        split at hes
        · cases hes
          simp only [vrel] at hm
          subst hm
          obtain ⟨z, h1, h2⟩ := tail [] [] (List.Perm.refl _) rfl
          refine ⟨z, ?_, h2⟩
          simp only [Instr.lookup, Sem.run_bind, run_underlying hu, Result.andThen_ok, Sem.run_pure] at h1 ⊢
          exact h1
        · rename_i r
          simp only [vrel] at hm
          obtain ⟨kr, h1, rfl⟩ := hm
          split at hes
          · rename_i hg
            cases hes
            obtain ⟨l, clk, es', h2, hperm, h3, _⟩ := R.map hg h1
            obtain ⟨z, h4, h5⟩ := tail l es' hperm h3
            refine ⟨z, ?_, h5⟩
            simp only [Instr.lookup, Sem.run_bind, run_underlying hu, Result.andThen_ok, Sem.run_pure, run_getMap (P := P) h2] at h4 ⊢
            exact h4
          · cases hes
        · cases hes
    · cases q
  · cases q
theorem run_lenV (R : Rel w0 e h w) {t ty : TypeId} {ats : Array TypeId} {x v : V} {x' : Value} (ha : ats[0]? = some t) (hx : vrel e x x') (q : lenV P h t x = some v) : ∃ z, (Builtin.len_ ats ty #[x']).run P w = .ok z w ∧ vrel e v z := by
  unfold lenV at q
  split at q
  · rename_i s hu
    cases q
    simp only [vrel] at hx
    subst hx
    have hsz : (⟨⟨s⟩⟩ : ByteArray).size = s.length := rfl
    exact ⟨.int .i64 s.length, by simp [Builtin.len_, ha, run_underlying hu, goInt, hsz], by simp only [vrel]⟩
  · rename_i n c hu
    cases q
    obtain ⟨a', c', h1, _⟩ := slice_inv hx
    subst h1
    exact ⟨.int .i64 n, by simp [Builtin.len_, ha, run_underlying hu, goInt], by simp only [vrel]⟩
  · rename_i hu
    cases q
    simp only [vrel] at hx
    subst hx
    exact ⟨.int .i64 0, by simp [Builtin.len_, ha, run_underlying hu, goInt], by simp only [vrel]⟩
  · rename_i r hu
    split at q
    · rename_i es ls hg
      cases q
      simp only [vrel] at hx
      obtain ⟨k, hk, rfl⟩ := hx
      obtain ⟨l, clk, es', h1, hperm, h2, _⟩ := R.map hg hk
      refine ⟨.int .i64 es.length, ?_, by simp only [vrel]⟩
      have hln : (⟨l⟩ : Array MapEntry).size = es.length := (mrel_len h2).trans hperm.length_eq.symm
      simp [Builtin.len_, ha, run_underlying hu, goInt, run_getMap (P := P) h1, hln]
    · cases q
  · cases q
theorem run_minL : ∀ (l : List V) (x : V) (x' : Value) (l' : List Value) (v : V), vrel e x x' → vrels e l l' → minL x l = some v → ∃ z, (l'.foldlM Builtin.min2 x').run P w = .ok z w ∧ vrel e v z
  | [], x, x', l', v, hx, hl, q => by
    rw [vrels_nil.1 hl]
    cases x <;> (simp [minL] at q; subst q; exact ⟨x', rfl, hx⟩)
  | y :: l, x, x', _, v, hx, hl, q => by
    obtain ⟨y', l', rfl, hy, hl2⟩ := vrels_cons.1 hl
    cases x with
    | int k a => cases y with
      | int k2 b =>
        simp only [minL] at q
        simp only [vrel] at hx hy
        subst hx hy
        obtain ⟨z, h1, h2⟩ := run_minL l _ (.int k (if b < a then b else a)) l' v (by simp only [vrel]) hl2 q
        exact ⟨z, by simpa [Builtin.min2] using h1, h2⟩
      | _ => simp [minL] at q
    | _ => simp [minL] at q
theorem run_maxL : ∀ (l : List V) (x : V) (x' : Value) (l' : List Value) (v : V), vrel e x x' → vrels e l l' → maxL x l = some v → ∃ z, (l'.foldlM Builtin.max2 x').run P w = .ok z w ∧ vrel e v z
  | [], x, x', l', v, hx, hl, q => by
    rw [vrels_nil.1 hl]
    cases x <;> (simp [maxL] at q; subst q; exact ⟨x', rfl, hx⟩)
  | y :: l, x, x', _, v, hx, hl, q => by
    obtain ⟨y', l', rfl, hy, hl2⟩ := vrels_cons.1 hl
    cases x with
    | int k a => cases y with
      | int k2 b =>
        simp only [maxL] at q
        simp only [vrel] at hx hy
        subst hx hy
        obtain ⟨z, h1, h2⟩ := run_maxL l _ (.int k (if b > a then b else a)) l' v (by simp only [vrel]) hl2 q
        exact ⟨z, by simpa [Builtin.max2] using h1, h2⟩
      | _ => simp [maxL] at q
    | _ => simp [maxL] at q
end
end Go.Proofs.YtjngkcnanhnopaaGreatDoor.Ev

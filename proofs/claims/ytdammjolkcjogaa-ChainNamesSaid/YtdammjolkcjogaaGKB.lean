import Derived.Test.YtdammjolkcjogaaGKA
import Derived.RangeFuncWrites
import Derived.RangeFuncNested
import Derived.Scope
/-! The evaluator: maps: put, entry, delete, next. -/
namespace Go.Proofs.Ytdammjolkcjogaa.Ev
open Go Go.RowKit
set_option linter.unusedVariables false
set_option linter.unusedSimpArgs false

mutual
def sameK : V → V → Bool
  | .int k a, .int k' b => decide (k = k') && decide (a = b)
  | .str a, .str b => decide (a = b)
  | .bool a, .bool b => decide (a = b)
  | .agg a, .agg b => sameKs a b
  | _, _ => false
def sameKs : List V → List V → Bool
  | [], [] => true
  | a :: l, b :: r => sameK a b && sameKs l r
  | _, _ => false
end
mutual
theorem sameK_eq : ∀ (a b : V), sameK a b = true → a = b
  | .int k a, b, h => by
    cases b <;> simp [sameK] at h
    obtain ⟨rfl, rfl⟩ := h
    rfl
  | .str a, b, h => by cases b <;> simp [sameK] at h; rw [h]
  | .bool a, b, h => by cases b <;> simp [sameK] at h; rw [h]
  | .agg a, b, h => by cases b <;> simp [sameK] at h; rw [sameKs_eq a _ h]
  | .ptr _, b, h | .slice _ _ _, b, h | .map _, b, h | .func _ _ _, b, h | .yield _, b, h | .nilFunc, b, h | .iface _ _, b, h | .nilIface, b, h | .tuple _, b, h | .stamp _, b, h | .junk, b, h => by
    cases b <;> simp [sameK] at h
theorem sameKs_eq : ∀ (a b : List V), sameKs a b = true → a = b
  | [], [], _ => rfl
  | [], _ :: _, h => by simp [sameKs] at h
  | _ :: _, [], h => by simp [sameKs] at h
  | a :: l, b :: r, h => by
    simp only [sameKs, Bool.and_eq_true] at h
    rw [sameK_eq a b h.1, sameKs_eq l r h.2]
end
def updE (es : List (V × V × Nat)) (s : Nat) (k x : V) : List (V × V × Nat) := es.map fun p => cond (Nat.beq p.2.2 s) (k, x, s) p
def delE (es : List (V × V × Nat)) (s : Nat) : List (V × V × Nat) := es.filter fun p => !(Nat.beq p.2.2 s)
def mapPut (P : Program) (h : H) (t : TypeId) (m k x : V) : Option H :=
  match P.underlying t, m with
  | some (.map kt _), .map (some r) => (match h.getW r with
    | some (.map es ls) => cond (keyOk P kt k) (match findA P kt k es with
      | some (some (k0, _, s)) => cond (sameK k0 k) (some (h.set r (some (.map (updE es s k x) ls)))) none
      | some none => some (h.set r (some (.map (es ++ [(k, x, h.nxt)]) (some h.nxt)))).bump
      | none => none) none
    | _ => none)
  | _, _ => none
def mapEnt (P : Program) (h : H) (t : TypeId) (m k : V) : Option (V × H) :=
  match P.underlying t, m with
  | some (.map kt el), .map (some r) => (match h.getW r with
    | some (.map es ls) => cond (keyOk P kt k) (match findA P kt k es with
      | some (some (k0, v, s)) => cond (sameK k0 k) (some (.tuple [v, .stamp s], h.set r (some (.map (updE es s k v) ls)))) none
      | some none => (match zer P el with
        | some z => some (.tuple [z, .stamp h.nxt], (h.set r (some (.map (es ++ [(k, z, h.nxt)]) (some h.nxt)))).bump)
        | none => none)
      | none => none) none
    | _ => none)
  | _, _ => none
def entPut (h : H) (m s x : V) : Option H :=
  match m, s with
  | .map (some r), .stamp s => (match h.getW r with
    | some (.map es ls) => (match es.find? (fun e => Nat.beq e.2.2 s) with
      | some (k, _, s') => some (h.set r (some (.map (updE es s' k x) ls)))
      | none => none)
    | _ => none)
  | _, _ => none
def mapDel (P : Program) (h : H) (t : TypeId) (m k : V) : Option H :=
  match P.underlying t, m with
  | some (.map kt _), .map none => cond (keyOk P kt k) (some h) none
  | some (.map kt _), .map (some r) => (match h.getW r with
    | some (.map es ls) => cond (keyOk P kt k) (match findA P kt k es with
      | some (some (_, _, s)) => some (h.set r (some (.map (delE es s) ls)))
      | some none => some h
      | none => none) none
    | _ => none)
  | _, _ => none
def nextV (h : H) (it : V) : Option (V × H) :=
  match it with
  | .ptr (some (b, 0)) => (match h.getW b with
    | some (.iter none _ _ _) => some (.tuple [.bool false], h)
    | some (.iter (some m) olds seen ls) => (match h.get m with
      | some (.map es ls') => cond (sameLs ls ls' && es.all fun e => olds.contains e.2.2) (match es.filter (fun e => !(seen.contains e.2.2)) with
        | [] => some (.tuple [.bool false], h)
        | [(k, v, s)] => some (.tuple [.bool true, k, v], h.set b (some (.iter (some m) olds (seen ++ [s]) ls')))
        | _ => none) none
      | _ => none)
    | _ => none)
  | _ => none
section
variable {P : Program} {w0 w : World} {e : E} {h : H}
theorem run_keyStays (old new : Value) : ∃ key w2, (Instr.keyThatStays old new).run P w = .ok key w2 ∧ (key = old ∨ key = new) ∧ (w2 = w ∨ w2 = w.drew) := by
  unfold Instr.keyThatStays
  by_cases hs : Instr.sameBits 10000 old new = true
  · exact ⟨new, w, by simp [hs], .inr rfl, .inl rfl⟩
  · simp only [hs, if_false, Bool.false_eq_true, Sem.run_bind, run_choose, Question.forced]
    by_cases hc : (Question.extern "map.whichKeyStays" 2).cut (w.tape w.drawn (.extern "map.whichKeyStays" 2)) = 0
    · exact ⟨new, w.drew, by simp [hc], .inr rfl, .inr rfl⟩
    · exact ⟨old, w.drew, by simp [hc], .inl rfl, .inr rfl⟩
theorem run_setMap {k clk : Nat} {l : List MapEntry} {o : Obj} (hg : w.heap[k]? = some (.map ⟨l⟩ clk)) : (setObj k o).run P w = .ok () (w.putObj k o) := by
  simp [setObj, Sem.run, hg, World.putObj]
theorem arr_modify {α : Type} (l : List α) (i : Nat) (f : α → α) : (⟨l⟩ : Array α).modify i f = ⟨l.modify i f⟩ := by
  apply Array.ext'
  simp
theorem mrel_mod : ∀ {es : List (V × V × Nat)} {l : List MapEntry} {i : Nat} {x : MapEntry} {k v : V} {s : Nat} {f : MapEntry → MapEntry}, mrel e es l → l[i]? = some x → vrel e k (f x).key → vrel e v (f x).val → e.κ s = some (f x).born →
    mrel e (es.set i (k, v, s)) (l.modify i f)
  | [], _, i, x, k, v, s, f, hm, hx, _, _, _ => by have hm : _ = [] := hm; subst hm; simp at hx
  | (k0, v0, s0) :: es, _, 0, x, k, v, s, f, ⟨y, r, h1, h2, h3, h4, h5⟩, hx, q1, q2, q3 => by
    subst h1
    simp at hx
    subst hx
    exact ⟨f y, r, by simp, q1, q2, q3, h5⟩
  | (k0, v0, s0) :: es, _, i + 1, x, k, v, s, f, ⟨y, r, h1, h2, h3, h4, h5⟩, hx, q1, q2, q3 => by
    subst h1
    simp at hx
    exact ⟨y, r.modify i f, by simp, h2, h3, h4, mrel_mod h5 hx q1 q2 q3⟩
theorem born_mod {l : List MapEntry} {i : Nat} {f : MapEntry → MapEntry} (hf : ∀ x, (f x).born = x.born) : (l.modify i f).map (·.born) = l.map (·.born) := by
  apply List.ext_getElem?
  intro j
  simp only [List.getElem?_map, List.getElem?_modify]
  by_cases hj : i = j
  · subst hj
    cases l[i]? <;> simp [hf]
  · cases l[j]? <;> simp [hj]
theorem born_lt {l l' : List MapEntry} {c : Nat} (h : ∀ x ∈ l, x.born < c) (hl : l'.map (·.born) = l.map (·.born)) : ∀ x ∈ l', x.born < c := fun x hx => by
  have : x.born ∈ l'.map (·.born) := List.mem_map_of_mem hx
  rw [hl, List.mem_map] at this
  obtain ⟨y, hy, hyb⟩ := this
  rw [← hyb]
  exact h y hy
theorem mrel_snoc : ∀ {es : List (V × V × Nat)} {l : List MapEntry} {x : MapEntry} {k v : V} {s : Nat}, mrel e es l → vrel e k x.key → vrel e v x.val → e.κ s = some x.born → mrel e (es ++ [(k, v, s)]) (l ++ [x])
  | [], _, x, k, v, s, hm, q1, q2, q3 => by have hm : _ = [] := hm; subst hm; exact ⟨x, [], rfl, q1, q2, q3, rfl⟩
  | (k0, v0, s0) :: es, _, x, k, v, s, ⟨y, r, h1, h2, h3, h4, h5⟩, q1, q2, q3 => by
    subst h1
    exact ⟨y, r ++ [x], rfl, h2, h3, h4, mrel_snoc h5 q1 q2 q3⟩
theorem mrel_get : ∀ {es : List (V × V × Nat)} {l : List MapEntry} {i : Nat} {x : MapEntry} {k v : V} {s : Nat}, mrel e es l → l[i]? = some x → es[i]? = some (k, v, s) → vrel e k x.key ∧ vrel e v x.val ∧ e.κ s = some x.born
  | [], _, i, x, k, v, s, hm, hx, he => by simp at he
  | (k0, v0, s0) :: es, _, 0, x, k, v, s, ⟨y, r, h1, h2, h3, h4, h5⟩, hx, he => by
    subst h1
    simp at hx he
    obtain ⟨rfl, rfl, rfl⟩ := he
    subst hx
    exact ⟨h2, h3, h4⟩
  | (k0, v0, s0) :: es, _, i + 1, x, k, v, s, ⟨y, r, h1, h2, h3, h4, h5⟩, hx, he => by
    subst h1
    simp at hx he
    exact mrel_get h5 hx he
theorem mrel_erase : ∀ {es : List (V × V × Nat)} {l : List MapEntry} (i : Nat), mrel e es l → mrel e (es.eraseIdx i) (l.eraseIdx i)
  | [], _, i, hm => by have hm : _ = [] := hm; subst hm; simp [mrel]
  | (k0, v0, s0) :: es, _, 0, ⟨y, r, h1, h2, h3, h4, h5⟩ => by subst h1; exact h5
  | (k0, v0, s0) :: es, _, i + 1, ⟨y, r, h1, h2, h3, h4, h5⟩ => by subst h1; exact ⟨y, _, rfl, h2, h3, h4, mrel_erase i h5⟩
theorem Rel.of_drew {w2 : World} (R : Rel w0 e h w) (hw : w2 = w ∨ w2 = w.drew) : Rel w0 e h w2 := by
  rcases hw with rfl | rfl
  · exact R
  · exact R.drew
theorem heap_drew {w2 : World} (hw : w2 = w ∨ w2 = w.drew) (k : Nat) : w2.heap[k]? = w.heap[k]? := by
  rcases hw with rfl | rfl <;> rfl
theorem ku_of {kt : TypeId} {k : V} (hko : keyOk P kt k = true) : (P.underlying kt).isSome = true := by
  unfold keyOk at hko
  split at hko
  · rename_i hh; rw [hh]; rfl
  · unfold flatT at hko
    split at hko <;> first | (rename_i hh; rw [hh]; rfl) | cases hko
theorem mrel_names : ∀ {es : List (V × V × Nat)} {l : List MapEntry}, mrel e es l → (l.map (·.born)).Nodup → (es.map (·.2.2)).Nodup
  | [], _, _, _ => List.nodup_nil
  | (k, v, s0) :: es, _, ⟨x, r, h1, _, _, h4, h5⟩, hd => by
    subst h1
    simp only [List.map_cons, List.nodup_cons] at hd ⊢
    refine ⟨fun hs => ?_, mrel_names h5 hd.2⟩
    obtain ⟨y, hy, hk⟩ := mrel_stamp h5 s0 hs
    rw [h4] at hk
    injection hk with hk
    exact hd.1 (by rw [hk]; exact List.mem_map_of_mem hy)
theorem updE_none : ∀ {es : List (V × V × Nat)} {s : Nat} {k x : V}, s ∉ es.map (·.2.2) → updE es s k x = es
  | [], _, _, _, _ => rfl
  | p :: es, s, k, x, hs => by
    simp only [List.map_cons, List.mem_cons, not_or] at hs
    have hb : Nat.beq p.2.2 s = false := by cases hh : Nat.beq p.2.2 s with | false => rfl | true => exact absurd (Nat.eq_of_beq_eq_true hh).symm hs.1
    show (cond (Nat.beq p.2.2 s) (k, x, s) p) :: updE es s k x = p :: es
    rw [hb, updE_none hs.2]
    rfl
theorem updE_set : ∀ {es : List (V × V × Nat)} {j s : Nat} {k0 v0 k x : V}, (es.map (·.2.2)).Nodup → es[j]? = some (k0, v0, s) → updE es s k x = es.set j (k, x, s)
  | [], j, s, _, _, _, _, _, he => by simp at he
  | p :: es, 0, s, k0, v0, k, x, hd, he => by
    simp at he
    subst he
    simp only [List.map_cons, List.nodup_cons] at hd
    show (cond (Nat.beq s s) (k, x, s) _) :: updE es s k x = (k, x, s) :: es
    rw [Nat.beq_refl, updE_none hd.1]
    rfl
  | p :: es, j + 1, s, k0, v0, k, x, hd, he => by
    simp only [List.map_cons, List.nodup_cons] at hd
    have he : es[j]? = some (k0, v0, s) := by simpa using he
    have hb : Nat.beq p.2.2 s = false := by
      cases hh : Nat.beq p.2.2 s with
      | false => rfl
      | true =>
        have hps := Nat.eq_of_beq_eq_true hh
        exact absurd (by rw [hps]; exact List.mem_map_of_mem (f := fun q : V × V × Nat => q.2.2) (List.mem_of_getElem? he)) hd.1
    show (cond (Nat.beq p.2.2 s) (k, x, s) p) :: updE es s k x = p :: es.set j (k, x, s)
    rw [hb, updE_set hd.2 he]
    rfl
theorem delE_none : ∀ {es : List (V × V × Nat)} {s : Nat}, s ∉ es.map (·.2.2) → delE es s = es
  | [], _, _ => rfl
  | p :: es, s, hs => by
    simp only [List.map_cons, List.mem_cons, not_or] at hs
    have hb : Nat.beq p.2.2 s = false := by cases hh : Nat.beq p.2.2 s with | false => rfl | true => exact absurd (Nat.eq_of_beq_eq_true hh).symm hs.1
    unfold delE
    rw [List.filter_cons_of_pos (by simp [hb])]
    congr 1
    exact delE_none hs.2
theorem delE_erase : ∀ {es : List (V × V × Nat)} {j s : Nat} {k0 v0 : V}, (es.map (·.2.2)).Nodup → es[j]? = some (k0, v0, s) → delE es s = es.eraseIdx j
  | [], j, s, _, _, _, he => by simp at he
  | p :: es, 0, s, k0, v0, hd, he => by
    simp at he
    subst he
    simp only [List.map_cons, List.nodup_cons] at hd
    unfold delE
    rw [List.filter_cons_of_neg (by simp)]
    exact delE_none hd.1
  | p :: es, j + 1, s, k0, v0, hd, he => by
    simp only [List.map_cons, List.nodup_cons] at hd
    have he : es[j]? = some (k0, v0, s) := by simpa using he
    have hb : Nat.beq p.2.2 s = false := by
      cases hh : Nat.beq p.2.2 s with
      | false => rfl
      | true =>
        have hps := Nat.eq_of_beq_eq_true hh
        exact absurd (by rw [hps]; exact List.mem_map_of_mem (f := fun q : V × V × Nat => q.2.2) (List.mem_of_getElem? he)) hd.1
    unfold delE
    rw [List.filter_cons_of_pos (by simp [hb]), List.eraseIdx_cons_succ]
    congr 1
    exact delE_erase hd.2 he
/-- An entry written where it stood. -/
theorem Rel.modMap {w2 : World} (R : Rel w0 e h w2) {r kr clk i : Nat} {es es' : List (V × V × Nat)} {ls : Option Nat} {l : List MapEntry} {x : MapEntry} {f : MapEntry → MapEntry} {k v k0 v0 : V} {s : Nat} (hfz : True) (hg : h.get r = some (.map es ls)) (hk : e.ρ r = some kr)
    (h1 : w2.heap[kr]? = some (.map ⟨l⟩ clk)) (hp : es.Perm es') (h2 : mrel e es' l) (h3 : ∀ x ∈ l, x.born < clk) (h4 : (l.map (·.born)).Nodup) (h5 : crel e ls clk) (he : es'[i]? = some (k0, v0, s)) (hx : l[i]? = some x) (hf : ∀ y, (f y).born = y.born) (q1 : vrel e k (f x).key) (q2 : vrel e v (f x).val) (q3 : e.κ s = some x.born) :
    Rel w0 e (h.set r (some (.map (updE es s k v) ls))) (w2.putObj kr (.map ((⟨l⟩ : Array MapEntry).modify i f) clk)) := by
  have hlt := (R.new _ _ hk).2
  refine R.upd hk hfz hg (grownBy_putObj' _ _ _) ?_
  rw [World.putObj_heap_same hlt, arr_modify]
  refine ⟨_, clk, es'.set i (k, v, s), rfl, ?_, mrel_mod h2 hx q1 q2 (by rw [hf]; exact q3), born_lt h3 (born_mod hf), by rw [born_mod hf]; exact h4, h5⟩
  rw [← updE_set (mrel_names h2 h4) he]
  exact hp.map _
/-- A new entry. -/
theorem Rel.pushMap (R : Rel w0 e h w) {r kr clk : Nat} {es : List (V × V × Nat)} {es' : List (V × V × Nat)} {ls : Option Nat} {l : List MapEntry} {k v : V} {kx vx : Value} (hfz : True) (hg : h.get r = some (.map es ls)) (hk : e.ρ r = some kr)
    (h1 : w.heap[kr]? = some (.map ⟨l⟩ clk)) (hp : es.Perm es') (h2 : mrel e es' l) (h3 : ∀ x ∈ l, x.born < clk) (h4 : (l.map (·.born)).Nodup) (q1 : vrel e k kx) (q2 : vrel e v vx) :
    Rel w0 (e.bind h.nxt none (some clk)) (h.set r (some (.map (es ++ [(k, v, h.nxt)]) (some h.nxt)))).bump (w.putObj kr (.map ((⟨l⟩ : Array MapEntry).push { key := kx, val := vx, born := clk }) (clk + 1))) := by
  have hlt := (R.new _ _ hk).2
  have hle : e.le (e.bind h.nxt none (some clk)) := E.bind_le R.rn R.kn R.ll
  have R1 : Rel w0 (e.bind h.nxt none (some clk)) h.bump w := R.stamp clk
  have hs : (e.bind h.nxt none (some clk)).κ h.nxt = some clk := E.bind_κ _ _ _ _
  refine R1.upd (hle.ρ _ _ hk) (b := r) (o := .map es ls) hfz hg (grownBy_putObj' _ _ _) ?_
  rw [World.putObj_heap_same hlt]
  refine ⟨l ++ [{ key := kx, val := vx, born := clk }], clk + 1, es' ++ [(k, v, h.nxt)], by simp, hp.append_right _, mrel_snoc (mrel_mono hle h2) (vrel_mono hle _ _ q1) (vrel_mono hle _ _ q2) hs, ?_, ?_, ⟨clk, hs, rfl⟩⟩
  · intro x hx
    rcases List.mem_append.1 hx with hx | hx
    · exact Nat.lt_succ_of_lt (h3 x hx)
    · simp at hx
      subst hx
      exact Nat.lt_succ_self _
  · rw [List.map_append, List.nodup_append]
    refine ⟨h4, by simp, ?_⟩
    intro a ha b hb
    simp at hb
    subst hb
    obtain ⟨y, hy, hya⟩ := List.mem_map.1 ha
    have := h3 y hy
    omega
theorem run_mapPut (R : Rel w0 e h w) {t : TypeId} {m k x : V} {m' k' x' : Value} {h' : H} (hm : vrel e m m') (hk : vrel e k k') (hx : vrel e x x') (q : mapPut P h t m k x = some h') :
    ∃ e' w', (Instr.mapUpdate t m' k' x').run P w = .ok () w' ∧ e.le e' ∧ Rel w0 e' h' w' := by
  unfold mapPut at q
  split at q
  · rename_i kt el r hu
    simp only [vrel] at hm
    obtain ⟨kr, hkr, rfl⟩ := hm
    split at q
    · rename_i es ls hg
      obtain ⟨hfz, hg⟩ := H.getW_some hg
      cases hko : keyOk P kt k with
      | false => rw [hko] at q; cases q
      | true =>
        rw [hko] at q
        simp only [cond_true] at q
        obtain ⟨l, clk, es', h1, hp, h2, h3, h4, h5⟩ := R.map hg hkr
        have hck := run_keyOk (w := w) hk hko false 9998
        have hgo := run_getMap (P := P) h1
        split at q
        · rename_i k0 v s hf
          obtain ⟨r', r1, r2⟩ := run_findA (w := w) (ku_of hko) hk hp h2 hf
          obtain ⟨i, y, he, hy, rfl, hyv, hys⟩ := r2
          cases hsm : sameK k0 k with
          | false => rw [hsm] at q; cases q
          | true =>
            have := sameK_eq _ _ hsm
            subst this
            rw [hsm] at q
            cases q
            obtain ⟨g1, g2, g3⟩ := mrel_get h2 hy he
            obtain ⟨key, w2, p1, p2, p3⟩ := run_keyStays (P := P) (w := w) y.key k'
            have hkey : vrel e k0 key := by rcases p2 with rfl | rfl <;> first | exact g1 | exact hk
            refine ⟨e, w2.putObj kr (.map ((⟨l⟩ : Array MapEntry).modify i fun en => { en with key := key, val := x' }) clk), ?_, E.le.refl e, ?_⟩
            · have hset := run_setMap (P := P) (w := w2) (o := .map ((⟨l⟩ : Array MapEntry).modify i fun en => { en with key := key, val := x' }) clk) ((heap_drew p3 kr).trans h1)
              simp only [Instr.mapUpdate, Sem.run_bind, run_underlying hu, Result.andThen_ok, hgo, hck, r1, List.getElem?_toArray, hy, Option.map_some, Option.getD_some, p1, hset]
            · exact (R.of_drew p3).modMap hfz hg hkr ((heap_drew p3 kr).trans h1) hp h2 h3 h4 h5 he hy (fun _ => rfl) hkey hx hys
        · rename_i hf
          cases q
          obtain ⟨r', r1, r2⟩ := run_findA (w := w) (ku_of hko) hk hp h2 hf
          have r2 : r' = none := r2
          subst r2
          refine ⟨e.bind h.nxt none (some clk), w.putObj kr (.map ((⟨l⟩ : Array MapEntry).push { key := k', val := x', born := clk }) (clk + 1)), ?_, E.bind_le R.rn R.kn R.ll, R.pushMap hfz hg hkr h1 hp h2 h3 h4 hk hx⟩
          have hset := run_setMap (P := P) (w := w) (o := .map ((⟨l⟩ : Array MapEntry).push { key := k', val := x', born := clk }) (clk + 1)) h1
          simp only [Instr.mapUpdate, Sem.run_bind, run_underlying hu, Result.andThen_ok, hgo, hck, r1, hset]
        · cases q
    · cases q
  · cases q
theorem run_mapEnt (R : Rel w0 e h w) {t : TypeId} {m k v : V} {m' k' : Value} {h' : H} (hm : vrel e m m') (hk : vrel e k k') (q : mapEnt P h t m k = some (v, h')) :
    ∃ e' w' z, (Instr.mapEntry t m' k').run P w = .ok z w' ∧ e.le e' ∧ vrel e' v z ∧ Rel w0 e' h' w' := by
  unfold mapEnt at q
  split at q
  · rename_i kt el r hu
    simp only [vrel] at hm
    obtain ⟨kr, hkr, rfl⟩ := hm
    split at q
    · rename_i es ls hg
      obtain ⟨hfz, hg⟩ := H.getW_some hg
      cases hko : keyOk P kt k with
      | false => rw [hko] at q; cases q
      | true =>
        rw [hko] at q
        simp only [cond_true] at q
        obtain ⟨l, clk, es', h1, hp, h2, h3, h4, h5⟩ := R.map hg hkr
        have hck := run_keyOk (w := w) hk hko false 9998
        have hgo := run_getMap (P := P) h1
        split at q
        · rename_i k0 v1 s hf
          obtain ⟨r', r1, r2⟩ := run_findA (w := w) (ku_of hko) hk hp h2 hf
          obtain ⟨i, y, he, hy, rfl, hyv, hys⟩ := r2
          cases hsm : sameK k0 k with
          | false => rw [hsm] at q; cases q
          | true =>
            have := sameK_eq _ _ hsm
            subst this
            rw [hsm] at q
            cases q
            obtain ⟨g1, g2, g3⟩ := mrel_get h2 hy he
            obtain ⟨key, w2, p1, p2, p3⟩ := run_keyStays (P := P) (w := w) y.key k'
            have hkey : vrel e k0 key := by rcases p2 with rfl | rfl <;> first | exact g1 | exact hk
            refine ⟨e, w2.putObj kr (.map ((⟨l⟩ : Array MapEntry).modify i fun en => { en with key := key }) clk), .tuple #[y.val, goInt y.born], ?_, E.le.refl e, ?_, ?_⟩
            · have hset := run_setMap (P := P) (w := w2) (o := .map ((⟨l⟩ : Array MapEntry).modify i fun en => { en with key := key }) clk) ((heap_drew p3 kr).trans h1)
              simp only [Instr.mapEntry, Sem.run_bind, run_underlying hu, Result.andThen_ok, hgo, hck, r1, List.getElem?_toArray, hy, Option.map_some, Option.getD_some, p1, hset, Sem.run_pure]
            · simp only [vrel]
              exact ⟨[y.val, goInt y.born], rfl, vrels_cons.2 ⟨_, _, rfl, hyv, vrels_one (by simp only [vrel]; exact ⟨_, hys, rfl⟩)⟩⟩
            · exact (R.of_drew p3).modMap hfz hg hkr ((heap_drew p3 kr).trans h1) hp h2 h3 h4 h5 he hy (fun _ => rfl) hkey hyv hys
        · rename_i hf
          split at q
          · rename_i z hz
            cases q
            obtain ⟨r', r1, r2⟩ := run_findA (w := w) (ku_of hko) hk hp h2 hf
            have r2 : r' = none := r2
            subst r2
            obtain ⟨z', t1, _, t2⟩ := run_zer (w := w) hz
            have hle : e.le (e.bind h.nxt none (some clk)) := E.bind_le R.rn R.kn R.ll
            refine ⟨e.bind h.nxt none (some clk), w.putObj kr (.map ((⟨l⟩ : Array MapEntry).push { key := k', val := z', born := clk }) (clk + 1)), .tuple #[z', goInt clk], ?_, hle, ?_, R.pushMap hfz hg hkr h1 hp h2 h3 h4 hk (t2 e)⟩
            · have hset := run_setMap (P := P) (w := w) (o := .map ((⟨l⟩ : Array MapEntry).push { key := k', val := z', born := clk }) (clk + 1)) h1
              simp only [Instr.mapEntry, Sem.run_bind, run_underlying hu, Result.andThen_ok, hgo, hck, r1, t1, hset, Sem.run_pure]
            · simp only [vrel]
              exact ⟨[z', goInt clk], rfl, vrels_cons.2 ⟨_, _, rfl, t2 _, vrels_one (by simp only [vrel]; exact ⟨_, E.bind_κ _ _ _ _, rfl⟩)⟩⟩
          · cases q
        · cases q
    · cases q
  · cases q
theorem findIdx_stamp : ∀ {es : List (V × V × Nat)} {l : List MapEntry} {s n : Nat} {k v : V}, mrel e es l → (l.map (·.born)).Nodup → e.κ s = some n → (k, v, s) ∈ es → ∃ i x, es[i]? = some (k, v, s) ∧ l[i]? = some x ∧ l.findIdx? (fun x => (x.born : Int) == (n : Int)) = some i
  | [], _, s, n, k, v, _, _, _, hf => by cases hf
  | (k0, v0, s0) :: es, _, s, n, k, v, ⟨x, r, h1, h2, h3, h4, h5⟩, hd, hn, hf => by
    subst h1
    simp only [List.map_cons, List.nodup_cons] at hd
    rcases List.mem_cons.1 hf with hf | hf
    · cases hf
      rw [h4] at hn
      cases hn
      exact ⟨0, x, rfl, rfl, by simp [List.findIdx?_cons]⟩
    · obtain ⟨i, y, g1, g2, ih⟩ := findIdx_stamp h5 hd.2 hn hf
      refine ⟨i + 1, y, by simpa using g1, by simpa using g2, ?_⟩
      have hne : ((x.born : Int) == (n : Int)) = false := by
        apply beq_eq_false_iff_ne.2
        intro q1
        obtain ⟨hjl, hjp, _⟩ := List.findIdx?_eq_some_iff_getElem.1 ih
        have : r[i].born = n := Int.ofNat.inj (by simpa using hjp)
        exact hd.1 (by
          rw [show x.born = n by omega, ← this]
          exact List.mem_map_of_mem (List.getElem_mem hjl))
      rw [List.findIdx?_cons, hne, ih]
      simp
theorem run_entPut (R : Rel w0 e h w) {t : TypeId} {m s x : V} {m' s' x' : Value} {h' : H} (hm : vrel e m m') (hs : vrel e s s') (hx : vrel e x x') (q : entPut h m s x = some h') :
    ∃ w', (Instr.entryStore t m' s' x').run P w = .ok () w' ∧ Rel w0 e h' w' := by
  unfold entPut at q
  split at q
  · rename_i r s
    simp only [vrel] at hm hs
    obtain ⟨kr, hkr, rfl⟩ := hm
    obtain ⟨n, hn, rfl⟩ := hs
    split at q
    · rename_i es ls hg
      obtain ⟨hfz, hg⟩ := H.getW_some hg
      split at q
      · rename_i k v0 s0 he
        cases q
        have hs0 : s0 = s := Nat.eq_of_beq_eq_true (by simpa using List.find?_some he)
        subst hs0
        obtain ⟨l, clk, es', h1, hp, h2, h3, h4, h5⟩ := R.map hg hkr
        have hgo := run_getMap (P := P) h1
        obtain ⟨i, y, hei, hy, hfi⟩ := findIdx_stamp h2 h4 hn (hp.mem_iff.1 (List.mem_of_find?_eq_some he))
        obtain ⟨g1, g2, g3⟩ := mrel_get h2 hy hei
        refine ⟨w.putObj kr (.map ((⟨l⟩ : Array MapEntry).modify i fun en => { en with val := x' }) clk), ?_, R.modMap hfz hg hkr h1 hp h2 h3 h4 h5 hei hy (fun _ => rfl) g1 hx g3⟩
        have hset := run_setMap (P := P) (w := w) (o := .map ((⟨l⟩ : Array MapEntry).modify i fun en => { en with val := x' }) clk) h1
        have hfa : (⟨l⟩ : Array MapEntry).findIdx? (fun x => (x.born : Int) == (n : Int)) = some i := by simpa using hfi
        simp only [Instr.entryStore, Sem.run_bind, Result.andThen_ok, hgo, asInt, asIntOf, Sem.run_pure, hfa, hset]
      · cases q
    · cases q
  · cases q
theorem run_mapDel (R : Rel w0 e h w) {t ty : TypeId} {ats : Array TypeId} {m k : V} {m' k' : Value} {h' : H} (ha : ats[0]? = some t) (hm : vrel e m m') (hk : vrel e k k') (q : mapDel P h t m k = some h') :
    ∃ w', (Builtin.delete_ ats ty #[m', k']).run P w = .ok (.tuple #[]) w' ∧ Rel w0 e h' w' := by
  unfold mapDel at q
  split at q
  · rename_i kt el hu
    cases hko : keyOk P kt k with
    | false => rw [hko] at q; cases q
    | true =>
      rw [hko] at q
      cases q
      simp only [vrel] at hm
      subst hm
      have hck := run_keyOk (w := w) hk hko true 9998
      exact ⟨w, by simp [Builtin.delete_, ha, run_underlying hu, hck], R⟩
  · rename_i kt el r hu
    simp only [vrel] at hm
    obtain ⟨kr, hkr, rfl⟩ := hm
    split at q
    · rename_i es ls hg
      obtain ⟨hfz, hg⟩ := H.getW_some hg
      cases hko : keyOk P kt k with
      | false => rw [hko] at q; cases q
      | true =>
        rw [hko] at q
        simp only [cond_true] at q
        obtain ⟨l, clk, es', h1, hp, h2, h3, h4, h5⟩ := R.map hg hkr
        have hck := run_keyOk (w := w) hk hko (⟨l⟩ : Array MapEntry).isEmpty 9998
        have hgo := run_getMap (P := P) h1
        have hlt := (R.new _ _ hkr).2
        split at q
        · rename_i k1 v1 s hf
          cases q
          obtain ⟨r', r1, r2⟩ := run_findA (w := w) (ku_of hko) hk hp h2 hf
          obtain ⟨i, y, he, hy, rfl, hyv, hys⟩ := r2
          have hset := run_setMap (P := P) (w := w) (o := .map ((⟨l⟩ : Array MapEntry).eraseIdxIfInBounds i) clk) h1
          refine ⟨w.putObj kr (.map ((⟨l⟩ : Array MapEntry).eraseIdxIfInBounds i) clk), ?_, ?_⟩
          · simp only [Builtin.delete_, ha, List.getElem?_toArray, List.getElem?_cons_zero, List.getElem?_cons_succ, Sem.run_bind, run_underlying hu, Result.andThen_ok, hgo, hck, r1, hset, Sem.run_pure]
          · refine R.upd hkr hfz hg (grownBy_putObj' _ _ _) ?_
            rw [World.putObj_heap_same hlt]
            refine ⟨l.eraseIdx i, clk, es'.eraseIdx i, ?_, by rw [← delE_erase (mrel_names h2 h4) he]; exact hp.filter _, mrel_erase i h2, fun x hx => h3 x (List.mem_of_mem_eraseIdx hx), ?_, h5⟩
            · congr 2
              apply Array.ext'
              simp [Array.eraseIdxIfInBounds]
              split
              · simp
              · rw [List.eraseIdx_of_length_le (by omega)]
            · exact h4.sublist ((List.eraseIdx_sublist l i).map _)
        · rename_i hf
          cases q
          obtain ⟨r', r1, r2⟩ := run_findA (w := w) (ku_of hko) hk hp h2 hf
          have r2 : r' = none := r2
          subst r2
          have hset := run_setMap (P := P) (w := w) (o := .map ⟨l⟩ clk) h1
          refine ⟨w.putObj kr (.map ⟨l⟩ clk), ?_, ?_⟩
          · simp only [Builtin.delete_, ha, List.getElem?_toArray, List.getElem?_cons_zero, List.getElem?_cons_succ, Sem.run_bind, run_underlying hu, Result.andThen_ok, hgo, hck, r1, hset, Sem.run_pure]
          · have : w.putObj kr (.map ⟨l⟩ clk) = w := by
              unfold World.putObj
              have hself : w.heap.setIfInBounds kr (.map ⟨l⟩ clk) = w.heap := by
                apply Array.ext_getElem?
                intro j
                by_cases hj : j = kr
                · subst hj; rw [h1]; simp [hlt]
                · rw [Array.getElem?_setIfInBounds_ne (Ne.symm hj)]
              rw [hself]
            rw [this]
            exact R
        · cases q
    · cases q
  · cases q
end
end Go.Proofs.Ytdammjolkcjogaa.Ev

/-! The evaluator: the next entry of a map. -/
namespace Go.Proofs.Ytdammjolkcjogaa.Ev
open Go Go.RowKit
set_option linter.unusedVariables false
set_option linter.unusedSimpArgs false
section
variable {P : Program} {w0 w : World} {e : E} {h : H}
theorem srel_mem : ∀ {ss l : List Nat}, srel e ss l → (∀ s ∈ ss, ∃ n, e.κ s = some n ∧ n ∈ l) ∧ (∀ n ∈ l, ∃ s ∈ ss, e.κ s = some n)
  | [], _, hq => by have hq : _ = [] := hq; subst hq; exact ⟨(fun s hs => nomatch hs), (fun n hn => nomatch hn)⟩
  | s :: ss, _, ⟨x, r, h1, h2, h3⟩ => by
    subst h1
    obtain ⟨p, q⟩ := srel_mem h3
    refine ⟨fun t ht => ?_, fun n hn => ?_⟩
    · rcases List.mem_cons.1 ht with rfl | ht
      · exact ⟨x, h2, by simp⟩
      · obtain ⟨n, hn, hm⟩ := p t ht; exact ⟨n, hn, by simp [hm]⟩
    · rcases List.mem_cons.1 hn with rfl | hn
      · exact ⟨s, by simp, h2⟩
      · obtain ⟨t, ht, hk⟩ := q n hn; exact ⟨t, by simp [ht], hk⟩
theorem srel_snoc : ∀ {ss l : List Nat} {s n : Nat}, srel e ss l → e.κ s = some n → srel e (ss ++ [s]) (l ++ [n])
  | [], _, s, n, hq, hn => by have hq : _ = [] := hq; subst hq; exact ⟨n, [], rfl, hn, rfl⟩
  | t :: ss, _, s, n, ⟨x, r, h1, h2, h3⟩, hn => by subst h1; exact ⟨x, r ++ [n], rfl, h2, srel_snoc h3 hn⟩
theorem seen_iff {olds seen seen' : List Nat} {s n : Nat} (h1 : srel e seen seen') (h2 : ∀ s ∈ seen, s ∈ olds) (h3 : ∀ s ∈ olds, ∀ s' ∈ olds, e.κ s = e.κ s' → s = s') (hs : s ∈ olds) (hn : e.κ s = some n) : seen.contains s = seen'.contains n := by
  obtain ⟨p, q⟩ := srel_mem h1
  cases hc : seen.contains s with
  | true =>
    obtain ⟨n', hn', hm⟩ := p s (by simpa using hc)
    rw [hn] at hn'
    cases hn'
    exact (by simpa using hm : seen'.contains n = true).symm
  | false =>
    cases hd : seen'.contains n with
    | false => rfl
    | true =>
      obtain ⟨t, ht, hk⟩ := q n (by simpa using hd)
      have := h3 t (h2 t ht) s hs (by rw [hk, hn])
      subst this
      have : seen.contains t = true := by simpa using ht
      rw [this] at hc
      cases hc
theorem mrel_filter {olds seen seen' : List Nat} (h1 : srel e seen seen') (h2 : ∀ s ∈ seen, s ∈ olds) (h3 : ∀ s ∈ olds, ∀ s' ∈ olds, e.κ s = e.κ s' → s = s') : ∀ {es : List (V × V × Nat)} {l : List MapEntry}, mrel e es l → (es.all fun x => olds.contains x.2.2) = true →
    mrel e (es.filter fun x => !(seen.contains x.2.2)) (l.filter fun x => !(seen'.contains x.born))
  | [], _, hm, _ => by have hm : _ = [] := hm; subst hm; rfl
  | (k, v, s) :: es, _, ⟨x, r, q1, q2, q3, q4, q5⟩, ha => by
    subst q1
    simp only [List.all_cons, Bool.and_eq_true] at ha
    have hs := seen_iff h1 h2 h3 (by simpa using ha.1) q4
    have ih := mrel_filter h1 h2 h3 q5 ha.2
    simp only [List.filter_cons, hs]
    split
    · exact ⟨x, _, rfl, q2, q3, q4, ih⟩
    · exact ih
theorem run_nextV (R : Rel w0 e h w) {it v : V} {it' : Value} {h' : H} (ty : TypeId) (hi : vrel e it it') (q : nextV h it = some (v, h')) :
    ∃ w' z, (Instr.next it' false ty).run P w = .ok z w' ∧ vrel e v z ∧ Rel w0 e h' w' := by
  unfold nextV at q
  split at q
  · rename_i b
    simp only [vrel] at hi
    obtain ⟨kb, hkb, rfl⟩ := hi
    split at q
    · rename_i hg
      obtain ⟨hfz, hg⟩ := H.getW_some hg
      cases q
      obtain ⟨m', since, seen', last, r1, r2, _⟩ := R.heap b _ kb hg hkb
      have r2 := r2 rfl
      subst r2
      have hgo : (getObj kb).run P w = .ok (.mapIter none since ⟨seen'⟩ last) w := by simp [getObj, Sem.run, r1]
      refine ⟨w, .tuple #[.bool false], by simp [Instr.next, hgo], ?_, R⟩
      simp only [vrel]
      exact ⟨_, rfl, vrels_one (by simp only [vrel])⟩
    · rename_i m olds seen ls hg
      obtain ⟨hfz, hg⟩ := H.getW_some hg
      split at q
      · rename_i es ls' hgm
        cases hall0 : (sameLs ls ls' && es.all fun e => olds.contains e.2.2) with
        | false => rw [hall0] at q; cases q
        | true =>
          rw [hall0] at q
          simp only [cond_true] at q
          obtain ⟨hls, hall⟩ := (Bool.and_eq_true _ _).mp hall0
          have hls := sameLs_eq hls
          subst hls
          obtain ⟨m', since, seen', last, r1, _, r3, r4, r5, r6, r7, r8, r9, r10⟩ := R.heap b _ kb hg hkb
          obtain ⟨km, hkm, rfl⟩ := r3 m rfl
          obtain ⟨l, clk, es', t1, tp, t2, t3, t4, t5⟩ := R.map hgm hkm
          have hclk := crel_eq r8 t5
          have hall' : (es'.all fun e => olds.contains e.2.2) = true := List.all_eq_true.2 fun p hp => List.all_eq_true.1 hall p (tp.mem_iff.2 hp)
          have tpf := tp.filter (fun e : V × V × Nat => !(seen.contains e.2.2))
          subst hclk
          subst r7
          have hgo : (getObj kb).run P w = .ok (.mapIter (some km) since ⟨seen'⟩ since) w := by simp [getObj, Sem.run, r1]
          have hgm' := run_getMap (P := P) t1
          have hold : ∀ x ∈ l, x.born < since := by
            have key : ∀ {es : List (V × V × Nat)} {l : List MapEntry}, mrel e es l → (es.all fun e => olds.contains e.2.2) = true → ∀ x ∈ l, x.born < since := by
              intro es
              induction es with
              | nil => intro l hm _ x hx; have hm : _ = [] := hm; subst hm; cases hx
              | cons p es ih =>
                obtain ⟨k, v, s⟩ := p
                rintro l ⟨y, r, q1, q2, q3, q4, q5⟩ ha x hx
                subst q1
                simp only [List.all_cons, Bool.and_eq_true] at ha
                rcases List.mem_cons.1 hx with rfl | hx
                · exact r5 s (by simpa using ha.1) _ q4
                · exact ih q5 ha.2 x hx
            exact key t2 hall'
          have htest : (!(⟨seen'⟩ : Array Nat).isEmpty && !(⟨l⟩ : Array MapEntry).isEmpty && (⟨l⟩ : Array MapEntry).all (fun x => decide (x.born ≥ since))) = false := by
            cases l with
            | nil => simp
            | cons y l =>
              have := hold y (by simp)
              have : ¬ y.born ≥ since := by omega
              simp [this]
          have hfil := mrel_filter r4 r9 r10 t2 hall'
          have hleft : (⟨l⟩ : Array MapEntry).filter (fun x => !(⟨seen'⟩ : Array Nat).contains x.born) = ⟨l.filter fun x => !(seen'.contains x.born)⟩ := by
            apply Array.ext'
            simp
          split at q
          · rename_i hf
            cases q
            rw [hf] at tpf
            rw [tpf.nil_eq.symm] at hfil
            have hfil : _ = [] := hfil
            refine ⟨w, .tuple #[.bool false], ?_, ?_, R⟩
            · simp only [Instr.next, Sem.run_bind, hgo, Result.andThen_ok, hgm', htest, Bool.false_eq_true, if_false, hleft, hfil]
              simp [choose, Sem.run, Question.forced]
            · simp only [vrel]
              exact ⟨_, rfl, vrels_one (by simp only [vrel])⟩
          · rename_i k0 v0 s0 hf
            cases q
            rw [hf] at tpf
            rw [List.perm_singleton.1 tpf.symm] at hfil
            obtain ⟨x, r, p1, p2, p3, p4, p5⟩ := hfil
            have p5 : r = [] := p5
            subst p5
            have hxl : x ∈ l := by
              have : x ∈ l.filter fun x => !(seen'.contains x.born) := by rw [p1]; simp
              exact (List.mem_filter.1 this).1
            have hxb := hold x hxl
            have hs0 : s0 ∈ olds := by
              have : (k0, v0, s0) ∈ es.filter (fun e => !(seen.contains e.2.2)) := by rw [hf]; simp
              have h1 := (List.mem_filter.1 this).1
              have := List.all_eq_true.1 hall _ h1
              simpa using this
            have hlt := (R.new _ _ hkb).2
            refine ⟨w.putObj kb (.mapIter (some km) since ((⟨seen'⟩ : Array Nat).push x.born) since), .tuple #[.bool true, x.key, x.val], ?_, ?_, ?_⟩
            · have hset : (setObj kb (.mapIter (some km) since ((⟨seen'⟩ : Array Nat).push x.born) since)).run P w = .ok () (w.putObj kb (.mapIter (some km) since ((⟨seen'⟩ : Array Nat).push x.born) since)) := by
                simp [setObj, Sem.run, r1, World.putObj]
              have hnb : ¬ x.born ≥ since := by omega
              simp only [Instr.next, Sem.run_bind, hgo, Result.andThen_ok, hgm', htest, Bool.false_eq_true, if_false, hleft, p1]
              simp [choose, Sem.run, Question.forced, hxb, hnb] at hset ⊢
              simp [hset]
            · simp only [vrel]
              exact ⟨[.bool true, x.key, x.val], rfl, vrels_cons.2 ⟨_, _, rfl, by simp only [vrel], vrels_cons.2 ⟨_, _, rfl, p2, vrels_one p3⟩⟩⟩
            · refine R.upd hkb hfz hg (grownBy_putObj' _ _ _) ?_
              rw [World.putObj_heap_same hlt]
              refine ⟨some km, since, seen' ++ [x.born], since, by simp, (fun hh => nomatch hh), fun r' hr => by cases hr; exact ⟨km, hkm, rfl⟩, srel_snoc r4 p4, r5, r6, ?_, t5, ?_, r10⟩
              · rfl
              · intro s hs
                rcases List.mem_append.1 hs with hs | hs
                · exact r9 s hs
                · simp at hs; subst hs; exact hs0
          · cases q
      · cases q
    · cases q
  · cases q
end
end Go.Proofs.Ytdammjolkcjogaa.Ev

/-! The evaluator: append. -/
namespace Go.Proofs.Ytdammjolkcjogaa.Ev
open Go Go.RowKit
set_option linter.unusedVariables false
set_option linter.unusedSimpArgs false

theorem growBy_le (need : Nat) : ∀ (r c : Nat), Builtin.growBy need r c ≤ max c (need + (need + 768) / 4)
  | 0, c => by simp [Builtin.growBy]; omega
  | r + 1, c => by
    unfold Builtin.growBy
    split
    · omega
    · have := growBy_le need r (c + (c + 768) / 4)
      omega
theorem nextcap_le {need c : Nat} (h : ¬ need ≤ c) : Builtin.nextslicecap need c ≤ 2 * need + 1000 := by
  unfold Builtin.nextslicecap
  split
  · omega
  · split
    · omega
    · have := growBy_le need 4 c
      omega
def isInt : TypeDesc → Bool
  | .int _ => true
  | _ => false
section
variable {P : Program} {w0 w : World} {e : E} {h : H}
theorem run_app_fit {ats : Array TypeId} {ty st xt el size n sl c : Nat} {d : TypeDesc} {base : Option Addr} {x' : Value} {new' : List Value} (h0 : ats[0]? = some st) (h1 : ats[1]? = some xt) (hu : P.underlying st = some (.slice el)) (hx : P.underlying xt = some d)
    (hd : isInt d = false) (hs : sz P el = some size) (hl : (Builtin.lenOf x').run P w = .ok n w) (hf : (Builtin.firstCells size n x').run P w = .ok ⟨new'⟩ w) (hn : sl + n ≤ c) :
    (Builtin.append_ ats ty #[.slice base sl c, x']).run P w = match base with
      | some a => ((storeCells (a.add (sl * size)) new').run P w).andThen (fun _ w' => .ok (.slice base (sl + n) c) w')
      | none => .ok (.slice none (sl + n) c) w := by
  have hz : ((match d with | .int _ => true | _ => false : Bool)) = false := by cases d <;> first | rfl | cases hd
  unfold Builtin.append_
  simp only [h0, h1, List.getElem?_toArray, List.getElem?_cons_zero, List.getElem?_cons_succ, Sem.run_bind, run_underlying hu, Result.andThen_ok, run_sz hs, run_underlying hx, Sem.run_pure]
  cases d <;> first
    | (cases hd; done)
    | (cases base with
       | none => simp [hl, hn, hf]
       | some a => simp [hl, hn, hf])
theorem run_app_grow {ats : Array TypeId} {ty st xt el size n sl c : Nat} {d : TypeDesc} {base : Option Addr} {x' : Value} {old' new' : List Value} {i : TypeInfo} {z : Value} (h0 : ats[0]? = some st) (h1 : ats[1]? = some xt) (hu : P.underlying st = some (.slice el)) (hx : P.underlying xt = some d)
    (hd : isInt d = false) (hs : sz P el = some size) (hi : P.info? el = some i) (hz : i.zero = some z) (hby : i.bytes ≤ 65536) (hby0 : i.bytes ≠ 0) (hne : sl + n ≤ 16777216)
    (hl : (Builtin.lenOf x').run P w = .ok n w) (hf : ∀ w2, w2 = w ∨ w2 = w.drew → (Builtin.firstCells size n x').run P w2 = .ok ⟨new'⟩ w2) (ho : ∀ w2, w2 = w ∨ w2 = w.drew → (Builtin.firstCells size sl (.slice base sl c)).run P w2 = .ok ⟨old'⟩ w2) (hn : ¬ sl + n ≤ c) :
    ∃ C rest, sl + n ≤ C ∧ rest.length = (C - (sl + n)) * z.cells.size ∧ (Builtin.append_ ats ty #[.slice base sl c, x']).run P w = .ok (.slice (some ⟨w.heap.size, 0, none⟩) (sl + n) C) (w.drew.alloc (.cells ⟨old' ++ new' ++ rest⟩ el)) := by
  refine ⟨Question.cut (.appendCap (sl + n) c el) (w.tape w.drawn (.appendCap (sl + n) c el)), (Builtin.zeroCells z.cells (Question.cut (.appendCap (sl + n) c el) (w.tape w.drawn (.appendCap (sl + n) c el)) - (sl + n))).toList, ?_, ?_, ?_⟩
  · simp [Question.cut]
  · simp [Builtin.zeroCells]
  · have hcap := nextcap_le hn
    have hmul : Builtin.nextslicecap (sl + n) c * i.bytes ≤ (2 * 16777216 + 1000) * 65536 := Nat.mul_le_mul (by omega) hby
    have hb : ¬ Builtin.nextslicecap (sl + n) c * i.bytes > 2 ^ 48 := by
      have : (2 ^ 48 : Nat) = 281474976710656 := by decide
      omega
    have hfw := hf w (.inl rfl)
    have hfd := hf w.drew (.inr rfl)
    have how := ho w.drew (.inr rfl)
    unfold Builtin.append_
    simp only [h0, h1, List.getElem?_toArray, List.getElem?_cons_zero, List.getElem?_cons_succ, Sem.run_bind, run_underlying hu, Result.andThen_ok, run_sz hs, run_underlying hx, Sem.run_pure]
    cases d <;> first
      | (cases hd; done)
      | (simp only [Bool.false_eq_true, if_false, hl, Result.andThen_ok, hn, Sem.run_ite, Sem.run_bind, typeInfo, run_program, hi, Sem.run_pure, hb, hby0, false_or, and_false, run_choose, Question.forced, run_askRoom, Bool.not_false, if_true]
         simp [how, hfd, zeroValue, typeInfo, hi, hz, newRow]
         congr 2
         apply Array.ext'
         simp)
def newCells (P : Program) (h : H) (size : Nat) (x : V) : Option (Nat × List V) :=
  match x with
  | .slice none m _ => cond (Nat.beq m 0) (some (0, [])) none
  | .slice (some p) m _ => cond (Nat.beq m 0) (some (0, [])) (match loadN h p (m * size) with
    | some l => some (m, l)
    | none => none)
  | .str s => some (s.length, s.map fun b => .int .u8 b.toNat)
  | _ => none
theorem loadN_drew (R : Rel w0 e h w) {a : Nat × Nat} {n k : Nat} {l : List V} (hk : e.ρ a.1 = some k) (q : loadN h a n = some l) :
    ∃ vs, (∀ w2, w2 = w ∨ w2 = w.drew → (loadCells ⟨k, a.2, none⟩ n).run P w2 = .ok ⟨vs⟩ w2) ∧ vrels e l vs := by
  obtain ⟨vs, cs, t, h1, h2, h3, h4, h5⟩ := loadN_vs R hk q
  refine ⟨vs, fun w2 hw => ?_, h5⟩
  have h1' : w2.heap[k]? = some (.cells ⟨cs⟩ t (0, 0)) := (heap_drew hw k).trans h1
  have := run_loadCells_list (P := P) (w := w2) ⟨k, a.2, none⟩ vs (fun j v hj => by
    rw [addr_add]
    rw [← h2, List.getElem?_take] at hj
    split at hj
    · rw [List.getElem?_drop] at hj
      simp only [World.cell?, h1']
      simpa using hj
    · cases hj)
  rw [h3] at this
  exact this
theorem run_newCells (R : Rel w0 e h w) {size n : Nat} {x : V} {x' : Value} {l : List V} (hx : vrel e x x') (q : newCells P h size x = some (n, l)) :
    ∃ vs, (∀ w2, w2 = w ∨ w2 = w.drew → (Builtin.lenOf x').run P w2 = .ok n w2 ∧ (Builtin.firstCells size n x').run P w2 = .ok ⟨vs⟩ w2) ∧ vrels e l vs := by
  unfold newCells at q
  split at q
  · rename_i m c
    cases hm : Nat.beq m 0 with
    | false => rw [hm] at q; cases q
    | true =>
      rw [hm] at q
      cases q
      have := Nat.eq_of_beq_eq_true hm
      subst this
      obtain ⟨a', c', rfl, ha⟩ := slice_inv hx
      cases a' with
      | some a => exact ⟨[], fun w2 _ => ⟨rfl, by simp [Builtin.firstCells, loadCells, loadCellsFrom]⟩, vrels_nil.2 rfl⟩
      | none => exact ⟨[], fun w2 _ => ⟨rfl, by simp [Builtin.firstCells]⟩, vrels_nil.2 rfl⟩
  · rename_i p m c
    have htl : ∀ tq, c = .tail tq → m = 0 ∧ ∃ a c', x' = .slice (some a) 0 c' := fun tq ht => by
      subst ht
      obtain ⟨b, o⟩ := p
      simp only [vrel] at hx
      obtain ⟨h0, k, c, a, _, _, _, _, h2⟩ := hx
      exact ⟨h0, a, _, h2⟩
    by_cases hisT : ∃ tq, c = .tail tq
    · obtain ⟨tq, ht⟩ := hisT
      obtain ⟨rfl, a, c', rfl⟩ := htl tq ht
      cases q
      exact ⟨[], fun w2 _ => ⟨rfl, by simp [Builtin.firstCells, loadCells, loadCellsFrom]⟩, vrels_nil.2 rfl⟩
    have hx' : ∃ k c', e.ρ p.1 = some k ∧ x' = .slice (some ⟨k, p.2, none⟩) m c' := by
      obtain ⟨b, o⟩ := p
      cases c with
      | tail tq => exact absurd ⟨tq, rfl⟩ hisT
      | exact c => simp only [vrel] at hx; obtain ⟨k, h1, h2⟩ := hx; exact ⟨k, _, h1, h2⟩
      | upto c m => simp only [vrel] at hx; obtain ⟨k, c, h1, _, _, h2⟩ := hx; exact ⟨k, _, h1, h2⟩
    obtain ⟨k, c', hk, rfl⟩ := hx'
    cases hm : Nat.beq m 0 with
    | true =>
      rw [hm] at q
      cases q
      have := Nat.eq_of_beq_eq_true hm
      subst this
      exact ⟨[], fun w2 _ => ⟨rfl, by simp [Builtin.firstCells, loadCells, loadCellsFrom]⟩, vrels_nil.2 rfl⟩
    | false =>
      rw [hm] at q
      simp only [cond_false] at q
      split at q
      · rename_i l' hl
        cases q
        obtain ⟨vs, h1, h2⟩ := loadN_drew (P := P) R hk hl
        exact ⟨vs, fun w2 hw => ⟨rfl, h1 w2 hw⟩, h2⟩
      · cases q
  · rename_i s
    cases q
    simp only [vrel] at hx
    subst hx
    refine ⟨s.map fun b => .int .u8 b.toNat, fun w2 _ => ⟨rfl, ?_⟩, ?_⟩
    · have hex := bytes_extract s 0 s.length
      simp at hex
      simp [Builtin.firstCells, hex]
    · have : ∀ l : List UInt8, vrels e (l.map fun b => V.int .u8 b.toNat) (l.map fun b => Value.int .u8 b.toNat) := by
        intro l
        induction l with
        | nil => exact vrels_nil.2 rfl
        | cons b l ih => exact vrels_cons.2 ⟨_, _, rfl, by simp only [vrel], ih⟩
      exact this s
  · cases q
/-- What is appended: elements; or so many zeros ('append(s, make(..)..)'). -/
def newX (P : Program) (h : H) (d : TypeDesc) (size : Nat) (z : V) (x : V) : Option (Nat × List V) :=
  match isInt d with
  | false => newCells P h size x
  | true => (match x with
    | .int _ m => if 0 ≤ m ∧ m ≤ 16777216 then some (m.toNat, (List.replicate m.toNat z.cells).flatten) else none
    | _ => none)
/-- What append does, whichever it is. -/
structure AppIs (P : Program) (w : World) (ats : Array TypeId) (ty el size n : Nat) (zs : Nat) (x' : Value) (vs : List Value) : Prop where
  fit : ∀ (base : Option Addr) (sl c : Nat), sl + n ≤ c → (Builtin.append_ ats ty #[.slice base sl c, x']).run P w = match base with
      | some a => ((storeCells (a.add (sl * size)) vs).run P w).andThen (fun _ w' => .ok (.slice base (sl + n) c) w')
      | none => .ok (.slice none (sl + n) c) w
  grow : ∀ (base : Option Addr) (sl c : Nat) (old' : List Value), ¬ sl + n ≤ c → sl + n ≤ 16777216 → (∀ w2, w2 = w ∨ w2 = w.drew → (Builtin.firstCells size sl (.slice base sl c)).run P w2 = .ok ⟨old'⟩ w2) →
    ∃ C rest, sl + n ≤ C ∧ rest.length = (C - (sl + n)) * zs ∧ (Builtin.append_ ats ty #[.slice base sl c, x']).run P w = .ok (.slice (some ⟨w.heap.size, 0, none⟩) (sl + n) C) (w.drew.alloc (.cells ⟨old' ++ vs ++ rest⟩ el))
theorem run_app_fitZ {ats : Array TypeId} {ty st xt el size sl c : Nat} {q : IntKind} {base : Option Addr} {k : IntKind} {m : Int} {i : TypeInfo} {z : Value} (h0 : ats[0]? = some st) (h1 : ats[1]? = some xt) (hu : P.underlying st = some (.slice el)) (hx : P.underlying xt = some (.int q))
    (hs : sz P el = some size) (hs0 : 0 < size) (hi : P.info? el = some i) (hz : i.zero = some z) (hby : i.bytes ≤ 65536) (hm0 : 0 ≤ m) (hm1 : m ≤ 16777216) (hzs : z.cells.size = size) (hn : sl + m.toNat ≤ c) :
    (Builtin.append_ ats ty #[.slice base sl c, .int k m]).run P w = match base with
      | some a => ((storeCells (a.add (sl * size)) (List.replicate m.toNat z.cells.toList).flatten).run P w).andThen (fun _ w' => .ok (.slice base (sl + m.toNat) c) w')
      | none => .ok (.slice none (sl + m.toNat) c) w := by
  have hw : IntKind.i64.wrap m = m := by rw [IntKind.wrap_i64]; omega
  have hl0 : ¬ m < 0 := by omega
  have hl1 : ¬ m * (i.bytes : Int) > 2 ^ 48 := by
    have : m * (i.bytes : Int) ≤ 16777216 * 65536 := Int.mul_le_mul hm1 (by omega) (by omega) (by omega)
    omega
  have hzc := zero_cells m.toNat z.cells
  unfold Builtin.append_
  simp only [h0, h1, List.getElem?_toArray, List.getElem?_cons_zero, List.getElem?_cons_succ, Sem.run_bind, run_underlying hu, Result.andThen_ok, run_sz hs, run_underlying hx, Sem.run_pure, asInt, asIntOf, hw, hl0, if_false, if_true, typeInfo, run_program, hi, hl1, Bool.not_true, Bool.false_eq_true, hn]
  have hzr : (zeroValue el).run P w = .ok z w := by simp [zeroValue, typeInfo, hi, hz]
  by_cases hmz : m.toNat * size = 0
  · have hmm : m.toNat = 0 := by rcases Nat.mul_eq_zero.1 hmz with h | h <;> omega
    cases base with
    | none => simp [hmm]
    | some a => simp [hmm, hmz]
  · cases base with
    | none => simp [hmz, hzr]
    | some a =>
      have he : (Builtin.zeroCells z.cells m.toNat).toList = (List.replicate m.toNat z.cells.toList).flatten := hzc
      simp [hmz, hzr, he]
theorem run_app_growZ {ats : Array TypeId} {ty st xt el size sl c : Nat} {q : IntKind} {base : Option Addr} {k : IntKind} {m : Int} {i : TypeInfo} {z : Value} {old' : List Value} (h0 : ats[0]? = some st) (h1 : ats[1]? = some xt) (hu : P.underlying st = some (.slice el)) (hx : P.underlying xt = some (.int q))
    (hs : sz P el = some size) (hs0 : 0 < size) (hi : P.info? el = some i) (hz : i.zero = some z) (hby : i.bytes ≤ 65536) (hby0 : i.bytes ≠ 0) (hm0 : 0 ≤ m) (hm1 : m ≤ 16777216) (hzs : z.cells.size = size) (hne : sl + m.toNat ≤ 16777216)
    (ho : ∀ w2, w2 = w ∨ w2 = w.drew → (Builtin.firstCells size sl (.slice base sl c)).run P w2 = .ok ⟨old'⟩ w2) (hn : ¬ sl + m.toNat ≤ c) :
    ∃ C rest, sl + m.toNat ≤ C ∧ rest.length = (C - (sl + m.toNat)) * z.cells.size ∧ (Builtin.append_ ats ty #[.slice base sl c, .int k m]).run P w = .ok (.slice (some ⟨w.heap.size, 0, none⟩) (sl + m.toNat) C) (w.drew.alloc (.cells ⟨old' ++ (List.replicate m.toNat z.cells.toList).flatten ++ rest⟩ el)) := by
  refine ⟨Question.cut (.appendCap (sl + m.toNat) c el) (w.tape w.drawn (.appendCap (sl + m.toNat) c el)), (Builtin.zeroCells z.cells (Question.cut (.appendCap (sl + m.toNat) c el) (w.tape w.drawn (.appendCap (sl + m.toNat) c el)) - (sl + m.toNat))).toList, ?_, ?_, ?_⟩
  · simp [Question.cut]
  · simp [Builtin.zeroCells]
  · have hcap := nextcap_le hn
    have hmul : Builtin.nextslicecap (sl + m.toNat) c * i.bytes ≤ (2 * 16777216 + 1000) * 65536 := Nat.mul_le_mul (by omega) hby
    have hb : ¬ Builtin.nextslicecap (sl + m.toNat) c * i.bytes > 2 ^ 48 := by
      have : (2 ^ 48 : Nat) = 281474976710656 := by decide
      omega
    have hw : IntKind.i64.wrap m = m := by rw [IntKind.wrap_i64]; omega
    have hl0 : ¬ m < 0 := by omega
    have hl1 : ¬ m * (i.bytes : Int) > 2 ^ 48 := by
      have : m * (i.bytes : Int) ≤ 16777216 * 65536 := Int.mul_le_mul hm1 (by omega) (by omega) (by omega)
      omega
    have hmx : ¬ ((sl + m.toNat : Nat) : Int) > IntKind.i64.max := by
      have : IntKind.i64.max = 9223372036854775807 := by decide
      omega
    have how := ho w.drew (.inr rfl)
    have hzc : (Builtin.zeroCells z.cells m.toNat).toList = (List.replicate m.toNat z.cells.toList).flatten := zero_cells m.toNat z.cells
    have hmz : ¬ m.toNat * size = 0 ∨ m.toNat = 0 := by
      by_cases h : m.toNat = 0
      · exact .inr h
      · exact .inl (fun h2 => by rcases Nat.mul_eq_zero.1 h2 with h3 | h3 <;> omega)
    unfold Builtin.append_
    simp only [h0, h1, List.getElem?_toArray, List.getElem?_cons_zero, List.getElem?_cons_succ, Sem.run_bind, run_underlying hu, Result.andThen_ok, run_sz hs, run_underlying hx, Sem.run_pure, asInt, asIntOf, hw, hl0, if_false, if_true, typeInfo, run_program, hi, hl1, Bool.not_true, Bool.false_eq_true, hn, hmx, false_and, Sem.run_ite, hb, run_choose, Question.forced, run_askRoom, how]
    have hzr : ∀ w2, (zeroValue el).run P w2 = .ok z w2 := fun w2 => by simp [zeroValue, typeInfo, hi, hz]
    rcases hmz with hmz | hmz
    · simp [hmz, newRow, how, hzr]
      congr 2
      apply Array.ext'
      simp [hzc]
    · simp [hmz, newRow, how, hzr]
      congr 2
      apply Array.ext'
      simp
theorem run_newX (R : Rel w0 e h w) {ats : Array TypeId} {ty st xt el size n : Nat} {d : TypeDesc} {i : TypeInfo} {z' : Value} {z x : V} {x' : Value} {l : List V} (h0 : ats[0]? = some st) (h1 : ats[1]? = some xt) (hu : P.underlying st = some (.slice el)) (hd : P.underlying xt = some d)
    (hs : sz P el = some size) (hs0 : 0 < size) (hi : P.info? el = some i) (hz : i.zero = some z') (hzr : toV 12 z' = some z) (hby : i.bytes ≤ 65536) (hby0 : i.bytes ≠ 0) (hzs : z'.cells.size = size) (hx : vrel e x x') (q : newX P h d size z x = some (n, l)) :
    ∃ vs, AppIs P w ats ty el size n z'.cells.size x' vs ∧ vrels e l vs := by
  unfold newX at q
  split at q
  · rename_i hdi
    obtain ⟨vs, hvs, hvr⟩ := run_newCells (P := P) R hx q
    exact ⟨vs, ⟨fun base sl c hn => run_app_fit h0 h1 hu hd hdi hs (hvs w (.inl rfl)).1 (hvs w (.inl rfl)).2 hn, fun base sl c old' hn hne hfo => run_app_grow h0 h1 hu hd hdi hs hi hz hby hby0 hne (hvs w (.inl rfl)).1 (fun w2 hw => (hvs w2 hw).2) hfo hn⟩, hvr⟩
  · rename_i hdi
    split at q
    · rename_i k m
      split at q
      · rename_i hm
        cases q
        obtain ⟨iq, rfl⟩ : ∃ iq, d = .int iq := by cases d <;> first | exact ⟨_, rfl⟩ | cases hdi
        simp only [vrel] at hx
        subst hx
        refine ⟨(List.replicate m.toNat z'.cells.toList).flatten, ⟨fun base sl c hn => run_app_fitZ h0 h1 hu hd hs hs0 hi hz hby hm.1 hm.2 hzs hn, fun base sl c old' hn hne hfo => run_app_growZ h0 h1 hu hd hs hs0 hi hz hby hby0 hm.1 hm.2 hzs hne hfo hn⟩, ?_⟩
        exact vrels_flat (vrel_cells (toV_junk 12 z' z hzr) (toV_rel 12 z' z hzr))
      · cases q
    · cases q
def appV (P : Program) (h : H) (ats : Array TypeId) (s x : V) : Option (V × H) :=
  match ats[0]?, ats[1]? with
  | some st, some xt => (match P.underlying st, P.underlying xt with
    | some (.slice el), some d => (match sz P el, zer P el, P.info? el with
      | some size, some z, some i => (match newX P h d size z x with
        | some (n, new) => cond (Nat.blt 0 size && Nat.beq z.cells.length size && Nat.ble i.bytes 65536 && Nat.blt 0 i.bytes && new.all V.one && Nat.beq new.length (n * size)) (match s with
          | .slice base sl (.exact c) => cond (Nat.ble (sl + n) c) (match base with
              | some p => (match storeN h (p.1, p.2 + sl * size) new with
                | some h' => some (.slice base (sl + n) (.exact c), h')
                | none => none)
              | none => some (.slice none (sl + n) (.exact c), h))
            (cond (Nat.ble (sl + n) 16777216) (match (match base with
                | some p => loadN h p (sl * size)
                | none => cond (Nat.beq sl 0) (some []) none) with
              | some old => some (.slice (some (h.nxt, 0)) (sl + n) (.upto 0 (sl + n)), h.new (.cells (old ++ new) el (some size)))
              | none => none) none)
          | .slice (some (b, o)) sl (.upto qq mm) => cond (Nat.beq n 0) (some (s, h)) (cond (Nat.ble (sl + n) mm) (match storeN h (b, o + sl * size) new with
              | some h' => some (.slice (some (b, o)) (sl + n) (.upto qq mm), h')
              | none => none)
            (cond (Nat.beq o 0 && Nat.beq qq 0) (match h.getW b with
            | some (.cells l t (some s')) => cond (Nat.beq s' size && Nat.beq t el && Nat.ble (sl * size) l.length && Nat.ble (sl + n) 16777216)
                (some (.slice (some (h.nxt, 0)) (sl + n) (.upto 0 (sl + n)), (h.set b none).new (.cells (l.take (sl * size) ++ new) el (some size)))) none
            | _ => none) none))
          | .slice none _ (.upto _ _) => cond (Nat.beq n 0) (some (s, h)) none
          | .slice (some _) _ (.tail _) => cond (Nat.beq n 0) (some (s, h)) none
          | _ => none) none
        | none => none)
      | _, _, _ => none)
    | _, _ => none)
  | _, _ => none
theorem grown_drew_alloc (w : World) (o : Obj) : w.grownBy (w.drew.alloc o) none :=
  ⟨rfl, rfl, rfl, by rw [World.size_alloc]; exact Nat.le_succ _, fun k hk _ => Below.heap_alloc w.drew o k hk⟩
theorem drew_alloc_new (w : World) (o : Obj) : (w.drew.alloc o).heap[w.heap.size]? = some o := World.alloc_heap_new w.drew o
theorem run_appV (R : Rel w0 e h w) {ats : Array TypeId} {ty : Nat} {s x v : V} {s' x' : Value} {h' : H} (hs' : vrel e s s') (hx : vrel e x x') (q : appV P h ats s x = some (v, h')) :
    ∃ e' w' z, (Builtin.append_ ats ty #[s', x']).run P w = .ok z w' ∧ e.le e' ∧ vrel e' v z ∧ Rel w0 e' h' w' := by
  unfold appV at q
  split at q
  · rename_i st xt h0 h1
    split at q
    · rename_i el d hu hd
      split at q
      · rename_i size z i hs hz hi
        split at q
        · rename_i n new hnew
          cases hc : (Nat.blt 0 size && Nat.beq z.cells.length size && Nat.ble i.bytes 65536 && Nat.blt 0 i.bytes && new.all V.one && Nat.beq new.length (n * size)) with
          | false => rw [hc] at q; cases q
          | true =>
            rw [hc] at q
            simp only [cond_true] at q
            simp only [Bool.and_eq_true] at hc
            obtain ⟨⟨⟨⟨⟨c1, c2⟩, c3⟩, c4⟩, c5⟩, c6⟩ := hc
            have c1 : 0 < size := Nat.le_of_ble_eq_true c1
            have c2 := Nat.eq_of_beq_eq_true c2
            have c3 := Nat.le_of_ble_eq_true c3
            have c4 : 0 < i.bytes := Nat.le_of_ble_eq_true c4
            have c6 := Nat.eq_of_beq_eq_true c6
            obtain ⟨it, z', g1, g2, g3⟩ := zer_info hz
            rw [hi] at g1
            cases g1
            have hzsz : z'.cells.size = size := by
              have := vrels_len (vrel_cells (toV_junk 12 z' z g3) (toV_rel (e := e) 12 z' z g3))
              simpa [c2] using this
            obtain ⟨vs, A, hvr⟩ := run_newX (P := P) (ty := ty) R h0 h1 hu hd hs c1 hi g2 g3 c3 (by omega) hzsz hx hnew
            have hvl := vrels_len hvr
            -- a new array
            have grow : ∀ (base : Option Addr) (sl C0 : Nat) (old : List V) (old' : List Value), s' = .slice base sl C0 → ¬ sl + n ≤ C0 → sl + n ≤ 16777216 → vrels e old old' → old.length = sl * size →
                (∀ w2, w2 = w ∨ w2 = w.drew → (Builtin.firstCells size sl (.slice base sl C0)).run P w2 = .ok ⟨old'⟩ w2) → ∀ (hh : H) (RR : Rel w0 e hh w), 
                ∃ e' w' z, (Builtin.append_ ats ty #[s', x']).run P w = .ok z w' ∧ e.le e' ∧ vrel e' (.slice (some (hh.nxt, 0)) (sl + n) (.upto 0 (sl + n))) z ∧ Rel w0 e' (hh.new (.cells (old ++ new) el (some size))) w' := by
              intro base sl C0 old old' e1 hn hne ho hol hfo hh RR
              subst e1
              obtain ⟨C, rest, k1, k2, k3⟩ := A.grow base sl C0 old' hn hne hfo
              have hle : e.le (e.bind hh.nxt (some w.heap.size) (some C)) := E.bind_le RR.rn RR.kn RR.ll
              refine ⟨_, _, _, k3, hle, ?_, RR.made (c := some C) (grown_drew_alloc w _) (Nat.le_refl _) (by rw [World.size_alloc]; exact Nat.lt_succ_self _) ?_⟩
              · simp only [vrel]
                exact ⟨w.heap.size, C, E.bind_ρ _ _ _ _, E.bind_κ _ _ _ _, ⟨by omega, Nat.le_refl _⟩, by simp⟩
              · rw [drew_alloc_new]
                refine ⟨old' ++ vs, rest, C, rfl, vrels_append (vrels_mono hle _ _ ho) (vrels_mono hle _ _ hvr), E.bind_κ _ _ _ _, ?_⟩
                have l1 := vrels_len ho
                rw [List.length_append, List.length_append, k2, hvl, l1, hol, c6, hzsz, Nat.sub_mul, Nat.add_mul]
                have : (sl + n) * size ≤ C * size := Nat.mul_le_mul_right _ k1
                rw [Nat.add_mul] at this
                omega
            split at q
            · -- a slice of a capacity
              rename_i base sl c
              cases hle0 : Nat.ble (sl + n) c with
              | true =>
                rw [hle0] at q
                simp only [cond_true] at q
                have hle := Nat.le_of_ble_eq_true hle0
                split at q
                · rename_i p
                  split at q
                  · rename_i hst0 hst
                    cases q
                    obtain ⟨b, o⟩ := p
                    simp only [vrel] at hs'
                    obtain ⟨k, hk, rfl⟩ := hs'
                    obtain ⟨w', r1, r2⟩ := run_storeN (P := P) (a := (b, o + sl * size)) R hk hvr hst
                    refine ⟨e, w', .slice (some ⟨k, o, none⟩) (sl + n) c, ?_, E.le.refl e, by simp only [vrel]; exact ⟨k, hk, rfl⟩, r2⟩
                    have := A.fit (some ⟨k, o, none⟩) _ _ hle
                    simp only [addr_add, r1, Result.andThen_ok] at this
                    exact this
                  · cases q
                · cases q
                  simp only [vrel] at hs'
                  subst hs'
                  exact ⟨e, w, _, A.fit (none) _ _ hle, E.le.refl e, by simp only [vrel], R⟩
              | false =>
                rw [hle0] at q
                simp only [cond_false] at q
                have hnle : ¬ sl + n ≤ c := fun hh => by rw [Nat.ble_eq_true_of_le hh] at hle0; cases hle0
                cases hne0 : Nat.ble (sl + n) 16777216 with
                | false => rw [hne0] at q; cases q
                | true =>
                  rw [hne0] at q
                  simp only [cond_true] at q
                  have hne := Nat.le_of_ble_eq_true hne0
                  split at q
                  · rename_i old hold
                    cases q
                    cases base with
                    | none =>
                      cases h00 : Nat.beq sl 0 with
                      | false => rw [h00] at hold; cases hold
                      | true =>
                        rw [h00] at hold
                        cases hold
                        have := Nat.eq_of_beq_eq_true h00
                        subst this
                        simp only [vrel] at hs'
                        exact grow none 0 c [] [] hs' hnle hne (vrels_nil.2 rfl) (by simp) (fun w2 _ => by simp [Builtin.firstCells]) h R
                    | some p =>
                      obtain ⟨b, o⟩ := p
                      simp only [vrel] at hs'
                      obtain ⟨k, hk, hs'⟩ := hs'
                      obtain ⟨vo, p1, p2⟩ := loadN_drew (P := P) (a := (b, o)) R hk hold
                      obtain ⟨_, _, _, _, p3, p4, _, p5⟩ := loadN_vs (a := (b, o)) R hk hold
                      exact grow _ sl c old vo hs' hnle hne p2 (by rw [← vrels_len p5, p4]) (fun w2 hw => p1 w2 hw) h R
                  · cases q
            · -- an array that may be longer
              rename_i b o sl qq mm
              have hs0 := hs'
              simp only [vrel] at hs'
              obtain ⟨k, C, hk, hC, ⟨hcm, hsm⟩, hs'⟩ := hs'
              cases hn0 : Nat.beq n 0 with
              | true =>
                rw [hn0] at q
                cases q
                have := Nat.eq_of_beq_eq_true hn0
                subst this
                subst hs'
                have hv0 : vs = [] := List.eq_nil_of_length_eq_zero (by rw [hvl, c6]; omega)
                subst hv0
                have := A.fit (some ⟨k, o, none⟩) _ _ (show sl + 0 ≤ C - qq by omega)
                simp [storeCells] at this
                exact ⟨e, w, _, this, E.le.refl e, hs0, R⟩
              | false =>
                rw [hn0] at q
                simp only [cond_false] at q
                cases hfm : Nat.ble (sl + n) mm with
                | true =>
                  rw [hfm] at q
                  simp only [cond_true] at q
                  have hfm := Nat.le_of_ble_eq_true hfm
                  split at q
                  · rename_i hst0 hst
                    cases q
                    subst hs'
                    obtain ⟨w', r1, r2⟩ := run_storeN (P := P) (a := (b, o + sl * size)) R hk hvr hst
                    refine ⟨e, w', .slice (some ⟨k, o, none⟩) (sl + n) (C - qq), ?_, E.le.refl e, by simp only [vrel]; exact ⟨k, C, hk, hC, ⟨hcm, hfm⟩, rfl⟩, r2⟩
                    have := A.fit (some ⟨k, o, none⟩) _ _ (show sl + n ≤ C - qq by omega)
                    simp only [addr_add, r1, Result.andThen_ok] at this
                    exact this
                  · cases q
                | false =>
                rw [hfm] at q
                simp only [cond_false] at q
                cases hoq : (Nat.beq o 0 && Nat.beq qq 0) with
                | false => rw [hoq] at q; cases q
                | true =>
                rw [hoq] at q
                simp only [cond_true] at q
                simp only [Bool.and_eq_true] at hoq
                have hoo := Nat.eq_of_beq_eq_true hoq.1
                have hqq := Nat.eq_of_beq_eq_true hoq.2
                subst hoo hqq
                simp only [Nat.zero_add, Nat.sub_zero] at hcm hs'
                split at q
                · rename_i l t s2 hb
                  obtain ⟨hfz, hb⟩ := H.getW_some hb
                  cases hc2 : (Nat.beq s2 size && Nat.beq t el && Nat.ble (sl * size) l.length && Nat.ble (sl + n) 16777216) with
                  | false => rw [hc2] at q; cases q
                  | true =>
                    rw [hc2] at q
                    cases q
                    simp only [Bool.and_eq_true] at hc2
                    obtain ⟨⟨⟨d1, d2⟩, d3⟩, d4⟩ := hc2
                    have d1 := Nat.eq_of_beq_eq_true d1
                    have d2 := Nat.eq_of_beq_eq_true d2
                    subst d1 d2
                    have d3 := Nat.le_of_ble_eq_true d3
                    have d4 := Nat.le_of_ble_eq_true d4
                    obtain ⟨cs, rest, t1, t2, _, t4⟩ := R.cells hb hk
                    obtain ⟨C', t5, t6⟩ := t4 s2 rfl
                    rw [hC] at t5
                    cases t5
                    have lcs := vrels_len t2
                    by_cases hfit : sl + n ≤ C
                    · -- in place
                      subst hs'
                      have hst := run_storeCells_at P k (sl * s2) t vs 0 ⟨cs ++ rest⟩ w t1 (by
                        show sl * s2 + 0 + vs.length ≤ (cs ++ rest).length
                        rw [t6, hvl, c6]
                        have : (sl + n) * s2 ≤ C * s2 := Nat.mul_le_mul_right _ hfit
                        rw [Nat.add_mul] at this
                        omega) (one_cells c5 hvr)
                      simp only [Nat.add_zero] at hst
                      have happ := A.fit (some ⟨k, 0, none⟩) _ _ hfit
                      simp only [addr_add, Nat.zero_add, hst, Result.andThen_ok] at happ
                      have RR := R.del b
                      have hle : e.le (e.bind h.nxt (some k) (some C)) := E.bind_le R.rn R.kn R.ll
                      refine ⟨e.bind h.nxt (some k) (some C), _, _, happ, hle, ?_, ?_⟩
                      · simp only [vrel]
                        exact ⟨k, C, E.bind_ρ _ _ _ _, E.bind_κ _ _ _ _, ⟨by omega, Nat.le_refl _⟩, by simp⟩
                      · rw [← E.up_bind (some k) (some C) R.lim] at hle ⊢
                        refine (RR.add (.cells (l.take (sl * s2) ++ new) t (some s2))).bind (row := some k) (by rw [H.get_new]; exact if_pos rfl) R.rn R.kn (Nat.lt_succ_self _) (grown_setRow _ _ _) (fun j e1 => by cases e1; rfl) ?_ (R.put_at none hk) (by simpa [World.setRow] using (R.new _ _ hk).2) ?_
                        · intro b' o' hb' hk'
                          have hlt := R.lt _ _ hk'
                          rw [H.get_new] at hb'
                          rw [if_neg (by show b' ≠ h.nxt; omega), H.get_set] at hb'
                          by_cases hne : b' = b
                          · rw [if_pos hne] at hb'; cases hb'
                          · rw [if_neg hne] at hb'
                            exact hne (R.inj b' b k o' _ hk' hk hb' hb)
                        · rw [setRow_heap w k _ _ t (0, 0) t1]
                          refine ⟨cs.take (sl * s2) ++ vs, (cs ++ rest).drop (sl * s2 + vs.length), C, ?_, vrels_append (vrels_mono hle _ _ (vrels_take _ t2)) (vrels_mono hle _ _ hvr), E.bind_κ _ _ _ _, ?_⟩
                          · rw [List.take_append_of_le_length (by omega)]
                          · have hC2 : (sl + n) * s2 ≤ C * s2 := Nat.mul_le_mul_right _ hfit
                            rw [Nat.add_mul] at hC2
                            rw [List.length_append, List.length_append, List.length_drop, t6, List.length_take, hvl, c6]
                            omega
                    · -- a new array
                      obtain ⟨e', w', zz, r1, r2, r3, r4⟩ := grow (some ⟨k, 0, none⟩) sl C (l.take (sl * s2)) (cs.take (sl * s2)) hs' hfit d4 (vrels_take _ t2) (by simp; omega) (fun w2 hw => by
                        have h1' : w2.heap[k]? = some (.cells ⟨cs ++ rest⟩ t (0, 0)) := (heap_drew hw k).trans t1
                        have := run_loadCells_list (P := P) (w := w2) ⟨k, 0, none⟩ (cs.take (sl * s2)) (fun j v hj => by
                          rw [addr_add]
                          rw [List.getElem?_take] at hj
                          split at hj
                          · simp only [World.cell?, h1', Nat.zero_add]
                            have hjl := (List.getElem?_eq_some_iff.1 hj).1
                            simpa [List.getElem?_append_left hjl] using hj
                          · cases hj)
                        rw [List.length_take, Nat.min_eq_left (by omega)] at this
                        exact this) (h.set b none) (R.del b)
                      exact ⟨e', w', zz, r1, r2, r3, r4⟩
                · cases q
            · -- nothing, somewhere
              rename_i sl q1 q2
              cases hn0 : Nat.beq n 0 with
              | false => rw [hn0] at q; cases q
              | true =>
                rw [hn0] at q
                cases q
                have := Nat.eq_of_beq_eq_true hn0
                subst this
                have hv0 : vs = [] := List.eq_nil_of_length_eq_zero (by rw [hvl, c6]; omega)
                subst hv0
                have hs0 := hs'
                simp only [vrel] at hs'
                obtain ⟨rfl, pa, C, rfl⟩ := hs'
                have := A.fit (some pa) _ _ (show 0 + 0 ≤ C by omega)
                simp [storeCells] at this
                exact ⟨e, w, _, this, E.le.refl e, hs0, R⟩
            · -- nothing, at the end of an array
              rename_i p sl tq
              cases hn0 : Nat.beq n 0 with
              | false => rw [hn0] at q; cases q
              | true =>
                rw [hn0] at q
                cases q
                have := Nat.eq_of_beq_eq_true hn0
                subst this
                have hv0 : vs = [] := List.eq_nil_of_length_eq_zero (by rw [hvl, c6]; omega)
                subst hv0
                have hs0 := hs'
                obtain ⟨b, o⟩ := p
                simp only [vrel] at hs'
                obtain ⟨rfl, k, C, pa, _, _, _, _, rfl⟩ := hs'
                have := A.fit (some pa) _ _ (show 0 + 0 ≤ C - tq by omega)
                simp [storeCells] at this
                exact ⟨e, w, _, this, E.le.refl e, hs0, R⟩
            · cases q
        · cases q
      · cases q
    · cases q
  · cases q
end
end Go.Proofs.Ytdammjolkcjogaa.Ev

/-! The evaluator: one operation, calls among them. -/
namespace Go.Proofs.Ytdammjolkcjogaa.Ev
open Go Go.RowKit
set_option linter.unusedVariables false
set_option linter.unusedSimpArgs false

inductive Task where
  | fn (f : FuncId) (args : List V)
  | call (f : FuncId) (args : List V)
  | round (l : Nat) (args : List V)
abbrev CallT := Task → H → Option (V × H)
/-- What a call's ending is. -/
def CallPost (w0 : World) (e : E) (v : V) (h' : H) (en : Ending) (w' : World) : Prop := ∃ e' x, en = .returned x ∧ e.le e' ∧ vrel e' v x ∧ Rel w0 e' h' w'
/-- What calls are asked. -/
structure CallOk (P : Program) (call : CallT) : Prop where
  fn : ∀ {w0 e h w g args v h'}, call (.fn g args) h = some (v, h') → Rel w0 e h w → ∀ xs, vrels e args xs → (∃ fn, P.funcs[g]? = some fn ∧ fn.body.isNone = false ∧ (fn.name == "runtime.NumGoroutine") = false) ∧ ∀ n, CallsIn Fence.wide n P g ⟨xs⟩ w (CallPost w0 e v h')
  run : ∀ {w0 e h w g args v h'}, call (.call g args) h = some (v, h') → Rel w0 e h w → ∀ xs, vrels e args xs → ((∃ fn, P.funcs[g]? = some fn ∧ fn.body.isNone = false ∧ (fn.name == "runtime.NumGoroutine") = false) ∧ ∀ n, CallsIn Fence.wide n P g ⟨xs⟩ w (CallPost w0 e v h')) ∨
    ∃ e' x w', (callFunc g ⟨xs⟩).run P w = .ok (.value x) w' ∧ e.le e' ∧ vrel e' v x ∧ Rel w0 e' h' w'
  round : ∀ {w0 e h w l args v h' k}, call (.round l args) h = some (v, h') → Rel w0 e h w → e.ρ l = some k → ∀ xs, vrels e args xs →
    ∃ fn tmps assign body, (Instr.yield k ⟨xs⟩).run P w = .ok (.round k fn tmps assign body) w ∧ ∀ n, RoundIn Fence.wide n P k fn tmps assign body w (CallPost w0 e v h')
def callV (call : CallT) (h : H) (f : V) (args : List V) : Option (V × H) :=
  match f with
  | .func (.func g) first cap => call (.call g (first ++ args ++ cap)) h
  | .yield l => call (.round l args) h
  | _ => none
def V.ok : V → Bool
  | .junk => false
  | _ => true
def clearV (P : Program) (h : H) (t : TypeId) (x : V) : Option H :=
  match P.underlying t, x with
  | some (.slice _), .slice none _ (.exact _) => some h
  | some (.slice el), .slice (some p) n _ => cond (Nat.beq n 0) (some h) (match zer P el with
    | some z => storeN h p (List.replicate n z.cells).flatten
    | none => none)
  | _, _ => none
/-- The method of that name of a type, that asks nothing of its receiver. -/
def methV (P : Program) (t : TypeId) (name : String) : Option FuncId :=
  match P.info? t with
  | some i => (match i.methods.find? (fun m => m.name == name) with
    | some m => (match m.path.toList, m.func, P.underlying t with
      | [], some (f, true), some (.pointer _) => some f
      | [], some (f, false), some (.pointer _) => none
      | [], some (f, false), some _ => some f
      | _, _, _ => none)
    | none => none)
  | none => none
def effOp (P : Program) (call : CallT) (h : H) (tm : Tr V) (op : Op) : Option (V × H) :=
  match op with
  | .store t a x => (match evO tm a, evO tm x with
    | some (.ptr (some p)), some v => (match sz P t with
      | some n => cond (v.ok && Nat.beq v.cells.length n) (match storeN h p v.cells with
        | some h' => some (.tuple [], h')
        | none => none) none
      | none => none)
    | _, _ => none)
  | .mapUpdate t m k x => (match evO tm m, evO tm k, evO tm x with
    | some m, some k, some x => (match mapPut P h t m k x with
      | some h' => some (.tuple [], h')
      | none => none)
    | _, _, _ => none)
  | .insert t m k x => (match evO tm m, evO tm k, evO tm x with
    | some m, some k, some x => (match mapPut P h t m k x with
      | some h' => some (.tuple [], h')
      | none => none)
    | _, _, _ => none)
  | .mapEntry t m k => (match evO tm m, evO tm k with
    | some m, some k => mapEnt P h t m k
    | _, _ => none)
  | .entryStore _ m s x => (match evO tm m, evO tm s, evO tm x with
    | some m, some s, some x => (match entPut h m s x with
      | some h' => some (.tuple [], h')
      | none => none)
    | _, _, _ => none)
  | .next it isS => (match isS, evO tm it with
    | false, some v => nextV h v
    | _, _ => none)
  | .call c => (match c.callee, evL tm c.args.toList with
    | .builtin .append, some [s, x] => appV P h c.argTypes s x
    | .builtin .delete, some [m, k] => (match c.argTypes[0]? with
      | some t => (match mapDel P h t m k with
        | some h' => some (.tuple [], h')
        | none => none)
      | none => none)
    | .builtin .clear, some [x] => (match c.argTypes[0]? with
      | some t => (match clearV P h t x with
        | some h' => some (.tuple [], h')
        | none => none)
      | none => none)
    | .value f, some args => (match evO tm f with
      | some fv => callV call h fv args
      | none => none)
    | .invoke r name, some args => (match evO tm r with
      | some (.iface t v) => (match methV P t name with
        | some f => call (.call f (v :: args)) h
        | none => none)
      | _ => none)
    | _, _ => none)
  | _ => none
inductive Cls where
  | pure
  | alloc
  | eff
def cls : Op → Cls
  | .alloc _ => .alloc
  | .box .. => .alloc
  | .buildSlice .. => .alloc
  | .makeMap .. => .alloc
  | .makeSlice .. => .alloc
  | .range .. => .alloc
  | .store .. => .eff
  | .mapUpdate .. => .eff
  | .insert .. => .eff
  | .mapEntry .. => .eff
  | .entryStore .. => .eff
  | .next .. => .eff
  | .call c => (match c.callee with
    | .builtin .len => .pure
    | .builtin .cap => .pure
    | .builtin .min => .pure
    | .builtin .max => .pure
    | _ => .eff)
  | _ => .pure
def evOp (P : Program) (call : CallT) (h : H) (tm : Tr V) (op : Op) : Option (V × H) :=
  match cls op with
  | .pure => (match pureOp P h tm op with
    | some v => some (v, h)
    | none => none)
  | .alloc => (match allocOp P h tm op with
    | some (ob, mk) => some (mk h.nxt, h.new ob)
    | none => none)
  | .eff => effOp P call h tm op
def evDef : Op → Bool
  | .defer _ => false
  | _ => true
section
variable {P : Program} {w0 w : World} {e : E} {h : H} {tm : Tr V} {a : Act}
theorem args_rel {l : List Operand} {vs : List V} (hop : ∀ x ∈ l, ∀ v, evO tm x = some v → vrel e v (a.eval x)) (q : evL tm l = some vs) : vrels e vs (l.map a.eval) := evL_rel hop q
theorem run_clearV (R : Rel w0 e h w) {t ty : TypeId} {ats : Array TypeId} {x : V} {x' : Value} {h' : H} (ha : ats[0]? = some t) (hx : vrel e x x') (q : clearV P h t x = some h') : ∃ w', (Builtin.clear_ ats ty #[x']).run P w = .ok (.tuple #[]) w' ∧ Rel w0 e h' w' := by
  unfold clearV at q
  split at q
  · rename_i hu
    cases q
    obtain ⟨a', c', rfl, ha'⟩ := slice_inv hx
    cases a' with
    | some a => simp [isNilS] at ha'
    | none => exact ⟨w, by simp [Builtin.clear_, ha, run_underlying hu], R⟩
  · rename_i el p n c hu
    have htl : ∀ tq, c = .tail tq → n = 0 ∧ ∃ a c', x' = .slice (some a) 0 c' := fun tq ht => by
      subst ht
      obtain ⟨b, o⟩ := p
      simp only [vrel] at hx
      obtain ⟨h0, k, c, a, _, _, _, _, h2⟩ := hx
      exact ⟨h0, a, _, h2⟩
    by_cases hisT : ∃ tq, c = .tail tq
    · obtain ⟨tq, ht⟩ := hisT
      obtain ⟨rfl, a, c', rfl⟩ := htl tq ht
      cases q
      exact ⟨w, by simp [Builtin.clear_, ha, run_underlying hu], R⟩
    have hx' : ∃ k c', e.ρ p.1 = some k ∧ x' = .slice (some ⟨k, p.2, none⟩) n c' := by
      obtain ⟨b, o⟩ := p
      cases c with
      | tail tq => exact absurd ⟨tq, rfl⟩ hisT
      | exact c => simp only [vrel] at hx; obtain ⟨k, h1, h2⟩ := hx; exact ⟨k, _, h1, h2⟩
      | upto c m => simp only [vrel] at hx; obtain ⟨k, c, h1, _, _, h2⟩ := hx; exact ⟨k, _, h1, h2⟩
    obtain ⟨k, c', hk, rfl⟩ := hx'
    cases hn : Nat.beq n 0 with
    | true =>
      rw [hn] at q
      cases q
      have := Nat.eq_of_beq_eq_true hn
      subst this
      exact ⟨w, by simp [Builtin.clear_, ha, run_underlying hu], R⟩
    | false =>
      rw [hn] at q
      simp only [cond_false] at q
      obtain ⟨n', rfl⟩ : ∃ n', n = n' + 1 := ⟨n - 1, by cases n with | zero => simp at hn | succ n => rfl⟩
      split at q
      · rename_i z hz
        obtain ⟨z', r1, r2, r3⟩ := run_zer (w := w) hz
        have rz := vrel_cells (toV_junk 12 z' z r2) (r3 e)
        have hzc := zero_cells (n' + 1) z'.cells
        obtain ⟨w', t1, t2⟩ := run_storeN (P := P) (a := p) R hk (vrels_flat (n := n' + 1) rz) q
        refine ⟨w', ?_, t2⟩
        have hzz : (Builtin.zeroCells z'.cells (n' + 1)).toList = (List.replicate (n' + 1) z'.cells.toList).flatten := hzc
        simp [Builtin.clear_, ha, run_underlying hu, r1, hzz, t1]
      · cases q
  · cases q
theorem run_methV {t : TypeId} {name : String} {f : FuncId} (q : methV P t name = some f) (x : Value) : (method (P.types.size + Made.depth) t x name).run P w = .ok (f, x) w := by
  obtain ⟨n, hn⟩ : ∃ n, P.types.size + Made.depth = n + 1 := ⟨P.types.size + (Made.depth - 1), by have : 0 < Made.depth := by decide
                                                                                                  omega⟩
  rw [hn]
  unfold methV at q
  split at q
  · rename_i i hi
    split at q
    · rename_i m hm
      split at q
      · rename_i f' el hp hf hu
        cases q
        simp [method, typeInfo, run_program, hi, hm, hp, hf, follow, receiverAt, run_underlying hu, Place.get]
      · cases q
      · rename_i f' d hnp hp hf hu
        cases q
        cases d <;> first
          | (exact absurd rfl (hnp _))
          | (simp [method, typeInfo, run_program, hi, hm, hp, hf, follow, receiverAt, run_underlying hu, Place.get])
      · cases q
    · cases q
  · cases q
/-- The fences that the evaluator goes under. -/
def Open (F : Fence) : Prop := F = Fence.wide ∨ ∃ l, F = Fence.wide.inRound l
theorem Open.fn {F : Fence} (hF : Open F) (f : FuncId) : F.fn f := by rcases hF with rfl | ⟨l, rfl⟩ <;> trivial
theorem Open.depth {F : Fence} (hF : Open F) : F.depth = none := by rcases hF with rfl | ⟨l, rfl⟩ <;> rfl
theorem Open.calls {F : Fence} (hF : Open F) {n : Nat} {f : FuncId} {args : Array Value} {R : Ending → World → Prop} (h : CallsIn Fence.wide n P f args w R) : CallsIn F n P f args w R := by
  rcases hF with rfl | ⟨l, rfl⟩
  · exact h
  · exact h
theorem Open.rounds {F : Fence} (hF : Open F) {n l : Nat} {f : FuncId} {tmps : Array Value} {as body : Code} {R : Ending → World → Prop} (h : RoundIn Fence.wide n P l f tmps as body w R) : RoundIn F n P l f tmps as body w R := by
  rcases hF with rfl | ⟨l, rfl⟩
  · exact h
  · exact h
/-- One operation that is wanted. -/
theorem wp_evOp {F : Fence} (hF : Open F) {n : Nat} {call : CallT} (hc : CallOk P call) (R : Rel w0 e h w) {o : Oper} {v : V} {h' : H} {K : Act → World → Prop} {Q : Exit → Act → World → Prop} (hop : ∀ x ∈ o.op.operands.toList, ∀ v, evO tm x = some v → vrel e v (a.eval x))
    (q : evOp P call h tm o.op = some (v, h')) (hK : ∀ e' x w', e.le e' → vrel e' v x → Rel w0 e' h' w' → K (a.put o.dst x) w') : o.wpIn F n P a w K Q := by
  have hdef : ∀ c, o.op ≠ .defer c := by
    intro c hd
    rw [hd] at q
    simp [evOp, cls, pureOp] at q
  have plain : ∀ (x : Value) (w' : World) (e' : E), (execOp a.eval o).run P w = .ok (.value x) w' → e.le e' → vrel e' v x → Rel w0 e' h' w' → o.uponIn F n P a K Q ((o.semAt F.round a.eval).run P w) := by
    intro x w' e' h1 h2 h3 h4
    rw [Oper.semAt_eq _ _ _ hdef, h1]
    exact hK e' x w' h2 h3 h4
  have skip : ∀ (w' : World) (e' : E), (execOp a.eval o).run P w = .ok .skip w' → v = .tuple [] → e.le e' → Rel w0 e' h' w' → o.uponIn F n P a K Q ((o.semAt F.round a.eval).run P w) := by
    intro w' e' h1 hv h2 h4
    rw [Oper.semAt_eq _ _ _ hdef, h1]
    exact hK e' undef w' h2 (by rw [hv]; simp only [vrel]; exact ⟨[], rfl, vrels_nil.2 rfl⟩) h4
  refine ⟨fun f _ => hF.fn f, ?_⟩
  unfold evOp at q
  split at q
  · split at q
    · rename_i v' hv
      cases q
      obtain ⟨x, h1, h2⟩ := run_pureOp (P := P) R hop hv
      exact plain x w e h1 (E.le.refl e) h2 R
    · cases q
  · split at q
    · rename_i ob mk hv
      cases q
      obtain ⟨co, x, h1, h2, h3⟩ := run_allocOp (P := P) R hop hv
      have hle : e.le (e.bind h.nxt (some w.heap.size) none) := E.bind_le R.rn R.kn R.ll
      refine plain x (w.alloc co) _ h1 hle (h2 _ _ hle.sub (E.bind_ρ _ _ _ _)) (R.made (World.grownBy_alloc w co none) (Nat.le_refl _) (by rw [World.size_alloc]; exact Nat.lt_succ_self _) ?_)
      rw [World.alloc_heap_new]
      exact h3 _ _ hle.sub
    · cases q
  · rename_i hcls
    clear hcls
    obtain ⟨dst, op, ty, pos, aft, gd⟩ := o
    cases op
    all_goals try (simp only [effOp] at q; cases q; done)
    all_goals simp only [effOp] at q
    case store t x y =>
      split at q
      · rename_i p u hx hy
        obtain ⟨b, off⟩ := p
        have hp := hop x (by simp [Op.operands]) _ hx
        have hu := hop y (by simp [Op.operands]) _ hy
        simp only [vrel] at hp
        obtain ⟨k, hk, hp⟩ := hp
        split at q
        · rename_i sn hs
          cases hl : (u.ok && Nat.beq u.cells.length sn) with
          | false => rw [hl] at q; cases q
          | true =>
            rw [hl] at q
            simp only [cond_true] at q
            obtain ⟨hj, hl⟩ := (Bool.and_eq_true _ _).mp hl
            have hl := Nat.eq_of_beq_eq_true hl
            split at q
            · rename_i h2 hst
              cases q
              have hcl := vrel_cells (fun e1 => by rw [e1] at hj; cases hj) hu
              obtain ⟨w', r1, r2⟩ := run_storeN (P := P) (a := (b, off)) R hk hcl hst
              refine skip w' e ?_ rfl (E.le.refl e) r2
              have hsz : (a.eval y).cells.size = sn := by
                have := vrels_len hcl
                simpa [hl] using this
              simp [execOp, Instr.storeAt, Instr.sureAddr, hp, storeVar, run_sz hs, hsz, r1]
            · cases q
        · cases q
      · cases q
    case mapUpdate t m k x =>
      split at q
      · rename_i u1 u2 u3 h1 h2 h3
        split at q
        · rename_i h4 hp
          cases q
          obtain ⟨e', w', r1, r2, r3⟩ := run_mapPut R (hop m (by simp [Op.operands]) _ h1) (hop k (by simp [Op.operands]) _ h2) (hop x (by simp [Op.operands]) _ h3) hp
          exact skip w' e' (by simp [execOp, r1]) rfl r2 r3
        · cases q
      · cases q
    case insert t m k x =>
      split at q
      · rename_i u1 u2 u3 h1 h2 h3
        split at q
        · rename_i h4 hp
          cases q
          obtain ⟨e', w', r1, r2, r3⟩ := run_mapPut R (hop m (by simp [Op.operands]) _ h1) (hop k (by simp [Op.operands]) _ h2) (hop x (by simp [Op.operands]) _ h3) hp
          exact skip w' e' (by simp [execOp, r1]) rfl r2 r3
        · cases q
      · cases q
    case mapEntry t m k =>
      split at q
      · rename_i u1 u2 h1 h2
        obtain ⟨e', w', z, r1, r2, r3, r4⟩ := run_mapEnt R (hop m (by simp [Op.operands]) _ h1) (hop k (by simp [Op.operands]) _ h2) q
        exact plain z w' e' (by simp [execOp, r1]) r2 r3 r4
      · cases q
    case entryStore t m s x =>
      split at q
      · rename_i u1 u2 u3 h1 h2 h3
        split at q
        · rename_i h4 hp
          cases q
          obtain ⟨w', r1, r3⟩ := run_entPut (P := P) (t := t) R (hop m (by simp [Op.operands]) _ h1) (hop s (by simp [Op.operands]) _ h2) (hop x (by simp [Op.operands]) _ h3) hp
          exact skip w' e (by simp [execOp, r1]) rfl (E.le.refl e) r3
        · cases q
      · cases q
    case next it isS =>
      split at q
      · rename_i u1 h1
        obtain ⟨w', z, r1, r2, r3⟩ := run_nextV (P := P) R ty (hop it (by simp [Op.operands]) _ h1) q
        exact plain z w' e (by simp [execOp, r1]) (E.le.refl e) r2 r3
      · cases q
    case call c =>
      split at q
      · rename_i s x hcl hl
        have r1 := evL_rel (e := e) (a := a) (l := c.args.toList) (fun y hy => hop y (by simp [Op.operands, Call.operands, hcl]; simpa using hy)) hl
        obtain ⟨s', r, h1, h2, h3⟩ := vrels_cons.1 r1
        obtain ⟨x', r', rfl, h4, h5⟩ := vrels_cons.1 h3
        obtain rfl := vrels_nil.1 h5
        have hargs : c.args.map a.eval = #[s', x'] := by
          apply Array.ext'
          simpa using h1
        obtain ⟨e', w', z, p1, p2, p3, p4⟩ := run_appV (ty := ty) R h2 h4 q
        exact plain z w' e' (by simp [execOp, resolve, hcl, invoke, builtin, hargs, p1]) p2 p3 p4
      · rename_i m k hcl hl
        have r1 := evL_rel (e := e) (a := a) (l := c.args.toList) (fun y hy => hop y (by simp [Op.operands, Call.operands, hcl]; simpa using hy)) hl
        obtain ⟨m', r, h1, h2, h3⟩ := vrels_cons.1 r1
        obtain ⟨k', r', rfl, h4, h5⟩ := vrels_cons.1 h3
        obtain rfl := vrels_nil.1 h5
        have hargs : c.args.map a.eval = #[m', k'] := by
          apply Array.ext'
          simpa using h1
        split at q
        · rename_i t ht
          split at q
          · rename_i h6 hp
            cases q
            obtain ⟨w', p1, p2⟩ := run_mapDel (ty := ty) R ht h2 h4 hp
            refine plain (.tuple #[]) w' e (by simp [execOp, resolve, hcl, invoke, builtin, hargs, p1]) (E.le.refl e) (by simp only [vrel]; exact ⟨[], rfl, vrels_nil.2 rfl⟩) p2
          · cases q
        · cases q
      · rename_i x hcl hl
        have r1 := evL_rel (e := e) (a := a) (l := c.args.toList) (fun y hy => hop y (by simp [Op.operands, Call.operands, hcl]; simpa using hy)) hl
        obtain ⟨x', r, h1, h2, h3⟩ := vrels_cons.1 r1
        obtain rfl := vrels_nil.1 h3
        have hargs : c.args.map a.eval = #[x'] := by
          apply Array.ext'
          simpa using h1
        split at q
        · rename_i t ht
          split at q
          · rename_i h6 hp
            cases q
            obtain ⟨w', p1, p2⟩ := run_clearV (ty := ty) R ht h2 hp
            refine plain (.tuple #[]) w' e (by simp [execOp, resolve, hcl, invoke, builtin, hargs, p1]) (E.le.refl e) (by simp only [vrel]; exact ⟨[], rfl, vrels_nil.2 rfl⟩) p2
          · cases q
        · cases q
      · rename_i f args hcl hl
        have hopf := hop f (by simp [Op.operands, Call.operands, hcl])
        have r1 := evL_rel (e := e) (a := a) (l := c.args.toList) (fun y hy => hop y (by simp [Op.operands, Call.operands, hcl]; exact .inr (by simpa using hy))) hl
        split at q
        · rename_i fv hf
          have hfv := hopf _ hf
          unfold callV at q
          split at q
          · rename_i g first cap
            simp only [vrel] at hfv
            obtain ⟨fs, cs, hfe, hfs, hcs⟩ := hfv
            have hex : (execOp a.eval ({ dst := dst, op := .call c, type := ty, pos := pos, after := aft, guard := gd } : Oper)).run P w = (callFunc g ⟨fs ++ c.args.toList.map a.eval ++ cs⟩).run P w := by
              simp [execOp, resolve, hcl, hfe, Deferred.ofValue, invoke]
              congr 2
              apply Array.ext'
              simp
            rcases hc.run q R (fs ++ c.args.toList.map a.eval ++ cs) (vrels_append (vrels_append hfs r1) hcs) with ⟨⟨fn, g1, g2, g3⟩, g4⟩ | ⟨e', x, w', g1, g0, g2, g3⟩
            · have hrun : (execOp a.eval ({ dst := dst, op := .call c, type := ty, pos := pos, after := aft, guard := gd } : Oper)).run P w = .ok (.enter g ⟨fs ++ c.args.toList.map a.eval ++ cs⟩) w := by
                have g3' : ¬ fn.name = "runtime.NumGoroutine" := by simpa using g3
                have g2' : ¬ fn.body = none := fun hh => by rw [hh] at g2; cases g2
                rw [hex]
                simp [callFunc, g1, g2', g3']
              rw [Oper.semAt_eq _ _ _ hdef, hrun, Oper.uponIn_enter]
              refine ⟨fun hd => ?_, hF.calls ((g4 (n - 1)).mono ?_)⟩
              · rw [hF.depth] at hd; cases hd
              · rintro en w' ⟨e', x, rfl, p2, p3, p4⟩
                exact hK e' x w' p2 p3 p4
            · exact plain x w' e' (hex.trans g1) g0 g2 g3
          · rename_i l
            simp only [vrel] at hfv
            obtain ⟨k, hk, hfe⟩ := hfv
            obtain ⟨fn, tmps, as, body, g1, g2⟩ := hc.round q R hk _ r1
            have hrun : (execOp a.eval ({ dst := dst, op := .call c, type := ty, pos := pos, after := aft, guard := gd } : Oper)).run P w = .ok (.round k fn tmps as body) w := by
              have hargs : c.args.map a.eval = ⟨c.args.toList.map a.eval⟩ := by
                apply Array.ext'
                simp
              rw [← hargs] at g1
              simp [execOp, resolve, hcl, hfe, Deferred.ofValue, invoke, g1]
            rw [Oper.semAt_eq _ _ _ hdef, hrun, Oper.uponIn_round]
            refine ⟨fun hd => ?_, hF.rounds ((g2 (n - 1)).mono ?_)⟩
            · rw [hF.depth] at hd; cases hd
            · rintro en w' ⟨e', x, rfl, p2, p3, p4⟩
              exact hK e' x w' p2 p3 p4
          · cases q
        · cases q
      · rename_i r name args hcl hl
        have hopr := hop r (by simp [Op.operands, Call.operands, hcl])
        have r1 := evL_rel (e := e) (a := a) (l := c.args.toList) (fun y hy => hop y (by simp [Op.operands, Call.operands, hcl]; exact .inr (by simpa using hy))) hl
        split at q
        · rename_i t u hr
          have h0 := hopr _ hr
          simp only [vrel] at h0
          obtain ⟨x, hx, hux⟩ := h0
          split at q
          · rename_i g hm
            have hex : (execOp a.eval ({ dst := dst, op := .call c, type := ty, pos := pos, after := aft, guard := gd } : Oper)).run P w = (callFunc g ⟨x :: c.args.toList.map a.eval⟩).run P w := by
              have he2 : (#[x] ++ c.args.map a.eval : Array Value) = ⟨x :: c.args.toList.map a.eval⟩ := by
                apply Array.ext'
                simp
              have hz : (#[Value.iface t x] ++ c.args.map a.eval)[0]? = some (.iface t x) := by
                rw [Array.getElem?_append_left (by simp)]
                rfl
              have hx0 : (c.args.map a.eval).extract 0 c.args.size = c.args.map a.eval := by
                apply Array.ext'
                simp only [Array.toList_extract, Array.toList_map, List.extract_eq_take_drop, List.drop_zero, Nat.sub_zero]
                exact List.take_of_length_le (by simp)
              simp [execOp, resolve, hcl, hx, invoke, callMethod]
              rw [hz]
              simp [run_methV hm, run_program, hx0, he2]
            rcases hc.run q R (x :: c.args.toList.map a.eval) (vrels_cons.2 ⟨x, _, rfl, hux, r1⟩) with ⟨⟨fn, g1, g2, g3⟩, g4⟩ | ⟨e', y, w', g1, g0, g2, g3⟩
            · have hrun : (execOp a.eval ({ dst := dst, op := .call c, type := ty, pos := pos, after := aft, guard := gd } : Oper)).run P w = .ok (.enter g ⟨x :: c.args.toList.map a.eval⟩) w := by
                have g3' : ¬ fn.name = "runtime.NumGoroutine" := by simpa using g3
                have g2' : ¬ fn.body = none := fun hh => by rw [hh] at g2; cases g2
                rw [hex]
                simp [callFunc, g1, g2', g3']
              rw [Oper.semAt_eq _ _ _ hdef, hrun, Oper.uponIn_enter]
              refine ⟨fun hd => ?_, hF.calls ((g4 (n - 1)).mono ?_)⟩
              · rw [hF.depth] at hd; cases hd
              · rintro en w' ⟨e', y, rfl, p2, p3, p4⟩
                exact hK e' y w' p2 p3 p4
            · exact plain y w' e' (hex.trans g1) g0 g2 g3
          · cases q
        · cases q
      · cases q
end
end Go.Proofs.Ytdammjolkcjogaa.Ev

/-! The evaluator: which operation it is, told by the recursor, so that the kernel need not lay out all of them. -/
namespace Go.Proofs.Ytdammjolkcjogaa.Ev
open Go Go.RowKit
set_option linter.unusedVariables false
set_option linter.unusedSimpArgs false

def p_move (x : Operand) (P : Program) (h : H) (tm : Tr V) : Option V := evO tm x
def p_assign (x : Operand) (P : Program) (h : H) (tm : Tr V) : Option V := evO tm x
def p_pick (c a b : Operand) (P : Program) (h : H) (tm : Tr V) : Option V := (match evO tm c with
    | some (.bool true) => evO tm a
    | some (.bool false) => evO tm b
    | _ => none)
def p_build (t : TypeId) (parts : Array (Nat × Operand)) (P : Program) (h : H) (tm : Tr V) : Option V := (match evP tm parts.toList with
    | some ps => buildV P t ps
    | none => none)
def p_load (t : TypeId) (a : Operand) (P : Program) (h : H) (tm : Tr V) : Option V := (match evO tm a with
    | some (.ptr (some p)) => loadV P h t p
    | _ => none)
def p_nilCheck (x : Operand) (P : Program) (h : H) (tm : Tr V) : Option V := (match evO tm x with
    | some (.ptr (some p)) => some (.ptr (some p))
    | some (.func (.func f) a c) => some (.func (.func f) a c)
    | some (.yield l) => some (.yield l)
    | some (.iface t v) => some (.iface t v)
    | _ => none)
def p_binOp (op : BinOp) (t : TypeId) (x y : Operand) (_ : TypeId) (P : Program) (h : H) (tm : Tr V) : Option V := (match evO tm x, evO tm y with
    | some .nilIface, some .nilIface => cond (isK x || isK y) (match P.underlying t, op with
      | some (.interface _), .eql => some (.bool true)
      | some (.interface _), .neq => some (.bool false)
      | _, _ => none) none
    | some a, some b => (match binV P op t a b with
      | some v => some v
      | none => ptrNe P h op t a b)
    | _, _ => none)
def p_typeAssert (x : Operand) (_ at' : TypeId) (ok : Bool) (P : Program) (h : H) (tm : Tr V) : Option V := (match P.underlying at', evO tm x with
    | some (.interface _), _ => none
    | some _, some (.iface t v) => cond (Nat.beq t at') (some (cond ok (.tuple [v, .bool true]) v)) (cond ok (match zer P at' with
      | some z => some (.tuple [z, .bool false])
      | none => none) none)
    | some _, some .nilIface => cond ok (match zer P at' with
      | some z => some (.tuple [z, .bool false])
      | none => none) none
    | _, _ => none)
def p_unOp (op : UnOp) (_ : TypeId) (x : Operand) (P : Program) (h : H) (tm : Tr V) : Option V := (match evO tm x with
    | some a => unV op a
    | none => none)
def p_convert (s d : TypeId) (x : Operand) (P : Program) (h : H) (tm : Tr V) : Option V := (match evO tm x with
    | some a => convV P s d a
    | none => none)
def p_makeInterface (t : TypeId) (x : Operand) (P : Program) (h : H) (tm : Tr V) : Option V := (match P.underlying t, evO tm x with
    | some (.interface _), _ => none
    | some _, some a => some (.iface t a)
    | _, _ => none)
def p_makeFunc (fn : Fn) (f c : Array Operand) (P : Program) (h : H) (tm : Tr V) : Option V := (match evL tm f.toList, evL tm c.toList with
    | some f, some c => some (.func fn f c)
    | _, _ => none)
def p_slice (t : TypeId) (x : Operand) (lo hi mx : Option Operand) (P : Program) (h : H) (tm : Tr V) : Option V := (match evO tm x, evOO tm lo, evOO tm hi, evOO tm mx with
    | some x, some lo, some hi, some mx => sliceV P t x lo hi mx
    | _, _, _, _ => none)
def p_fieldAddr (s : TypeId) (x : Operand) (f : Nat) (P : Program) (h : H) (tm : Tr V) : Option V := (match evO tm x with
    | some a => fieldA P s a f
    | none => none)
def p_field (t : TypeId) (x : Operand) (f : Nat) (P : Program) (h : H) (tm : Tr V) : Option V := (match evO tm x with
    | some a => fieldV P t a f
    | none => none)
def p_indexAddr (t : TypeId) (x i : Operand) (P : Program) (h : H) (tm : Tr V) : Option V := (match evO tm x, evO tm i with
    | some a, some b => idxA P t a b
    | _, _ => none)
def p_index (t : TypeId) (x i : Operand) (P : Program) (h : H) (tm : Tr V) : Option V := (match evO tm x, evO tm i with
    | some a, some b => idxV P t a b
    | _, _ => none)
def p_lookup (t : TypeId) (x i : Operand) (ok : Bool) (P : Program) (h : H) (tm : Tr V) : Option V := (match evO tm x, evO tm i with
    | some a, some b => lookV P h t a b ok
    | _, _ => none)
def p_extract (t : Operand) (i : Nat) (P : Program) (h : H) (tm : Tr V) : Option V := (match evO tm t with
    | some (.tuple vs) => vs[i]?
    | _ => none)
def p_entry (it : Operand) (P : Program) (h : H) (tm : Tr V) : Option V := (match evO tm it with
    | some (.ptr (some (b, 0))) => (match h.get b with
      | some (.iter (some m) _ seen ls) => (match h.get m, seen.getLast? with
        | some (.map es ls'), some s => cond (sameLs ls ls') (match es.find? (fun e => Nat.beq e.2.2 s) with
          | some (k, v, _) => some (.tuple [k, v])
          | none => none) none
        | _, _ => none)
      | _ => none)
    | _ => none)
def p_call (c : Call) (P : Program) (h : H) (tm : Tr V) : Option V := (match c.callee, evL tm c.args.toList with
    | .builtin .len, some [x] => (match c.argTypes[0]? with
      | some t => lenV P h t x
      | none => none)
    | .builtin .cap, some [x] => (match c.argTypes[0]? with
      | some t => capV P t x
      | none => none)
    | .builtin .min, some (x :: l) => minL x l
    | .builtin .max, some (x :: l) => maxL x l
    | _, _ => none)
noncomputable def pureF (op : Op) : Program → H → Tr V → Option V :=
  Op.rec (motive := fun _ => Program → H → Tr V → Option V)
    p_move
    p_assign
    p_pick
    (fun _ _ _ _ => none)
    (fun _ _ _ _ _ => none)
    p_build
    (fun _ _ _ _ _ _ => none)
    (fun _ _ _ _ _ _ _ => none)
    p_load
    (fun _ _ _ _ _ _ => none)
    (fun _ _ _ _ => none)
    (fun _ _ _ _ => none)
    p_nilCheck
    p_binOp
    p_unOp
    p_convert
    (fun _ _ _ _ _ => none)
    p_makeInterface
    p_makeFunc
    (fun _ _ _ _ _ => none)
    (fun _ _ _ _ _ => none)
    (fun _ _ _ _ _ _ => none)
    p_slice
    p_fieldAddr
    p_field
    p_indexAddr
    p_index
    p_lookup
    (fun _ _ _ _ _ _ _ => none)
    (fun _ _ _ _ _ _ => none)
    (fun _ _ _ _ _ _ _ => none)
    (fun _ _ _ _ _ => none)
    (fun _ _ _ _ _ => none)
    p_entry
    p_typeAssert
    p_extract
    p_call
    (fun _ _ _ _ => none)
    (fun _ _ _ _ => none)
    (fun _ _ _ _ => none)
    (fun _ _ _ _ _ => none)
    (fun _ _ _ _ _ _ => none)
    (fun _ _ _ _ _ => none)
    op
def pureFC (op : Op) (P : Program) (h : H) (tm : Tr V) : Option V := pureOp P h tm op
@[csimp] theorem pureF_eq : @pureF = @pureFC := by
  funext op P h tm
  cases op <;> rfl
def wrapP (o : Option V) (h : H) : Option (V × H) := match o with
  | some v => some (v, h)
  | none => none
def wrapA (o : Option (O × (Nat → V))) (h : H) : Option (V × H) := match o with
  | some (ob, mk) => some (mk h.nxt, h.new ob)
  | none => none
def e_store (t : TypeId) (a x : Operand) (P : Program) (call : CallT) (h : H) (tm : Tr V) : Option (V × H) := match evO tm a, evO tm x with
    | some (.ptr (some p)), some v => (match sz P t with
      | some n => cond (v.ok && Nat.beq v.cells.length n) (match storeN h p v.cells with
        | some h' => some (.tuple [], h')
        | none => none) none
      | none => none)
    | _, _ => none
def e_val (f : Operand) (c : Call) (call : CallT) (h : H) (tm : Tr V) : Option (V × H) := match evL tm c.args.toList with
  | some args => (match evO tm f with
    | some fv => callV call h fv args
    | none => none)
  | none => none
def e_call (c : Call) (P : Program) (call : CallT) (h : H) (tm : Tr V) : Option (V × H) := match c.callee with
  | .value f => e_val f c call h tm
  | .builtin .len => wrapP (p_call c P h tm) h
  | .builtin .cap => wrapP (p_call c P h tm) h
  | .builtin .min => wrapP (p_call c P h tm) h
  | .builtin .max => wrapP (p_call c P h tm) h
  | _ => effOp P call h tm (.call c)
noncomputable def evF (op : Op) : Program → CallT → H → Tr V → Option (V × H) :=
  Op.rec (motive := fun _ => Program → CallT → H → Tr V → Option (V × H))
    (fun a P _ h tm => wrapP (p_move a P h tm) h)
    (fun a P _ h tm => wrapP (p_assign a P h tm) h)
    (fun a b c P _ h tm => wrapP (p_pick a b c P h tm) h)
    (fun a P _ h tm => wrapA (allocOp P h tm (.alloc a)) h)
    (fun a b P _ h tm => wrapA (allocOp P h tm (.box a b)) h)
    (fun a b P _ h tm => wrapP (p_build a b P h tm) h)
    (fun a b c P _ h tm => wrapA (allocOp P h tm (.buildSlice a b c)) h)
    (fun a b c d P call h tm => effOp P call h tm (.insert a b c d))
    (fun a b P _ h tm => wrapP (p_load a b P h tm) h)
    e_store
    (fun _ _ _ _ _ => none)
    (fun _ _ _ _ _ => none)
    (fun a P _ h tm => wrapP (p_nilCheck a P h tm) h)
    (fun a b c d e P _ h tm => wrapP (p_binOp a b c d e P h tm) h)
    (fun a b c P _ h tm => wrapP (p_unOp a b c P h tm) h)
    (fun a b c P _ h tm => wrapP (p_convert a b c P h tm) h)
    (fun _ _ _ _ _ _ => none)
    (fun a b P _ h tm => wrapP (p_makeInterface a b P h tm) h)
    (fun a b c P _ h tm => wrapP (p_makeFunc a b c P h tm) h)
    (fun a b P _ h tm => wrapA (allocOp P h tm (.makeMap a b)) h)
    (fun _ _ _ _ _ _ => none)
    (fun a b c P _ h tm => wrapA (allocOp P h tm (.makeSlice a b c)) h)
    (fun a b c d e P _ h tm => wrapP (p_slice a b c d e P h tm) h)
    (fun a b c P _ h tm => wrapP (p_fieldAddr a b c P h tm) h)
    (fun a b c P _ h tm => wrapP (p_field a b c P h tm) h)
    (fun a b c P _ h tm => wrapP (p_indexAddr a b c P h tm) h)
    (fun a b c P _ h tm => wrapP (p_index a b c P h tm) h)
    (fun a b c d P _ h tm => wrapP (p_lookup a b c d P h tm) h)
    (fun a b c d P call h tm => effOp P call h tm (.mapUpdate a b c d))
    (fun a b c P call h tm => effOp P call h tm (.mapEntry a b c))
    (fun a b c d P call h tm => effOp P call h tm (.entryStore a b c d))
    (fun a b P _ h tm => wrapA (allocOp P h tm (.range a b)) h)
    (fun a b P call h tm => effOp P call h tm (.next a b))
    (fun a P _ h tm => wrapP (p_entry a P h tm) h)
    (fun a b c d P _ h tm => wrapP (p_typeAssert a b c d P h tm) h)
    (fun a b P _ h tm => wrapP (p_extract a b P h tm) h)
    e_call
    (fun _ _ _ _ _ => none)
    (fun _ _ _ _ _ => none)
    (fun _ _ _ _ _ => none)
    (fun _ _ _ _ _ _ => none)
    (fun _ _ _ _ _ _ _ => none)
    (fun _ _ _ _ _ _ => none)
    op
theorem e_call_eq (c : Call) (P : Program) (call : CallT) (h : H) (tm : Tr V) : e_call c P call h tm = evOp P call h tm (.call c) := by
  obtain ⟨callee, args, ats⟩ := c
  cases callee with
  | builtin b => cases b <;> rfl
  | invoke r n => rfl
  | value f =>
    show e_val f _ call h tm = effOp P call h tm (.call _)
    unfold e_val effOp
    simp only
    cases evL tm args.toList <;> rfl
def evFC (op : Op) (P : Program) (call : CallT) (h : H) (tm : Tr V) : Option (V × H) := evOp P call h tm op
theorem evF_op (op : Op) (P : Program) (call : CallT) (h : H) (tm : Tr V) : evF op P call h tm = evOp P call h tm op := by
  cases op
  case call c => exact e_call_eq c P call h tm
  all_goals rfl
@[csimp] theorem evF_eq : @evF = @evFC := by
  funext op P call h tm
  exact evF_op op P call h tm
end Go.Proofs.Ytdammjolkcjogaa.Ev

/-! The evaluator: a row of operations. -/
namespace Go.Proofs.Ytdammjolkcjogaa.Ev
open Go Go.RowKit
set_option linter.unusedVariables false
set_option linter.unusedSimpArgs false

structure St where
  tm : Tr V
  h : H
def wantV (ops : Array Oper) (tm : Tr V) (o : Oper) : Option Bool :=
  match o.guard with
  | none => some true
  | some (j, t) => match ops[j]? with
    | none => none
    | some oj => match oj.dst with
      | none => none
      | some d => match tm.get d with
        | some (.bool b) => some (b == t)
        | some (.tuple []) => some false
        | _ => none
def putO (n : Nat) (tm : Tr V) (dst : Option Tmp) (v : V) : Option (Tr V) :=
  match dst with
  | none => some tm
  | some d => cond (Nat.blt d n) (some (tm.set d (some v))) none
def step1 (P : Program) (call : CallT) (ops : Array Oper) (n : Nat) (o : Oper) (s : St) : Option St :=
  match wantV ops s.tm o with
  | some true => (match evF o.op P call s.h s.tm with
    | some (v, h') => (match putO n s.tm o.dst v with
      | some tm => some ⟨tm, h'⟩
      | none => none)
    | none => none)
  | some false => (match putO n s.tm o.dst (.tuple []) with
    | some tm => some ⟨tm, s.h⟩
    | none => none)
  | none => none
def evList (P : Program) (call : CallT) (ops : Array Oper) (n : Nat) : List Oper → St → Option St
  | [], s => some s
  | o :: l, s => match step1 P call ops n o s with
    | some s' => evList P call ops n l s'
    | none => none
section
variable {P : Program} {w0 w : World} {e : E} {s s' : St} {a : Act}
structure SRel (w0 : World) (e : E) (n : Nat) (s : St) (a : Act) (w : World) : Prop where
  t : trel e s.tm n a.tmps
  r : Rel w0 e s.h w
theorem wantV_ok {ops : Array Oper} {tm : Tr V} {o : Oper} {b : Bool} {tmps : Array Value} (ht : ∀ t v, tm.get t = some v → (∀ g j c, o.guard = some (g, c) → ops[g]? = some j → j.dst = some t → True) → ∃ x, tmps[t]? = some x ∧ vrel e v x) (q : wantV ops tm o = some b) : Region.wanted o (yielded ops tmps) = b := by
  unfold wantV at q
  unfold Region.wanted
  split at q
  · rename_i hg
    cases q
    rw [hg]
  · rename_i j t hg
    rw [hg]
    split at q
    · cases q
    · rename_i oj hj
      split at q
      · cases q
      · rename_i d hd
        split at q
        · rename_i b' hb
          cases q
          obtain ⟨x, h1, h2⟩ := ht d _ hb (fun _ _ _ _ _ _ => trivial)
          simp only [vrel] at h2
          subst h2
          simp [yielded, hj, hd, h1]
        · rename_i hb
          cases q
          obtain ⟨x, h1, h2⟩ := ht d _ hb (fun _ _ _ _ _ _ => trivial)
          simp only [vrel] at h2
          obtain ⟨vs, rfl, h3⟩ := h2
          simp [yielded, hj, hd, h1]
        · cases q
theorem putO_ok {n : Nat} {tm tm' : Tr V} {dst : Option Tmp} {v : V} {x : Value} {e' : E} (ht : trel e tm n a.tmps) (hle : e.le e') (hv : vrel e' v x) (q : putO n tm dst v = some tm') : trel e' tm' n (a.put dst x).tmps := by
  unfold putO at q
  split at q
  · cases q
    exact ht.mono hle
  · rename_i d
    cases hd : Nat.blt d n with
    | false => rw [hd] at q; cases q
    | true =>
      rw [hd] at q
      cases q
      have hd : d < n := Nat.le_of_ble_eq_true hd
      refine ⟨by simp [Act.put, ht.1], fun t u hu => ?_⟩
      rw [Tr.get_set] at hu
      by_cases e1 : t = d
      · subst e1
        rw [if_pos rfl] at hu
        cases hu
        exact ⟨x, by simp [Act.put, ht.1, hd], hv⟩
      · rw [if_neg e1] at hu
        obtain ⟨y, h1, h2⟩ := ht.2 t u hu
        exact ⟨y, by simp [Act.put, Array.getElem?_setIfInBounds_ne (Ne.symm e1), h1], vrel_mono hle _ _ h2⟩
theorem put_defers (a : Act) (dst : Option Tmp) (x : Value) : (a.put dst x).defers = a.defers := by cases dst <;> rfl
theorem wp_step1 {F : Fence} (hF : Open F) {m n : Nat} {call : CallT} (hc : CallOk P call) {ops : Array Oper} {o : Oper} {K : Act → World → Prop} {Q : Exit → Act → World → Prop} (S : SRel w0 e n s a w) (q : step1 P call ops n o s = some s')
    (hK : ∀ e' a' w', e.le e' → SRel w0 e' n s' a' w' → a'.defers = a.defers → K a' w') :
    if Region.wanted o (yielded ops a.tmps) then o.wpIn F m P a w K Q else (∀ f, o.about P w a.eval = some f → F.fn f) ∧ K (a.put o.dst undef) w := by
  unfold step1 at q
  split at q
  · rename_i hw
    rw [wantV_ok (fun t v hv _ => S.t.2 t v hv) hw]
    rw [if_pos rfl]
    split at q
    · rename_i v h' hv
      split at q
      · rename_i tm hp
        cases q
        refine wp_evOp hF hc S.r (fun x _ v hv => evO_rel S.t hv) ((evF_op _ _ _ _ _).symm.trans hv) (fun e' x w' h1 h2 h3 => ?_)
        exact hK e' _ w' h1 ⟨putO_ok S.t h1 h2 hp, h3⟩ (put_defers _ _ _)
      · cases q
    · cases q
  · rename_i hw
    rw [wantV_ok (fun t v hv _ => S.t.2 t v hv) hw]
    rw [if_neg (by simp)]
    split at q
    · rename_i tm hp
      cases q
      exact ⟨fun f _ => hF.fn f, hK e _ w (E.le.refl e) ⟨putO_ok S.t (E.le.refl e) (by simp only [vrel]; exact ⟨[], rfl, vrels_nil.2 rfl⟩) hp, S.r⟩ (put_defers _ _ _)⟩
    · cases q
  · cases q
theorem wp_evList {F : Fence} (hF : Open F) {m n : Nat} {call : CallT} (hc : CallOk P call) {ops : Array Oper} {Q : Exit → Act → World → Prop} : ∀ (l : List Oper) (k : Nat) (e : E) (s s' : St) (a : Act) (w : World), (∀ j, l[j]? = ops[k + j]?) → SRel w0 e n s a w → evList P call ops n l s = some s' →
    (∀ e' a' w', e.le e' → SRel w0 e' n s' a' w' → a'.defers = a.defers → Q .normal a' w') → wpOpsIn F m P ops Q (List.range' k l.length) a w
  | [], k, e, s, s', a, w, _, S, q, hQ => by
    cases q
    exact hQ e a w (E.le.refl e) S rfl
  | o :: l, k, e, s, s', a, w, hl, S, q, hQ => by
    unfold evList at q
    split at q
    · rename_i s1 h1
      rw [List.length_cons, List.range'_succ, wpOpsIn_cons]
      have ho : ops[k]? = some o := by have := hl 0; simpa using this.symm
      unfold wpOpIn
      simp only [ho]
      refine wp_step1 hF hc S h1 (fun e1 a1 w1 h2 h3 h4 => ?_)
      exact wp_evList hF hc l (k + 1) e1 s1 s' a1 w1 (fun j => by have := hl (j + 1); simpa [Nat.add_assoc, Nat.add_comm 1 j] using this) h3 q (fun e2 a2 w2 h5 h6 h7 => hQ e2 a2 w2 (h2.trans h5) h6 (h7.trans h4))
    · cases q
theorem wp_regionN {F : Fence} (hF : Open F) {m n : Nat} {call : CallT} (hc : CallOk P call) {id : Nat} {ops : Array Oper} {Q : Exit → Act → World → Prop} (S : SRel w0 e n s a w) (q : evList P call ops n ops.toList s = some s')
    (hQ : ∀ e' a' w', e.le e' → SRel w0 e' n s' a' w' → a'.defers = a.defers → Q .normal a' w') : (Code.region id ops false).wpIn F m P Q a w := by
  refine wpIn_region ?_
  have := wp_evList (m := m) hF hc ops.toList 0 e s s' a w (fun j => by simp) S q hQ
  rw [List.range_eq_range']
  simpa using this
end
end Go.Proofs.Ytdammjolkcjogaa.Ev

/-! The evaluator: code. -/
namespace Go.Proofs.Ytdammjolkcjogaa.Ev
open Go Go.RowKit
set_option linter.unusedVariables false
set_option linter.unusedSimpArgs false

inductive Ex where
  | normal
  | exit (id : Nat)
  | goto (l : Nat)
  | ret
def Ex.to : Ex → Exit
  | .normal => .normal
  | .exit id => .exit id
  | .goto l => .goto l
  | .ret => .ret
def Ex.jump : Ex → Option Code
  | .normal => none
  | .exit id => some (.exit id)
  | .goto l => some (.goto l)
  | .ret => some .ret
def unjump : Option Code → Option Ex
  | none => some .normal
  | some (.exit id) => some (.exit id)
  | some (.goto l) => some (.goto l)
  | some .ret => some .ret
  | _ => none
abbrev Res := Option (Ex × St × List Nat)
def loopN (step : St → List Nat → Res) : Nat → St → List Nat → Res
  | 0, _, _ => none
  | k + 1, s, mk => match step s mk with
    | some (.normal, s', mk') => loopN step k s' mk'
    | some (.exit id, s', mk') => some (.exit id, s', mk')
    | some (.goto l, s', mk') => some (.goto l, s', mk')
    | some (.ret, s', mk') => some (.ret, s', mk')
    | none => none
/-- The loop's record is laid; who else's block for deferred calls. -/
def enterV (n : Nat) (ro : Option Nat) (ps : Array Tmp) (assign body : Code) (s : St) (mk : List Nat) : Option (Nat × H × List Nat) :=
  match ro with
  | none => some (s.h.nxt + 1, (s.h.new .mark).new (.loop { state := .ready, pending := none, tmps := s.tm, ntm := n, params := ps.toList, assign := assign, body := body, mark := s.h.nxt }), s.h.nxt :: mk)
  | some l => match s.h.get l with
    | some (.loop r) => some (s.h.nxt, s.h.new (.loop { state := .ready, pending := none, tmps := s.tm, ntm := n, params := ps.toList, assign := assign, body := body, mark := r.mark }), mk)
    | _ => none
def notBusy : LoopState → Bool
  | .busy => false
  | _ => true
def leaveV (h : H) (l : Nat) : Option (Ex × H) :=
  match h.getW l with
  | some (.loop r) => cond (notBusy r.state) (match unjump r.pending with
    | some ex => some (ex, h.set l (some (.loop { r with state := .exhausted })))
    | none => none) none
  | _ => none
abbrev DrawT := Array Oper → Nat → St → Option St
/-- A scope: a goto goes on behind its label. -/
def jumpN (f : Nat → St → List Nat → Res) : Nat → Res → Res
  | 0, _ => none
  | k + 1, r => match r with
    | some (.goto l, s, mk) => jumpN f k (f l s mk)
    | r => r
mutual
def evC (P : Program) (call : CallT) (draw : DrawT) (n : Nat) (ro : Option Nat) : Code → St → List Nat → Res
  | .skip, s, mk => some (.normal, s, mk)
  | .label _, s, mk => some (.normal, s, mk)
  | .region _ ops false, s, mk => (match evList P call ops n ops.toList s with
    | some s' => some (.normal, s', mk)
    | none => none)
  | .region _ ops true, s, mk => (match draw ops n s with
    | some s' => some (.normal, s', mk)
    | none => none)
  | .seq x y, s, mk => (match evC P call draw n ro x s mk with
    | some (.normal, s', mk') => evC P call draw n ro y s' mk'
    | some (.exit id, s', mk') => some (.exit id, s', mk')
    | some (.goto l, s', mk') => some (.goto l, s', mk')
    | some (.ret, s', mk') => some (.ret, s', mk')
    | none => none)
  | .cond c x y, s, mk => (match evO s.tm c with
    | some (.bool true) => evC P call draw n ro x s mk
    | some (.bool false) => evC P call draw n ro y s mk
    | _ => none)
  | .block id b, s, mk => (match evC P call draw n ro b s mk with
    | some (.exit id', s', mk') => cond (Nat.beq id' id) (some (.normal, s', mk')) (some (.exit id', s', mk'))
    | some (.normal, s', mk') => some (.normal, s', mk')
    | some (.goto l, s', mk') => some (.goto l, s', mk')
    | some (.ret, s', mk') => some (.ret, s', mk')
    | none => none)
  | .loop b, s, mk => loopN (evC P call draw n ro b) 100000 s mk
  | .exit id, s, mk => some (.exit id, s, mk)
  | .goto l, s, mk => some (.goto l, s, mk)
  | .ret, s, mk => some (.ret, s, mk)
  | .rangeFunc g ps assign body, s, mk => (match evO s.tm g, enterV n ro ps assign body s mk with
    | some (.func (.func f) first cap), some (l, h1, mk') => (match call (.fn f (first ++ [.yield l] ++ cap)) h1 with
      | some (_, h2) => (match leaveV h2 l with
        | some (ex, h3) => some (ex, ⟨s.tm, h3⟩, mk')
        | none => none)
      | none => none)
    | _, _ => none)
  | .scope b, s, mk => jumpN (evLab P call draw n ro b) 10000 (evC P call draw n ro b s mk)
  | .refuse _, _, _ => none
/-- Code behind a label. -/
def evLab (P : Program) (call : CallT) (draw : DrawT) (n : Nat) (ro : Option Nat) : Code → Nat → St → List Nat → Res
  | .seq x y, l, s, mk => (match findLabel x l with
    | some _ => (match evLab P call draw n ro x l s mk with
      | some (.normal, s', mk') => evC P call draw n ro y s' mk'
      | some (.exit id, s', mk') => some (.exit id, s', mk')
      | some (.goto l, s', mk') => some (.goto l, s', mk')
      | some (.ret, s', mk') => some (.ret, s', mk')
      | none => none)
    | none => evLab P call draw n ro y l s mk)
  | .label l', l, s, mk => cond (l' == l) (some (.normal, s, mk)) none
  | _, _, _, _ => none
end
def drel (e : E) : List Nat → List Deferred → Prop
  | [], ds => ds = []
  | b :: mk, ds => ∃ k r, ds = { target := .collected k, args := #[] } :: r ∧ e.ρ b = some k ∧ drel e mk r
theorem drel_mono {e e' : E} (h : e.le e') : ∀ {mk : List Nat} {ds : List Deferred}, drel e mk ds → drel e' mk ds
  | [], _, q => q
  | b :: mk, _, ⟨k, r, h1, h2, h3⟩ => ⟨k, r, h1, h.ρ _ _ h2, drel_mono h h3⟩
def FRel (e : E) : Option Nat → Fence → Prop
  | none, F => F = Fence.wide
  | some l, F => ∃ k, e.ρ l = some k ∧ F = Fence.wide.inRound k
theorem FRel.mono {e e' : E} (h : e.le e') : ∀ {ro : Option Nat} {F : Fence}, FRel e ro F → FRel e' ro F
  | none, _, q => q
  | some l, _, ⟨k, h1, h2⟩ => ⟨k, h.ρ _ _ h1, h2⟩
theorem FRel.open {e : E} : ∀ {ro : Option Nat} {F : Fence}, FRel e ro F → Open F
  | none, _, q => .inl q
  | some l, _, ⟨k, h1, h2⟩ => .inr ⟨k, h2⟩
/-- What the region that draws is asked. -/
structure DrawOk (P : Program) (call : CallT) (draw : DrawT) : Prop where
  ok : ∀ {F : Fence}, Open F → ∀ {w0 e n s s' a w m id ops Q}, SRel w0 e n s a w → draw ops n s = some s' →
  (∀ e' a' w', e.le e' → SRel w0 e' n s' a' w' → a'.defers = a.defers → Q .normal a' w') → (Code.region id ops true).wpIn F m P Q a w
section
variable {P : Program} {F : Fence} {m : Nat}
def LoopAt (F : Fence) (m : Nat) (P : Program) (c : Code) (Q : Exit → Act → World → Prop) (a : Act) (w : World) : Prop :=
  ∀ (b : Frame) (k : List Item) (cs : List Frame), b.roundOf = F.round → F.fn b.fn → F.room (cs.length + 1 + m) →
    ∃ e a' w', Q e a' w' ∧ ArrivesIn (Machine.fenced P F) P (lone (b.atR a (.code c :: .inLoop c :: k)) cs w) b k cs e a' w'
theorem loop_of {c : Code} {Q : Exit → Act → World → Prop} {a : Act} {w : World} (h : LoopAt F m P c Q a w) : (Code.loop c).wpIn F m P Q a w := by
  intro b k cs hro hb hr
  obtain ⟨e, a', w', hq, harr⟩ := h b k cs hro hb hr
  exact ⟨e, a', w', hq, .of_steps (.one (fenced_calm hb hr rfl) stepR_loop) harr⟩
theorem loop_step {c : Code} {Q : Exit → Act → World → Prop} {a : Act} {w : World} (h : c.wpIn F m P (Exit.then (fun a' w' => LoopAt F m P c Q a' w') Q) a w) : LoopAt F m P c Q a w := by
  intro b k cs hro hb hr
  obtain ⟨e, a₁, w₁, hq, harr⟩ := h b (.inLoop c :: k) cs hro hb hr
  cases e with
  | normal =>
    obtain ⟨e₂, a₂, w₂, hq₂, harr₂⟩ := hq b k cs hro hb hr
    exact ⟨e₂, a₂, w₂, hq₂, .of_steps (StepsIn.trans harr (.one (fenced_calm hb hr rfl) stepR_inLoop)) harr₂⟩
  | exit id => exact ⟨_, a₁, w₁, hq, .pass (x := .inLoop c) rfl (fun _ _ => .inl (by simp)) harr⟩
  | goto l => exact ⟨_, a₁, w₁, hq, .pass (x := .inLoop c) rfl (fun _ _ => .inl (by simp)) harr⟩
  | ret => exact ⟨_, a₁, w₁, hq, .pass (x := .inLoop c) rfl (fun _ _ => .inl (by simp)) harr⟩
  | panic ch => exact ⟨_, a₁, w₁, hq, .pass (x := .inLoop c) rfl (fun _ _ => .inl (by simp)) harr⟩
  | outgrown => exact ⟨_, a₁, w₁, hq, .pass (x := .inLoop c) rfl (fun _ _ => .inl (by simp)) harr⟩
theorem unjump_ok : ∀ {j : Option Code} {ex : Ex}, unjump j = some ex → j = ex.jump := by
  intro j ex h
  unfold unjump at h
  split at h <;> first | (cases h; rfl) | cases h
/-- Code, of which each part is known. -/
def COk (P : Program) (call : CallT) (draw : DrawT) (c : Code) : Prop := ∀ w0 e n ro F m s mk a w ex s' mk' Q, FRel e ro F → SRel w0 e n s a w → drel e mk a.defers → evC P call draw n ro c s mk = some (ex, s', mk') →
  (∀ e' a' w', e.le e' → SRel w0 e' n s' a' w' → drel e' mk' a'.defers → Q ex.to a' w') → c.wpIn F m P Q a w
theorem loopN_ok {call : CallT} {draw : DrawT} {c : Code} (hC : COk P call draw c) {n : Nat} {ro : Option Nat} {w0 : World} {ex : Ex} {s' : St} {mk' : List Nat} {Q : Exit → Act → World → Prop} : ∀ (j : Nat) (e : E) (s : St) (mk : List Nat) (a : Act) (w : World), FRel e ro F → SRel w0 e n s a w → drel e mk a.defers →
    loopN (evC P call draw n ro c) j s mk = some (ex, s', mk') → (∀ e' a' w', e.le e' → SRel w0 e' n s' a' w' → drel e' mk' a'.defers → Q ex.to a' w') → LoopAt F m P c Q a w
  | 0, _, _, _, _, _, _, _, _, q, _ => by cases q
  | j + 1, e, s, mk, a, w, hF, S, D, q, hQ => by
    refine loop_step ?_
    unfold loopN at q
    cases hc : evC P call draw n ro c s mk with
    | none => rw [hc] at q; cases q
    | some r =>
      obtain ⟨ex1, s1, mk1⟩ := r
      rw [hc] at q
      refine hC _ _ _ _ _ _ _ _ _ _ _ _ _ _ hF S D hc (fun e1 a1 w1 h1 h2 h3 => ?_)
      cases ex1 with
      | normal => exact loopN_ok hC j e1 s1 mk1 a1 w1 (hF.mono h1) h2 h3 q (fun e2 a2 w2 h4 h5 h6 => hQ e2 a2 w2 (h1.trans h4) h5 h6)
      | exit id => cases q; exact hQ e1 a1 w1 h1 h2 h3
      | goto l => cases q; exact hQ e1 a1 w1 h1 h2 h3
      | ret => cases q; exact hQ e1 a1 w1 h1 h2 h3
theorem leave_ok {w0 : World} {e : E} {h h' : H} {w : World} {l k : Nat} {ex : Ex} (R : Rel w0 e h w) (hk : e.ρ l = some k) (q : leaveV h l = some (ex, h')) : ∃ w', (Instr.endLoop k).run P w = .ok ex.jump w' ∧ Rel w0 e h' w' := by
  unfold leaveV at q
  split at q
  · rename_i r hg
    obtain ⟨hfz, hg⟩ := H.getW_some hg
    cases hb : notBusy r.state with
    | false => rw [hb] at q; cases q
    | true =>
      rw [hb] at q
      simp only [cond_true] at q
      split at q
      · rename_i ex' hu
        cases q
        obtain ⟨fn, tmps, dk, h1, h2, h3⟩ := R.heap l _ k hg hk
        have hnb : r.state ≠ .busy := fun e1 => by rw [e1] at hb; cases hb
        refine ⟨_, ?_, R.upd hk hfz hg (grownBy_putObj' _ _ _) (by rw [World.putObj_heap_same (R.new _ _ hk).2]; exact ⟨fn, tmps, dk, rfl, h2, h3⟩)⟩
        have := run_endLoop (P := P) h1 hnb
        rw [← unjump_ok hu]
        exact this
      · cases q
  · cases q
theorem enter_ok {w0 : World} {e : E} {n : Nat} {ro : Option Nat} {ps : Array Tmp} {assign body : Code} {s : St} {mk mk' : List Nat} {a : Act} {w : World} {l : Nat} {h1 : H} (fn : FuncId) (hF : FRel e ro F) (S : SRel w0 e n s a w) (D : drel e mk a.defers) (q : enterV n ro ps assign body s mk = some (l, h1, mk')) :
    ∃ e' k mark w1, (Instr.enterLoop fn a.tmps ps assign body F.round).run P w = .ok (k, mark) w1 ∧ e.le e' ∧ e'.ρ l = some k ∧ Rel w0 e' h1 w1 ∧ drel e' mk' (mark ++ a.defers) := by
  unfold enterV at q
  split at q
  · cases q
    have hF : F = Fence.wide := hF
    subst hF
    have R := S.r
    have hle1 : e.le (e.bind s.h.nxt (some w.heap.size) none) := E.bind_le R.rn R.kn R.ll
    have R1 := R.made (c := none) (o := .mark) (World.grownBy_alloc w (.deferred (some [])) none) (Nat.le_refl _) (by rw [World.size_alloc]; exact Nat.lt_succ_self _) (by rw [World.alloc_heap_new]; rfl)
    have hsz : (w.alloc (.deferred (some []))).heap.size = w.heap.size + 1 := World.size_alloc _ _
    have hle2 : (e.bind s.h.nxt (some w.heap.size) none).le ((e.bind s.h.nxt (some w.heap.size) none).bind (s.h.nxt + 1) (some (w.heap.size + 1)) none) := E.bind_le R1.rn R1.kn R1.ll
    have R2 := R1.made (c := none) (k := w.heap.size + 1) (o := .loop { state := .ready, pending := none, tmps := s.tm, ntm := n, params := ps.toList, assign := assign, body := body, mark := s.h.nxt }) (World.grownBy_alloc (w.alloc (.deferred (some [])))
        (.loop { state := .ready, pending := none, fn := fn, tmps := a.tmps, params := ps, assign := assign, body := body, defers := w.heap.size }) none) (by rw [hsz]; exact Nat.le_refl _) (by rw [World.size_alloc, hsz]; exact Nat.lt_succ_self _) (by
          rw [← hsz, World.alloc_heap_new]
          refine ⟨fn, a.tmps, w.heap.size, rfl, S.t.mono (hle1.trans ?_), ?_⟩
          · rw [hsz]; exact hle2
          · rw [hsz]; exact hle2.ρ _ _ (E.bind_ρ _ _ _ _))
    refine ⟨_, w.heap.size + 1, _, _, run_enterLoop_outer fn a.tmps ps assign body, hle1.trans hle2, E.bind_ρ _ _ _ _, R2, w.heap.size, a.defers, rfl, hle2.ρ _ _ (E.bind_ρ _ _ _ _), drel_mono (hle1.trans hle2) D⟩
  · rename_i l0
    obtain ⟨k0, hk0, rfl⟩ := hF
    split at q
    · rename_i r hg
      cases q
      have R := S.r
      obtain ⟨fn0, tmps0, dk, g1, g2, g3⟩ := R.heap l0 _ k0 hg hk0
      have hle1 : e.le (e.bind s.h.nxt (some w.heap.size) none) := E.bind_le R.rn R.kn R.ll
      have R1 := R.made (c := none) (o := .loop { state := .ready, pending := none, tmps := s.tm, ntm := n, params := ps.toList, assign := assign, body := body, mark := r.mark }) (World.grownBy_alloc w
        (.loop { state := .ready, pending := none, fn := fn, tmps := a.tmps, params := ps, assign := assign, body := body, defers := dk }) none) (Nat.le_refl _) (by rw [World.size_alloc]; exact Nat.lt_succ_self _) (by
          rw [World.alloc_heap_new]
          exact ⟨fn, a.tmps, dk, rfl, S.t.mono hle1, hle1.ρ _ _ g3⟩)
      have hent := run_enterLoop_inner (P := P) g1 fn a.tmps ps assign body
      exact ⟨_, w.heap.size, [], _, hent, hle1, E.bind_ρ _ _ _ _, R1, drel_mono hle1 D⟩
    · cases q
theorem stepR_scope {b : Frame} {a : Act} {c : Code} {k : List Item} {cs : List Frame} {w : World} : step P (lone (b.atR a (.code (.scope c) :: k)) cs w) = .next (lone (b.atR a (.code c :: .inScope c :: k)) cs w) :=
  step_lone_go (by simp [stepG, stepG.exec, Frame.atR])
theorem stepR_inScope {b : Frame} {a : Act} {c : Code} {k : List Item} {cs : List Frame} {w : World} : step P (lone (b.atR a (.inScope c :: k)) cs w) = .next (lone (b.atR a k) cs w) :=
  step_lone_go (by simp [stepG, stepG.exec, Frame.atR])
def ScopeAt (F : Fence) (m : Nat) (P : Program) (c rest : Code) (Q : Exit → Act → World → Prop) (a : Act) (w : World) : Prop :=
  ∀ (b : Frame) (k : List Item) (cs : List Frame), b.roundOf = F.round → F.fn b.fn → F.room (cs.length + 1 + m) →
    ∃ e a' w', Q e a' w' ∧ ArrivesIn (Machine.fenced P F) P (lone (b.atR a (.code rest :: .inScope c :: k)) cs w) b k cs e a' w'
theorem scope_of {c : Code} {Q : Exit → Act → World → Prop} {a : Act} {w : World} (h : ScopeAt F m P c c Q a w) : (Code.scope c).wpIn F m P Q a w := by
  intro b k cs hro hb hr
  obtain ⟨e, a₁, w₁, hq, harr⟩ := h b k cs hro hb hr
  exact ⟨e, a₁, w₁, hq, .of_steps (.one (fenced_calm hb hr rfl) stepR_scope) harr⟩
def Exit.scoped (F : Fence) (m : Nat) (P : Program) (c : Code) (Q : Exit → Act → World → Prop) : Exit → Act → World → Prop
  | .goto l, a, w => ∃ rest, findLabel c l = some rest ∧ ScopeAt F m P c rest Q a w
  | e, a, w => Q e a w
theorem scope_step {c rest : Code} {Q : Exit → Act → World → Prop} {a : Act} {w : World} (h : rest.wpIn F m P (Exit.scoped F m P c Q) a w) : ScopeAt F m P c rest Q a w := by
  intro b k cs hro hb hr
  obtain ⟨e, a₁, w₁, hq, harr⟩ := h b (.inScope c :: k) cs hro hb hr
  cases e with
  | normal => exact ⟨.normal, a₁, w₁, hq, StepsIn.trans harr (.one (fenced_calm hb hr rfl) stepR_inScope)⟩
  | exit id => exact ⟨.exit id, a₁, w₁, hq, ⟨fun k' hk => harr.1 k' (by simpa [exitTo] using hk), fun hr hk => harr.2 hr (by simpa [exitTo] using hk)⟩⟩
  | goto l =>
    obtain ⟨rest', hf, hs⟩ := hq
    obtain ⟨e₂, a₂, w₂, hq₂, harr₂⟩ := hs b k cs hro hb hr
    have hg : gotoIn l (.inScope c :: k) = some (.code rest' :: .inScope c :: k) := by simp [gotoIn, hf]
    exact ⟨e₂, a₂, w₂, hq₂, .of_steps (harr.1 _ hg) harr₂⟩
  | ret => exact ⟨.ret, a₁, w₁, hq, harr⟩
  | panic ch => exact ⟨.panic ch, a₁, w₁, hq, harr⟩
  | outgrown => exact ⟨.outgrown, a₁, w₁, hq, harr⟩
/-- A way to run code. -/
def RunOk (P : Program) (rest : Code) (run : Nat → Option Nat → St → List Nat → Res) : Prop := ∀ w0 e n ro F m s mk a w ex s' mk' Q, FRel e ro F → SRel w0 e n s a w → drel e mk a.defers → run n ro s mk = some (ex, s', mk') →
  (∀ e' a' w', e.le e' → SRel w0 e' n s' a' w' → drel e' mk' a'.defers → Q ex.to a' w') → rest.wpIn F m P Q a w
theorem evLab_label {call : CallT} {draw : DrawT} {n : Nat} {ro : Option Nat} : ∀ {c : Code} {l : Nat} {s : St} {mk : List Nat} {r : Ex × St × List Nat}, evLab P call draw n ro c l s mk = some r → ∃ rest, findLabel c l = some rest
  | .seq x y, l, s, mk, r, q => by
    simp only [evLab] at q
    split at q
    · rename_i rx hx
      exact ⟨.seq rx y, by simp only [findLabel, hx]⟩
    · rename_i hx
      obtain ⟨rest, hr⟩ := evLab_label q
      exact ⟨rest, by simp only [findLabel, hx, hr]⟩
  | .label l', l, s, mk, r, q => by
    simp only [evLab] at q
    cases h : l' == l with
    | false => rw [h] at q; cases q
    | true => exact ⟨.skip, by simp only [findLabel, h, if_true]⟩
  | .skip, _, _, _, _, q | .exit _, _, _, _, _, q | .goto _, _, _, _, _, q | .ret, _, _, _, _, q | .scope _, _, _, _, _, q | .refuse _, _, _, _, _, q | .region _ _ _, _, _, _, _, q | .cond _ _ _, _, _, _, _, q | .block _ _, _, _, _, _, q | .loop _, _, _, _, _, q | .rangeFunc _ _ _ _, _, _, _, _, q => by simp only [evLab] at q; cases q
theorem jumpN_ok {call : CallT} {draw : DrawT} {c : Code} (hL : ∀ l rest, findLabel c l = some rest → RunOk P rest (fun n ro => evLab P call draw n ro c l)) {n : Nat} {ro : Option Nat} {w0 : World} {ex : Ex} {s' : St} {mk' : List Nat} {Q : Exit → Act → World → Prop} : ∀ (j : Nat) (e : E) (s : St) (mk : List Nat) (a : Act) (w : World) (rest : Code) (run : Nat → Option Nat → St → List Nat → Res), RunOk P rest run → FRel e ro F → SRel w0 e n s a w → drel e mk a.defers →
    jumpN (evLab P call draw n ro c) j (run n ro s mk) = some (ex, s', mk') → (∀ e' a' w', e.le e' → SRel w0 e' n s' a' w' → drel e' mk' a'.defers → Q ex.to a' w') → ScopeAt F m P c rest Q a w
  | 0, _, _, _, _, _, _, _, _, _, _, _, q, _ => by cases q
  | j + 1, e, s, mk, a, w, rest, run, hrun, hF, S, D, q, hQ => by
    refine scope_step ?_
    unfold jumpN at q
    cases hc : run n ro s mk with
    | none => rw [hc] at q; cases q
    | some r =>
      obtain ⟨ex1, s1, mk1⟩ := r
      rw [hc] at q
      refine hrun _ _ _ _ _ _ _ _ _ _ _ _ _ _ hF S D hc (fun e1 a1 w1 h1 h2 h3 => ?_)
      cases ex1 with
      | normal => cases q; exact hQ e1 a1 w1 h1 h2 h3
      | exit id => cases q; exact hQ e1 a1 w1 h1 h2 h3
      | ret => cases q; exact hQ e1 a1 w1 h1 h2 h3
      | goto l =>
        dsimp only at q
        have hl : ∃ r, evLab P call draw n ro c l s1 mk1 = some r := by
          cases hh : evLab P call draw n ro c l s1 mk1 with
          | none =>
            rw [hh] at q
            cases j <;> cases q
          | some r => exact ⟨r, rfl⟩
        obtain ⟨r, hr⟩ := hl
        obtain ⟨rest', hf⟩ := evLab_label hr
        exact ⟨rest', hf, jumpN_ok hL j e1 s1 mk1 a1 w1 rest' _ (hL l rest' hf) (hF.mono h1) h2 h3 q (fun e2 a2 w2 h4 h5 h6 => hQ e2 a2 w2 (h1.trans h4) h5 h6)⟩
mutual
theorem evC_ok {call : CallT} {draw : DrawT} (hc : CallOk P call) (hd : DrawOk P call draw) : ∀ (c : Code), COk P call draw c
  | .skip => fun w0 e n ro F m s mk a w ex s' mk' Q hF S D q hQ => by cases q; exact wpIn_skip (hQ _ _ _ (E.le.refl _) S D)
  | .label _ => fun w0 e n ro F m s mk a w ex s' mk' Q hF S D q hQ => by cases q; exact wpIn_label (hQ _ _ _ (E.le.refl _) S D)
  | .exit _ => fun w0 e n ro F m s mk a w ex s' mk' Q hF S D q hQ => by cases q; exact wpIn_exit (hQ _ _ _ (E.le.refl _) S D)
  | .goto _ => fun w0 e n ro F m s mk a w ex s' mk' Q hF S D q hQ => by cases q; exact wpIn_goto (hQ _ _ _ (E.le.refl _) S D)
  | .ret => fun w0 e n ro F m s mk a w ex s' mk' Q hF S D q hQ => by cases q; exact wpIn_ret (hQ _ _ _ (E.le.refl _) S D)
  | .scope b => fun w0 e n ro F m s mk a w ex s' mk' Q hF S D q hQ => by
    simp only [evC] at q
    exact scope_of (jumpN_ok (fun l rest hf => evLab_ok hc hd b l rest hf) _ e s mk a w b (fun n ro => evC P call draw n ro b) (evC_ok hc hd b) hF S D q hQ)
  | .refuse _ => fun w0 e n ro F m s mk a w ex s' mk' Q hF S D q hQ => by cases q
  | .region id ops false => fun w0 e n ro F m s mk a w ex s' mk' Q hF S D q hQ => by
    simp only [evC] at q
    split at q
    · rename_i s' hs
      cases q
      exact wp_regionN hF.open hc S hs (fun e' a' w' h1 h2 h3 => hQ e' a' w' h1 h2 (by rw [h3]; exact drel_mono h1 D))
    · cases q
  | .region id ops true => fun w0 e n ro F m s mk a w ex s' mk' Q hF S D q hQ => by
    simp only [evC] at q
    split at q
    · rename_i s' hs
      cases q
      exact hd.ok hF.open S hs (fun e' a' w' h1 h2 h3 => hQ e' a' w' h1 h2 (by rw [h3]; exact drel_mono h1 D))
    · cases q
  | .seq x y => fun w0 e n ro F m s mk a w ex s' mk' Q hF S D q hQ => by
    simp only [evC] at q
    refine wpIn_seq ?_
    cases h1 : evC P call draw n ro x s mk with
    | none => rw [h1] at q; cases q
    | some r =>
      obtain ⟨ex1, s1, mk1⟩ := r
      rw [h1] at q
      refine evC_ok hc hd x _ _ _ _ _ _ _ _ _ _ _ _ _ _ hF S D h1 (fun e1 a1 w1 h2 h3 h4 => ?_)
      cases ex1 with
      | normal => exact evC_ok hc hd y _ _ _ _ _ _ _ _ _ _ _ _ _ _ (hF.mono h2) h3 h4 q (fun e2 a2 w2 h5 h6 h7 => hQ e2 a2 w2 (h2.trans h5) h6 h7)
      | exit id => cases q; exact hQ e1 a1 w1 h2 h3 h4
      | goto l => cases q; exact hQ e1 a1 w1 h2 h3 h4
      | ret => cases q; exact hQ e1 a1 w1 h2 h3 h4
  | .cond c x y => fun w0 e n ro F m s mk a w ex s' mk' Q hF S D q hQ => by
    simp only [evC] at q
    split at q
    · rename_i h1
      have := evO_rel S.t h1
      simp only [vrel] at this
      exact wpIn_cond_true this (evC_ok hc hd x _ _ _ _ _ _ _ _ _ _ _ _ _ _ hF S D q hQ)
    · rename_i h1
      have := evO_rel S.t h1
      simp only [vrel] at this
      exact wpIn_cond_false this (evC_ok hc hd y _ _ _ _ _ _ _ _ _ _ _ _ _ _ hF S D q hQ)
    · cases q
  | .block id b => fun w0 e n ro F m s mk a w ex s' mk' Q hF S D q hQ => by
    simp only [evC] at q
    refine wpIn_block ?_
    cases h1 : evC P call draw n ro b s mk with
    | none => rw [h1] at q; cases q
    | some r =>
      obtain ⟨ex1, s1, mk1⟩ := r
      rw [h1] at q
      refine evC_ok hc hd b _ _ _ _ _ _ _ _ _ _ _ _ _ _ hF S D h1 (fun e1 a1 w1 h2 h3 h4 => ?_)
      cases ex1 with
      | normal => cases q; exact hQ e1 a1 w1 h2 h3 h4
      | exit id' =>
        cases hb : Nat.beq id' id with
        | true =>
          simp only [hb, cond_true] at q
          cases q
          have := Nat.eq_of_beq_eq_true hb
          subst this
          show Exit.inBlock id' Q (.exit id') a1 w1
          simp only [Exit.inBlock, if_true]
          exact hQ e1 a1 w1 h2 h3 h4
        | false =>
          simp only [hb, cond_false] at q
          cases q
          have hne : ¬ id' = id := fun e2 => by subst e2; simp at hb
          show Exit.inBlock id Q (.exit id') a1 w1
          simp only [Exit.inBlock, hne, if_false]
          exact hQ e1 a1 w1 h2 h3 h4
      | goto l => cases q; exact hQ e1 a1 w1 h2 h3 h4
      | ret => cases q; exact hQ e1 a1 w1 h2 h3 h4
  | .loop b => fun w0 e n ro F m s mk a w ex s' mk' Q hF S D q hQ => by
    simp only [evC] at q
    exact loop_of (loopN_ok (evC_ok hc hd b) _ e s mk a w hF S D q hQ)
  | .rangeFunc g ps assign body => fun w0 e n ro F m s mk a w ex s' mk' Q hF S D q hQ => by
    simp only [evC] at q
    split at q
    · rename_i f first cap l h1 mk1 hg hent
      split at q
      · rename_i v0 h2 hcall
        split at q
        · rename_i ex3 h3 hlv
          cases q
          refine wpIn_rangeFunc (fun fn _ => ?_)
          obtain ⟨e1, k, mark, w1, r1, r2, r3, r4, r5⟩ := enter_ok (P := P) fn hF S D hent
          have hgv := evO_rel S.t hg
          simp only [vrel] at hgv
          obtain ⟨fs, cs, hge, hfs, hcs⟩ := hgv
          have hargs : vrels e1 (first ++ [.yield l] ++ cap) (fs ++ [.func (.yield k) #[] #[]] ++ cs) :=
            vrels_append (vrels_append (vrels_mono r2 _ _ hfs) (vrels_one (by simp only [vrel]; exact ⟨k, r3, rfl⟩))) (vrels_mono r2 _ _ hcs)
          obtain ⟨⟨fnc, g1, g2, g3⟩, g4⟩ := hc.fn hcall r4 _ hargs
          have g3' : ¬ fnc.name = "runtime.NumGoroutine" := by simpa using g3
          have g2' : ¬ fnc.body = none := fun hh => by rw [hh] at g2; cases g2
          refine ⟨k, mark, w1, { target := .fn (.func f) ⟨cs⟩, args := ⟨fs⟩ ++ #[.func (.yield k) #[] #[]] }, w1, f, ⟨fs ++ [.func (.yield k) #[] #[]] ++ cs⟩, w1, r1, ?_, fun f' _ => hF.open.fn f', ?_, ?_, ?_⟩
          · have hev : ∀ v, a.eval (.const v) = v := fun _ => rfl
            simp [resolve, hge, Deferred.ofValue, hev]
          · have : (⟨fs⟩ : Array Value) ++ #[.func (.yield k) #[] #[]] ++ ⟨cs⟩ = ⟨fs ++ [.func (.yield k) #[] #[]] ++ cs⟩ := by
              apply Array.ext'
              simp
            simp only [invoke, this]
            simp [callFunc, g1, g2', g3']
          · intro hdp
            rw [hF.open.depth] at hdp
            cases hdp
          · refine hF.open.calls ((g4 (m - 1)).mono ?_)
            rintro en w2 ⟨e2, x, rfl, p2, p3, p4⟩
            obtain ⟨w3, t1, t2⟩ := leave_ok (P := P) p4 (p2.ρ _ _ r3) hlv
            refine ⟨ex.jump, w3, t1, ?_⟩
            have fin := hQ e2 { a with defers := mark ++ a.defers } w3 (r2.trans p2) ⟨S.t.mono (r2.trans p2), t2⟩ (drel_mono p2 r5)
            cases ex with
            | normal => exact fin
            | exit id => exact wpIn_exit fin
            | goto l => exact wpIn_goto fin
            | ret => exact wpIn_ret fin
        · cases q
      · cases q
    · cases q
theorem evLab_ok {call : CallT} {draw : DrawT} (hc : CallOk P call) (hd : DrawOk P call draw) : ∀ (c : Code) (l : Nat) (rest : Code), findLabel c l = some rest → RunOk P rest (fun n ro => evLab P call draw n ro c l)
  | .seq x y, l, rest, hf => fun w0 e n ro F m s mk a w ex s' mk' Q hF S D q hQ => by
    simp only [evLab] at q
    simp only [findLabel] at hf
    cases hx : findLabel x l with
    | none =>
      rw [hx] at q hf
      exact evLab_ok hc hd y l rest hf _ _ _ _ _ _ _ _ _ _ _ _ _ _ hF S D q hQ
    | some rx =>
      rw [hx] at q hf
      cases hf
      dsimp only at q
      refine wpIn_seq ?_
      cases h1 : evLab P call draw n ro x l s mk with
      | none => rw [h1] at q; cases q
      | some r =>
        obtain ⟨ex1, s1, mk1⟩ := r
        rw [h1] at q
        refine evLab_ok hc hd x l rx hx _ _ _ _ _ _ _ _ _ _ _ _ _ _ hF S D h1 (fun e1 a1 w1 h2 h3 h4 => ?_)
        cases ex1 with
        | normal => exact evC_ok hc hd y _ _ _ _ _ _ _ _ _ _ _ _ _ _ (hF.mono h2) h3 h4 q (fun e2 a2 w2 h5 h6 h7 => hQ e2 a2 w2 (h2.trans h5) h6 h7)
        | exit id => cases q; exact hQ e1 a1 w1 h2 h3 h4
        | goto l => cases q; exact hQ e1 a1 w1 h2 h3 h4
        | ret => cases q; exact hQ e1 a1 w1 h2 h3 h4
  | .label l', l, rest, hf => fun w0 e n ro F m s mk a w ex s' mk' Q hF S D q hQ => by
    simp only [evLab] at q
    simp only [findLabel] at hf
    cases h : l' == l with
    | false => rw [h] at q; cases q
    | true =>
      rw [h] at q hf
      cases q
      cases hf
      exact wpIn_skip (hQ _ _ _ (E.le.refl _) S D)
  | .skip, _, _, hf | .exit _, _, _, hf | .goto _, _, _, hf | .ret, _, _, hf | .scope _, _, _, hf | .refuse _, _, _, hf | .region _ _ _, _, _, hf | .cond _ _ _, _, _, hf | .block _ _, _, _, hf | .loop _, _, _, hf | .rangeFunc _ _ _ _, _, _, hf => by cases hf
end
end
end Go.Proofs.Ytdammjolkcjogaa.Ev

/-! The evaluator: code, told by recursors: the same as evC, and the kernel runs it faster. -/
namespace Go.Proofs.Ytdammjolkcjogaa.Ev
open Go Go.RowKit
set_option linter.unusedVariables false
set_option linter.unusedSimpArgs false

def thenO (x : Option St) (k : St → Option St) : Option St := match x with
  | some s => k s
  | none => none
noncomputable def evListR (l : List Oper) : Program → CallT → Array Oper → Nat → St → Option St :=
  List.rec (motive := fun _ => Program → CallT → Array Oper → Nat → St → Option St) (fun _ _ _ _ s => some s) (fun o _ ih P call ops n s => thenO (step1 P call ops n o s) (ih P call ops n)) l
theorem evListR_eq (P : Program) (call : CallT) (ops : Array Oper) (n : Nat) : ∀ (l : List Oper) (s : St), evListR l P call ops n s = evList P call ops n l s
  | [], s => rfl
  | o :: l, s => by
    show thenO (step1 P call ops n o s) (evListR l P call ops n) = _
    simp only [evList]
    cases step1 P call ops n o s with
    | none => rfl
    | some s' => exact evListR_eq P call ops n l s'
abbrev CT := Program → CallT → DrawT → Nat → Option Nat → St → List Nat → Res
def wrapS (o : Option St) (mk : List Nat) : Res := match o with
  | some s' => some (.normal, s', mk)
  | none => none
def thenS (r : Res) (k : St → List Nat → Res) : Res := match r with
  | some (.normal, s', mk') => k s' mk'
  | some (.exit id, s', mk') => some (.exit id, s', mk')
  | some (.goto l, s', mk') => some (.goto l, s', mk')
  | some (.ret, s', mk') => some (.ret, s', mk')
  | none => none
def blockS (id : Nat) (r : Res) : Res := match r with
  | some (.exit id', s', mk') => cond (Nat.beq id' id) (some (.normal, s', mk')) (some (.exit id', s', mk'))
  | some (.normal, s', mk') => some (.normal, s', mk')
  | some (.goto l, s', mk') => some (.goto l, s', mk')
  | some (.ret, s', mk') => some (.ret, s', mk')
  | none => none
def pickS (v : Option V) (x y : Res) : Res := match v with
  | some (.bool true) => x
  | some (.bool false) => y
  | _ => none
noncomputable def loopR (f : Nat) : (St → List Nat → Res) → St → List Nat → Res :=
  Nat.rec (motive := fun _ => (St → List Nat → Res) → St → List Nat → Res) (fun _ _ _ => none) (fun _ ih step s mk => thenS (step s mk) (ih step)) f
theorem loopR_eq (step : St → List Nat → Res) : ∀ (f : Nat) (s : St) (mk : List Nat), loopR f step s mk = loopN step f s mk
  | 0, s, mk => rfl
  | f + 1, s, mk => by
    show thenS (step s mk) (loopR f step) = _
    simp only [loopN]
    cases step s mk with
    | none => rfl
    | some r =>
      obtain ⟨ex, s', mk'⟩ := r
      cases ex with
      | normal => exact loopR_eq step f s' mk'
      | exit id => rfl
      | goto l => rfl
      | ret => rfl
noncomputable def c_region (_ : Nat) (ops : Array Oper) (d : Bool) : CT := fun P call draw n ro s mk => Bool.rec (motive := fun _ => Res) (wrapS (evListR ops.toList P call ops n s) mk) (wrapS (draw ops n s) mk) d
def c_seq (_ _ : Code) (ra rb : CT) : CT := fun P call draw n ro s mk => thenS (ra P call draw n ro s mk) (rb P call draw n ro)
def c_cond (c : Operand) (_ _ : Code) (ra rb : CT) : CT := fun P call draw n ro s mk => pickS (evO s.tm c) (ra P call draw n ro s mk) (rb P call draw n ro s mk)
def c_block (id : Nat) (_ : Code) (ra : CT) : CT := fun P call draw n ro s mk => blockS id (ra P call draw n ro s mk)
noncomputable def c_loop (_ : Code) (ra : CT) : CT := fun P call draw n ro s mk => loopR 100000 (ra P call draw n ro) s mk
def c_range (g : Operand) (ps : Array Tmp) (assign body : Code) (_ _ : CT) : CT := fun P call draw n ro s mk => evC P call draw n ro (.rangeFunc g ps assign body) s mk
def c_scope (b : Code) (ra : CT) : CT := fun P call draw n ro s mk => jumpN (evLab P call draw n ro b) 10000 (ra P call draw n ro s mk)
noncomputable def evR (c : Code) : CT :=
  Code.rec (motive := fun _ => CT)
    (fun _ _ _ _ _ s mk => some (.normal, s, mk))
    c_region
    c_seq
    c_cond
    c_block
    c_loop
    c_range
    (fun id _ _ _ _ _ s mk => some (.exit id, s, mk))
    c_scope
    (fun _ _ _ _ _ _ s mk => some (.normal, s, mk))
    (fun l _ _ _ _ _ s mk => some (.goto l, s, mk))
    (fun _ _ _ _ _ s mk => some (.ret, s, mk))
    (fun _ _ _ _ _ _ _ _ => none)
    c
theorem evR_op (P : Program) (call : CallT) (draw : DrawT) (n : Nat) (ro : Option Nat) : ∀ (c : Code) (s : St) (mk : List Nat), evR c P call draw n ro s mk = evC P call draw n ro c s mk
  | .skip, s, mk => rfl
  | .label _, s, mk => rfl
  | .exit _, s, mk => rfl
  | .goto _, s, mk => rfl
  | .ret, s, mk => rfl
  | .refuse _, s, mk => rfl
  | .rangeFunc g ps as body, s, mk => rfl
  | .region id ops false, s, mk => by
    show wrapS (evListR ops.toList P call ops n s) mk = _
    rw [evListR_eq]
    simp only [evC]
    cases evList P call ops n ops.toList s <;> rfl
  | .region id ops true, s, mk => by
    show wrapS (draw ops n s) mk = _
    simp only [evC]
    cases draw ops n s <;> rfl
  | .seq x y, s, mk => by
    show thenS (evR x P call draw n ro s mk) (evR y P call draw n ro) = _
    rw [evR_op P call draw n ro x]
    simp only [evC]
    cases evC P call draw n ro x s mk with
    | none => rfl
    | some r =>
      obtain ⟨ex, s', mk'⟩ := r
      cases ex with
      | normal => exact evR_op P call draw n ro y s' mk'
      | exit id => rfl
      | goto l => rfl
      | ret => rfl
  | .cond c x y, s, mk => by
    show pickS (evO s.tm c) (evR x P call draw n ro s mk) (evR y P call draw n ro s mk) = _
    rw [evR_op P call draw n ro x, evR_op P call draw n ro y]
    simp only [evC]
    unfold pickS
    split <;> simp_all
  | .block id b, s, mk => by
    show blockS id (evR b P call draw n ro s mk) = _
    rw [evR_op P call draw n ro b]
    simp only [evC]
    rfl
  | .loop b, s, mk => by
    show loopR 100000 (evR b P call draw n ro) s mk = _
    rw [loopR_eq]
    have : evR b P call draw n ro = evC P call draw n ro b := by
      funext s mk
      exact evR_op P call draw n ro b s mk
    rw [this]
    simp only [evC]
  | .scope b, s, mk => by
    show jumpN (evLab P call draw n ro b) 10000 (evR b P call draw n ro s mk) = _
    rw [evR_op P call draw n ro b]
    simp only [evC]
def evRC (c : Code) : CT := fun P call draw n ro s mk => evC P call draw n ro c s mk
@[csimp] theorem evR_eq : @evR = @evRC := by
  funext c P call draw n ro s mk
  exact evR_op P call draw n ro c s mk
end Go.Proofs.Ytdammjolkcjogaa.Ev

/-! The evaluator: calls. -/
namespace Go.Proofs.Ytdammjolkcjogaa.Ev
open Go Go.RowKit
set_option linter.unusedVariables false
set_option linter.unusedSimpArgs false

def resL (P : Program) (s : St) : List ResultVar → Option (List V)
  | [] => some []
  | .tmp t :: l => (match s.tm.get t, resL P s l with
    | some v, some vs => some (v :: vs)
    | _, _ => none)
  | .cell a t :: l => (match s.tm.get a with
    | some (.ptr (some p)) => (match loadV P s.h t p, resL P s l with
      | some v, some vs => some (v :: vs)
      | _, _ => none)
    | _ => none)
def resV : List V → V
  | [v] => v
  | vs => .tuple vs
def closeV : H → List Nat → Option H
  | h, [] => some h
  | h, b :: mk => match h.getW b with
    | some .mark => closeV (h.set b none) mk
    | _ => none
def argTm : Nat → List V → Tr V → Tr V
  | _, [], t => t
  | i, v :: l, t => argTm (i + 1) l (t.set i (some v))
def foldPut (n : Nat) : Tr V → List Tmp → List V → Option (Tr V)
  | t, d :: ds, v :: vs => (match putO n t (some d) v with
    | some t' => foldPut n t' ds vs
    | none => none)
  | t, [], [] => some t
  | _, _, _ => none
def isReady : LoopState → Bool
  | .ready => true
  | _ => false
abbrev SpecT := FuncId → Option (H → List V → Option (V × H))
abbrev ExtT := FuncId → Option (H → List V → Option (V × H))
def evEnd (P : Program) (fn : Func) (s : St) (mk : List Nat) : Option (V × H) :=
  match closeV s.h mk with
  | some h' => (match resL P ⟨s.tm, h'⟩ fn.results.toList with
    | some vs => some (resV vs, h')
    | none => none)
  | none => none
def ofL {α : Type} : Nat → List α → Tr α → Tr α
  | _, [], t => t
  | i, v :: l, t => ofL (i + 1) l (t.set i (some v))
theorem ofL_get {α : Type} : ∀ (l : List α) (i : Nat) (t : Tr α) (j : Nat), (ofL i l t).get j = if i ≤ j ∧ j < i + l.length then l[j - i]? else t.get j
  | [], i, t, j => by simp [ofL]; intro h1 h2; omega
  | v :: l, i, t, j => by
    unfold ofL
    rw [ofL_get l (i + 1) _ j, Tr.get_set]
    by_cases h1 : j = i
    · subst h1
      rw [if_neg (by omega), if_pos rfl, if_pos (by simp only [List.length_cons]; omega)]
      simp
    · by_cases h2 : i + 1 ≤ j ∧ j < i + 1 + l.length
      · rw [if_pos h2, if_pos (by simp only [List.length_cons]; omega)]
        rw [show j - i = (j - (i + 1)) + 1 by omega]
        simp
      · rw [if_neg h2, if_neg h1, if_neg (by simp only [List.length_cons]; omega)]
/-- The functions, as a tree. -/
def funcT (P : Program) : Tr Func := ofL 0 P.funcs.toList .leaf
theorem funcT_get (P : Program) (g : FuncId) : (funcT P).get g = P.funcs[g]? := by
  unfold funcT
  rw [ofL_get]
  by_cases h : g < P.funcs.size
  · rw [if_pos (by simpa using h)]; simp
  · rw [if_neg (by simpa using h), Array.getElem?_eq_none (Nat.le_of_not_lt h)]; exact Tr.get_leaf g
/-- A function is entered. -/
def evFn (P : Program) (spec : SpecT) (call : CallT) (draw : DrawT) (g : FuncId) (args : List V) (h : H) : Option (V × H) :=
  match spec g with
  | some f => f h args
  | none => match (funcT P).get g with
    | some fn => (match fn.body with
      | some c => cond (Nat.ble args.length fn.ntmps) (match evR c P call draw fn.ntmps none ⟨argTm 0 args .leaf, h⟩ [] with
        | some (.normal, s, mk) => evEnd P fn s mk
        | some (.ret, s, mk) => evEnd P fn s mk
        | _ => none) none
      | none => none)
    | none => none
/-- A round of a loop over a function. -/
def evRound (P : Program) (call : CallT) (draw : DrawT) (l : Nat) (args : List V) (h : H) : Option (V × H) :=
  match h.get l with
  | some (.loop r) => (match foldPut r.ntm r.tmps r.params args with
    | some tm => (match evR r.assign P call draw r.ntm (some l) ⟨tm, h⟩ [] with
      | some (.normal, s1, mk1) => (match s1.h.getW l with
        | some (.loop r1) => cond (isReady r1.state) (match evR r.body P call draw r.ntm (some l) ⟨s1.tm, s1.h.set l (some (.loop { r1 with state := .busy }))⟩ mk1 with
          | some (ex, s2, _) => (match s2.h.getW l with
            | some (.loop r2) => some (.bool ex.jump.isNone, s2.h.set l (some (.loop { r2 with state := if ex.jump.isNone then .ready else .done, pending := ex.jump })))
            | _ => none)
          | none => none) none
        | _ => none)
      | _ => none)
    | none => none)
  | _ => none
def evCall (P : Program) (ext : ExtT) (spec : SpecT) (draw : CallT → DrawT) : Nat → CallT
  | 0 => fun _ _ => none
  | d + 1 => fun task h => match task with
    | .fn g args => evFn P spec (evCall P ext spec draw d) (draw (evCall P ext spec draw d)) g args h
    | .call g args => (match ext g with
      | some f => f h args
      | none => evFn P spec (evCall P ext spec draw d) (draw (evCall P ext spec draw d)) g args h)
    | .round l args => evRound P (evCall P ext spec draw d) (draw (evCall P ext spec draw d)) l args h
section
variable {P : Program} {w0 w w' : World} {e : E} {h : H}
theorem Rel.kill (R : Rel w0 e h w) {b k : Nat} {o : O} (hk : e.ρ b = some k) (hfz : True) (hb : h.get b = some o) (hg : w.grownBy w' (some k)) : Rel w0 e (h.set b none) w' where
  heap := fun b1 o1 k1 hb1 hk1 => by
    rw [H.get_set] at hb1
    by_cases q : b1 = b
    · rw [if_pos q] at hb1; cases hb1
    · rw [if_neg q] at hb1
      have hne : k1 ≠ k := fun e1 => by subst e1; exact q (R.inj b1 b k1 o1 o hk1 hk hb1 hb)
      rw [hg.block k1 (R.new _ _ hk1).2 (fun e1 => hne (by cases e1; rfl))]
      exact R.heap b1 o1 k1 hb1 hk1
  lt := R.lt
  klt := R.klt
  inj := (R.del b).inj
  new := fun b1 k1 q => ⟨((R.del b).new b1 k1 q).1, Nat.lt_of_lt_of_le (R.new b1 k1 q).2 hg.size⟩
  bel := grown_below R none hk hg
  fresh := (R.del b).fresh
  lim := R.lim
theorem close_ok {F : Fence} {m : Nat} {fn : Func} {tmps : Array Value} {Rr : Ending → World → Prop} {h' : H} : ∀ (mk : List Nat) (ds : List Deferred) (h : H) (w : World), drel e mk ds → Rel w0 e h w → closeV h mk = some h' →
    (∀ w', Rel w0 e h' w' → ∃ v, (results fn tmps).run P w' = .ok v w' ∧ Rr (.returned v) w') → LeavesInM F m P fn tmps Rr ds .returning w
  | [], ds, h, w, D, R, q, hf => by
    cases q
    have D : ds = [] := D
    subst D
    exact hf w R
  | b :: mk, _, h, w, ⟨k, r, h1, h2, h3⟩, R, q, hf => by
    subst h1
    unfold closeV at q
    split at q
    · rename_i hg
      obtain ⟨hfz, hg⟩ := H.getW_some hg
      refine ⟨fun hh => (by cases hh), .inl ⟨k, w.putObj k (.deferred none), rfl, run_takeDeferred (R.heap b _ k hg h2), close_ok mk r _ _ h3 (R.kill h2 hfz hg (grownBy_putObj' _ _ _)) q hf⟩⟩
    · cases q
def resM (tmps : Array Value) : ResultVar → Sem Value
  | .tmp t => pure (tmps.getD t undef)
  | .cell a t => do loadVar t (← asAddr (tmps.getD a undef))
theorem results_eq (fn : Func) (tmps : Array Value) : results fn tmps = (do
    let vs ← fn.results.mapM (resM tmps)
    pure (if h : vs.size = 1 then vs[0] else .tuple vs)) := by
  unfold results
  congr 1
theorem run_resL {s : St} {n : Nat} {tmps : Array Value} (R : Rel w0 e s.h w) (T : trel e s.tm n tmps) : ∀ (l : List ResultVar) (vs : List V), resL P s l = some vs →
    ∃ xs, (l.mapM (m := Sem) (resM tmps)).run P w = .ok xs w ∧ vrels e vs xs
  | [], vs, q => by cases q; exact ⟨[], rfl, vrels_nil.2 rfl⟩
  | .tmp t :: l, vs, q => by
    unfold resL at q
    split at q
    · rename_i v vs' h1 h2
      cases q
      obtain ⟨x, h3, h4⟩ := T.2 t v h1
      obtain ⟨xs, h5, h6⟩ := run_resL R T l vs' h2
      refine ⟨x :: xs, ?_, vrels_cons.2 ⟨x, xs, rfl, h4, h6⟩⟩
      simp only [List.mapM_cons, Sem.run_bind, Sem.run_pure, Result.andThen_ok, h5, resM]
      simp [h3]
    · cases q
  | .cell a t :: l, vs, q => by
    unfold resL at q
    split at q
    · rename_i p hp
      split at q
      · rename_i v vs' h1 h2
        cases q
        obtain ⟨b, o⟩ := p
        obtain ⟨x, h3, h4⟩ := T.2 a _ hp
        simp only [vrel] at h4
        obtain ⟨k, hk, rfl⟩ := h4
        obtain ⟨y, h7, h8⟩ := run_loadV (P := P) (a := (b, o)) R hk h1
        obtain ⟨xs, h5, h6⟩ := run_resL R T l vs' h2
        refine ⟨y :: xs, ?_, vrels_cons.2 ⟨y, xs, rfl, h8, h6⟩⟩
        have hd : tmps.getD a undef = .pointer (some ⟨k, o, none⟩) := by simp [h3]
        simp only [List.mapM_cons, Sem.run_bind, Sem.run_pure, Result.andThen_ok, resM, hd, asAddr, h7, h5]
      · cases q
    · cases q
theorem run_results {fn : Func} {s : St} {n : Nat} {tmps : Array Value} {vs : List V} (R : Rel w0 e s.h w) (T : trel e s.tm n tmps) (q : resL P s fn.results.toList = some vs) : ∃ x, (results fn tmps).run P w = .ok x w ∧ vrel e (resV vs) x := by
  obtain ⟨xs, h1, h2⟩ := run_resL (P := P) R T fn.results.toList vs q
  have hm : (fn.results.mapM (m := Sem) (resM tmps)).run P w = .ok ⟨xs⟩ w := by
    rw [Array.mapM_eq_mapM_toList]
    rw [Sem.run_map, h1]
    rfl
  rw [results_eq, Sem.run_bind, hm]
  simp only [Result.andThen_ok, Sem.run_pure]
  match vs, xs, h2 with
  | [v], xs, h2 =>
    obtain ⟨x, r, rfl, h3, h4⟩ := vrels_cons.1 h2
    obtain rfl := vrels_nil.1 h4
    exact ⟨x, by simp, h3⟩
  | [], xs, h2 =>
    obtain rfl := vrels_nil.1 h2
    exact ⟨.tuple #[], by simp, by simp only [resV, vrel]; exact ⟨[], rfl, vrels_nil.2 rfl⟩⟩
  | a :: b :: l, xs, h2 =>
    have hl := vrels_len h2
    refine ⟨.tuple ⟨xs⟩, ?_, by simp only [resV, vrel]; exact ⟨xs, rfl, h2⟩⟩
    rw [dif_neg (by simp at hl ⊢; omega)]
theorem argTm_get : ∀ (l : List V) (i : Nat) (t : Tr V) (j : Nat), (argTm i l t).get j = if i ≤ j ∧ j < i + l.length then l[j - i]? else t.get j
  | [], i, t, j => by simp [argTm]; intro h1 h2; omega
  | v :: l, i, t, j => by
    unfold argTm
    rw [argTm_get l (i + 1) _ j, Tr.get_set]
    by_cases h1 : j = i
    · subst h1
      rw [if_neg (by omega), if_pos rfl, if_pos (by simp only [List.length_cons]; omega)]
      simp
    · by_cases h2 : i + 1 ≤ j ∧ j < i + 1 + l.length
      · rw [if_pos h2, if_pos (by simp only [List.length_cons]; omega)]
        rw [show j - i = (j - (i + 1)) + 1 by omega]
        simp
      · rw [if_neg h2, if_neg h1, if_neg (by simp only [List.length_cons]; omega)]
theorem args_trel {args : List V} {xs : List Value} {n : Nat} (hv : vrels e args xs) (hn : args.length ≤ n) : trel e (argTm 0 args .leaf) n ((⟨xs⟩ : Array Value) ++ Array.replicate (n - (⟨xs⟩ : Array Value).size) undef) := by
  have hl := vrels_len hv
  refine ⟨by simp; omega, fun t v hg => ?_⟩
  rw [argTm_get] at hg
  split at hg
  · rename_i ht
    simp only [Nat.sub_zero] at hg
    obtain ⟨x, h1, h2⟩ := vrels_get t hv hg
    refine ⟨x, ?_, h2⟩
    rw [Array.getElem?_append_left (by simp; omega)]
    simpa using h1
  · rw [Tr.get_leaf] at hg; cases hg
theorem foldPut_ok {n : Nat} : ∀ (ds : List Tmp) (vs : List V) (xs : List Value) (t t' : Tr V) (tmps : Array Value), trel e t n tmps → vrels e vs xs → foldPut n t ds vs = some t' →
    vs.length = ds.length ∧ trel e t' n ((ds.zip xs).foldl (fun tmps (p : Tmp × Value) => tmps.setIfInBounds p.1 p.2) tmps)
  | [], [], xs, t, t', tmps, T, hv, q => by cases q; exact ⟨rfl, T⟩
  | [], v :: vs, xs, t, t', tmps, T, hv, q => by simp [foldPut] at q
  | d :: ds, [], xs, t, t', tmps, T, hv, q => by simp [foldPut] at q
  | d :: ds, v :: vs, xs, t, t', tmps, T, hv, q => by
    obtain ⟨x, r, rfl, h1, h2⟩ := vrels_cons.1 hv
    unfold foldPut at q
    split at q
    · rename_i t1 ht
      have T1 := putO_ok (a := { tmps := tmps, defers := [] }) (x := x) T (E.le.refl e) h1 ht
      obtain ⟨h3, h4⟩ := foldPut_ok ds vs r t1 t' _ T1 h2 q
      exact ⟨by simp [h3], by simpa [List.zip_cons_cons, Act.put] using h4⟩
    · cases q
/-- What the specially told functions are asked. -/
def SpecOk (P : Program) (spec : SpecT) : Prop := ∀ g f, spec g = some f → (∃ fn, P.funcs[g]? = some fn ∧ fn.body.isNone = false) ∧ ∀ w0 e h w args v h', f h args = some (v, h') → Rel w0 e h w → ∀ xs, vrels e args xs → ∀ n, CallsIn Fence.wide n P g ⟨xs⟩ w (CallPost w0 e v h')
def ExtOk (P : Program) (ext : ExtT) : Prop := ∀ g f, ext g = some f → ∀ w0 e h w args v h', f h args = some (v, h') → Rel w0 e h w → ∀ xs, vrels e args xs → ∃ e' x w', (callFunc g ⟨xs⟩).run P w = .ok (.value x) w' ∧ e.le e' ∧ vrel e' v x ∧ Rel w0 e' h' w'
theorem evFn_ok {spec : SpecT} {call : CallT} {draw : DrawT} (hnm : ∀ (g : FuncId) (fn : Func), P.funcs[g]? = some fn → (fn.name == "runtime.NumGoroutine") = false) (hsp : SpecOk P spec) (hc : CallOk P call) (hd : DrawOk P call draw) {g : FuncId} {args : List V} {v : V} {h' : H}
    (q : evFn P spec call draw g args h = some (v, h')) (R : Rel w0 e h w) (xs : List Value) (hv : vrels e args xs) :
    (∃ fn, P.funcs[g]? = some fn ∧ fn.body.isNone = false ∧ (fn.name == "runtime.NumGoroutine") = false) ∧ ∀ n, CallsIn Fence.wide n P g ⟨xs⟩ w (CallPost w0 e v h') := by
  unfold evFn at q
  split at q
  · rename_i f hf
    obtain ⟨⟨fn, g1, g2⟩, g3⟩ := hsp g f hf
    exact ⟨⟨fn, g1, g2, hnm g fn g1⟩, g3 w0 e h w args v h' q R xs hv⟩
  · split at q
    · rename_i fn hfn
      have hfn := (funcT_get P g).symm.trans hfn
      split at q
      · rename_i c hb
        cases hle : Nat.ble args.length fn.ntmps with
        | false => rw [hle] at q; cases q
        | true =>
          rw [hle] at q
          simp only [cond_true] at q
          have hle := Nat.le_of_ble_eq_true hle
          refine ⟨⟨fn, hfn, by rw [hb]; rfl, hnm g fn hfn⟩, fun m => ?_⟩
          have T := args_trel hv hle
          have fin : ∀ (ex : Ex) (s : St) (mk : List Nat), evC P call draw fn.ntmps none c ⟨argTm 0 args .leaf, h⟩ [] = some (ex, s, mk) → (ex = .normal ∨ ex = .ret) →
              evEnd P fn s mk = some (v, h') → CallsIn Fence.wide m P g ⟨xs⟩ w (CallPost w0 e v h') := by
            intro ex s mk hev hex hq
            refine callsIn_of_wp_marks hfn hb trivial ?_
            refine evC_ok hc hd c _ _ _ _ _ _ _ _ _ _ _ _ _ _ (show FRel e none Fence.wide from rfl) (⟨T, R⟩ : SRel w0 e fn.ntmps ⟨argTm 0 args .leaf, h⟩ _ w) (show drel e [] [] from rfl) hev (fun e' a' w' h1 h2 h3 => ?_)
            have leave : LeavesInM Fence.wide m P fn a'.tmps (CallPost w0 e v h') a'.defers .returning w' := by
              unfold evEnd at hq
              split at hq
              · rename_i h2' hcl
                split at hq
                · rename_i vs hrs
                  cases hq
                  refine close_ok mk _ _ _ h3 h2.r hcl (fun w2 R2 => ?_)
                  obtain ⟨x, r1, r2⟩ := run_results (P := P) (s := ⟨s.tm, h'⟩) R2 h2.t hrs
                  exact ⟨x, r1, e', x, rfl, h1, r2, R2⟩
                · cases hq
              · cases hq
            rcases hex with rfl | rfl
            · exact leave
            · exact leave
          split at q
          · rename_i s mk hev; exact fin _ s mk ((evR_op _ _ _ _ _ _ _ _).symm.trans hev) (.inl rfl) q
          · rename_i s mk hev; exact fin _ s mk ((evR_op _ _ _ _ _ _ _ _).symm.trans hev) (.inr rfl) q
          · cases q
      · cases q
    · cases q
theorem evRound_ok {call : CallT} {draw : DrawT} (hc : CallOk P call) (hd : DrawOk P call draw) {l k : Nat} {args : List V} {v : V} {h' : H} (q : evRound P call draw l args h = some (v, h')) (R : Rel w0 e h w) (hk : e.ρ l = some k) (xs : List Value) (hv : vrels e args xs) :
    ∃ fn tmps assign body, (Instr.yield k ⟨xs⟩).run P w = .ok (.round k fn tmps assign body) w ∧ ∀ n, RoundIn Fence.wide n P k fn tmps assign body w (CallPost w0 e v h') := by
  unfold evRound at q
  split at q
  · rename_i r hg
    obtain ⟨fn, tmps, dk, g1, g2, g3⟩ := R.heap l _ k hg hk
    split at q
    · rename_i tm hfp
      obtain ⟨hlen, T⟩ := foldPut_ok r.params args xs r.tmps tm tmps g2 hv hfp
      have hy := run_yield (P := P) (args := ⟨xs⟩) g1 (by have := vrels_len hv; simp; omega)
      refine ⟨fn, _, _, _, hy, fun m => ?_⟩
      have T' : trel e tm r.ntm (((⟨r.params⟩ : Array Tmp).zip ⟨xs⟩).foldl (fun tmps (t, a) => tmps.setIfInBounds t a) tmps) := by
        rw [← Array.foldl_toList]
        simpa using T
      refine roundIn_of_wpIn trivial ?_
      split at q
      · rename_i s1 mk1 hev1
        refine evC_ok hc hd r.assign _ _ _ _ _ _ _ _ _ _ _ _ _ _ (show FRel e (some l) (Fence.wide.inRound k) from ⟨k, hk, rfl⟩) (⟨T', R⟩ : SRel w0 e r.ntm ⟨tm, h⟩ _ w) (show drel e [] [] from rfl) ((evR_op _ _ _ _ _ _ _ _).symm.trans hev1) (fun e1 a1 w1 h1 h2 h3 => ?_)
        split at q
        · rename_i r1 hg1
          obtain ⟨hf1, hg1⟩ := H.getW_some hg1
          cases hrd : isReady r1.state with
          | false => rw [hrd] at q; cases q
          | true =>
            rw [hrd] at q
            simp only [cond_true] at q
            have hk1 := h1.ρ _ _ hk
            obtain ⟨fn1, tmps1, dk1, p1, p2, p3⟩ := h2.r.heap l _ k hg1 hk1
            have hst : r1.state = .ready := by cases hh : r1.state <;> rw [hh] at hrd <;> first | rfl | cases hrd
            refine ⟨_, run_beginRound (P := P) p1 hst, ?_⟩
            have R2 : Rel w0 e1 (s1.h.set l (some (.loop { r1 with state := .busy }))) (w1.putObj k _) := h2.r.upd hk1 hf1 hg1 (grownBy_putObj' _ _ _) (by rw [World.putObj_heap_same (h2.r.new _ _ hk1).2]; exact ⟨fn1, tmps1, dk1, rfl, p2, p3⟩)
            split at q
            · rename_i ex s2 mk2 hev2
              split at q
              · rename_i r2 hg2
                obtain ⟨hf2, hg2⟩ := H.getW_some hg2
                cases q
                refine evC_ok hc hd r.body _ _ _ _ _ _ _ _ _ _ _ _ _ _ (show FRel e1 (some l) (Fence.wide.inRound k) from ⟨k, hk1, rfl⟩) (⟨h2.t, R2⟩ : SRel w0 e1 r.ntm ⟨s1.tm, s1.h.set l (some (.loop { r1 with state := .busy }))⟩ a1 _) h3 ((evR_op _ _ _ _ _ _ _ _).symm.trans hev2) (fun e2 a2 w2 h4 h5 h6 => ?_)
                · have hk2 := h4.ρ _ _ hk1
                  obtain ⟨fn2, tmps2, dk2, t1, t2, t3⟩ := h5.r.heap l _ k hg2 hk2
                  have hend := run_endRound (P := P) ex.jump t1
                  have R3 : Rel w0 e2 (s2.h.set l (some (.loop { r2 with state := if ex.jump.isNone then .ready else .done, pending := ex.jump }))) (w2.putObj k _) := h5.r.upd hk2 hf2 hg2 (grownBy_putObj' _ _ _) (by rw [World.putObj_heap_same (h5.r.new _ _ hk2).2]; exact ⟨fn2, tmps2, dk2, rfl, t2, t3⟩)
                  have fin : CallPost w0 e (.bool ex.jump.isNone) _ (.returned (.bool ex.jump.isNone)) (w2.putObj k _) := ⟨e2, _, rfl, h1.trans h4, by simp only [vrel], R3⟩
                  cases ex with
                  | normal => exact ⟨_, _, hend, fin⟩
                  | exit id => exact ⟨_, _, hend, fin⟩
                  | goto l => exact ⟨_, _, hend, fin⟩
                  | ret => exact ⟨_, _, hend, fin⟩
              · cases q
            · cases q
        · cases q
      · cases q
    · cases q
  · cases q
theorem evCall_ok {ext : ExtT} {spec : SpecT} {draw : CallT → DrawT} (hnm : ∀ (g : FuncId) (fn : Func), P.funcs[g]? = some fn → (fn.name == "runtime.NumGoroutine") = false) (hex : ExtOk P ext) (hsp : SpecOk P spec) (hdr : ∀ call, CallOk P call → DrawOk P call (draw call)) : ∀ d, CallOk P (evCall P ext spec draw d)
  | 0 => ⟨fun q => by simp [evCall] at q, fun q => by simp [evCall] at q, fun q => by simp [evCall] at q⟩
  | d + 1 => by
    have hc := evCall_ok hnm hex hsp hdr d
    have hd := hdr _ hc
    constructor
    · intro w0 e h w g args v h' q R xs hv
      exact evFn_ok hnm hsp hc hd q R xs hv
    · intro w0 e h w g args v h' q R xs hv
      simp only [evCall] at q
      split at q
      · rename_i f hf
        exact .inr (hex g f hf w0 e h w args v h' q R xs hv)
      · exact .inl (evFn_ok hnm hsp hc hd q R xs hv)
    · intro w0 e h w l args v h' k q R hk xs hv
      exact evRound_ok hc hd q R hk xs hv
end
end Go.Proofs.Ytdammjolkcjogaa.Ev

/-! The evaluator: a region whose order Go leaves open: one order is gone; what may come later is held against what it was. -/
namespace Go.Proofs.Ytdammjolkcjogaa.Ev
open Go Go.RowKit
set_option linter.unusedVariables false
set_option linter.unusedSimpArgs false

def sameC : Cap → Cap → Bool
  | .exact a, .exact b => Nat.beq a b
  | .upto a m, .upto b m' => Nat.beq a b && Nat.beq m m'
  | .tail a, .tail b => Nat.beq a b
  | _, _ => false
def sameA : Option (Nat × Nat) → Option (Nat × Nat) → Bool
  | none, none => true
  | some a, some b => Nat.beq a.1 b.1 && Nat.beq a.2 b.2
  | _, _ => false
theorem sameC_eq : ∀ {a b : Cap}, sameC a b = true → a = b
  | .exact a, .exact b, h => congrArg _ (Nat.eq_of_beq_eq_true h)
  | .upto a m, .upto b m', h => by
    simp only [sameC, Bool.and_eq_true] at h
    rw [Nat.eq_of_beq_eq_true h.1, Nat.eq_of_beq_eq_true h.2]
  | .tail a, .tail b, h => congrArg _ (Nat.eq_of_beq_eq_true h)
  | .exact _, .upto _ _, h => nomatch h
  | .exact _, .tail _, h => nomatch h
  | .upto _ _, .exact _, h => nomatch h
  | .upto _ _, .tail _, h => nomatch h
  | .tail _, .exact _, h => nomatch h
  | .tail _, .upto _ _, h => nomatch h
theorem sameA_eq : ∀ {a b : Option (Nat × Nat)}, sameA a b = true → a = b
  | none, none, _ => rfl
  | some (a, b), some (c, d), h => by
    simp only [sameA, Bool.and_eq_true] at h
    rw [Nat.eq_of_beq_eq_true h.1, Nat.eq_of_beq_eq_true h.2]
  | none, some _, h => nomatch h
  | some _, none, h => nomatch h
mutual
def sameV : V → V → Bool
  | .bool a, .bool b => decide (a = b)
  | .int k a, .int k' b => decide (k = k') && decide (a = b)
  | .str a, .str b => decide (a = b)
  | .ptr a, .ptr b => sameA a b
  | .slice a n c, .slice a' n' c' => sameA a a' && Nat.beq n n' && sameC c c'
  | .map a, .map b => sameLs a b
  | .func fn f c, .func fn' f' c' => decide (fn = fn') && sameVs f f' && sameVs c c'
  | .yield a, .yield b => Nat.beq a b
  | .nilFunc, .nilFunc => true
  | .iface t x, .iface u y => Nat.beq t u && sameV x y
  | .nilIface, .nilIface => true
  | .agg a, .agg b => sameVs a b
  | .tuple a, .tuple b => sameVs a b
  | .stamp a, .stamp b => Nat.beq a b
  | .junk, .junk => true
  | _, _ => false
def sameVs : List V → List V → Bool
  | [], [] => true
  | a :: l, b :: r => sameV a b && sameVs l r
  | _, _ => false
end
mutual
theorem sameV_eq : ∀ (a b : V), sameV a b = true → a = b
  | .bool a, b, h => by cases b <;> simp [sameV] at h; rw [h]
  | .int k a, b, h => by
    cases b <;> simp [sameV] at h
    rw [h.1, h.2]
  | .str a, b, h => by cases b <;> simp [sameV] at h; rw [h]
  | .ptr a, b, h => by cases b <;> simp [sameV] at h; rw [sameA_eq h]
  | .slice a n c, b, h => by
    cases b <;> simp only [sameV, Bool.and_eq_true] at h <;> first
      | (rw [sameA_eq h.1.1, Nat.eq_of_beq_eq_true h.1.2, sameC_eq h.2])
      | (cases h)
  | .map a, b, h => by cases b <;> simp [sameV] at h; rw [sameLs_eq h]
  | .func fn f c, b, h => by
    cases b <;> simp only [sameV, Bool.and_eq_true, decide_eq_true_eq] at h <;> first
      | (rw [h.1.1, sameVs_eq f _ h.1.2, sameVs_eq c _ h.2])
      | (cases h)
  | .yield a, b, h => by cases b <;> simp [sameV] at h; rw [h]
  | .nilFunc, b, h => by cases b <;> simp [sameV] at h; rfl
  | .iface t x, b, h => by
    cases b <;> simp only [sameV, Bool.and_eq_true] at h <;> first
      | (rw [Nat.eq_of_beq_eq_true h.1, sameV_eq x _ h.2])
      | (cases h)
  | .nilIface, b, h => by cases b <;> simp [sameV] at h; rfl
  | .agg a, b, h => by cases b <;> simp [sameV] at h; rw [sameVs_eq a _ h]
  | .tuple a, b, h => by cases b <;> simp [sameV] at h; rw [sameVs_eq a _ h]
  | .stamp a, b, h => by cases b <;> simp [sameV] at h; rw [h]
  | .junk, b, h => by cases b <;> simp [sameV] at h; rfl
theorem sameVs_eq : ∀ (a b : List V), sameVs a b = true → a = b
  | [], [], _ => rfl
  | [], _ :: _, h => by simp [sameVs] at h
  | _ :: _, [], h => by simp [sameVs] at h
  | a :: l, b :: r, h => by
    simp only [sameVs, Bool.and_eq_true] at h
    rw [sameV_eq a b h.1, sameVs_eq l r h.2]
end
def sameO : O → O → Bool
  | .cells l t none, .cells l' t' none => sameVs l l' && Nat.beq t t'
  | .map [] none, .map [] none => true
  | .iter m o s ls, .iter m' o' s' ls' => sameLs m m' && decide (o = o') && decide (s = s') && sameLs ls ls'
  | _, _ => false
theorem sameO_eq : ∀ (a b : O), sameO a b = true → a = b := by
  intro a b h
  unfold sameO at h
  split at h
  · simp only [Bool.and_eq_true] at h
    rw [sameVs_eq _ _ h.1, Nat.eq_of_beq_eq_true h.2]
  · rfl
  · simp only [Bool.and_eq_true, decide_eq_true_eq] at h
    rw [sameLs_eq h.1.1.1, h.1.1.2, h.1.2, sameLs_eq h.2]
  · cases h
/-- An operation, its place, and all that come ahead of it, as bits. -/
structure It where
  i : Nat
  o : Oper
  m : Nat
def maskOf (ms : List Nat) (o : Oper) : Nat := o.after.toList.foldl (fun s (ed : Edge) => cond (Region.binds .any ed) (s ||| (2 ^ ed.on ||| ms.getD ed.on 0)) s) 0
def itemsGo : Nat → List Oper → List Nat → List It
  | _, [], _ => []
  | i, o :: l, ms => ⟨i, o, maskOf ms o⟩ :: itemsGo (i + 1) l (ms ++ [maskOf ms o])
inductive PK where
  | val (v : V)
  | new (b : Nat) (ob : O) (v : V)
  | skip
structure PI where
  i : Nat
  o : Oper
  k : PK
def PK.v : PK → V
  | .val v => v
  | .new _ _ v => v
  | .skip => .tuple []
def isTrue : Option Bool → Bool
  | some true => true
  | _ => false
def isFalse : Option Bool → Bool
  | some false => true
  | _ => false
def isEff (op : Op) : Bool :=
  match op with
  | .assign _ => true
  | op => (match cls op with
    | .eff => true
    | _ => false)
/-- Would an operation that has come up ahead of others come to the same behind them? -/
def chk (P : Program) (ops : Array Oper) (n : Nat) (s : St) (p : PI) : Bool :=
  (match p.o.dst with
    | none => true
    | some d => Nat.blt d n && (match s.tm.get d with
      | some u => sameV u p.k.v
      | none => false)) &&
  (match p.k with
    | .val v => !isEff p.o.op && isTrue (wantV ops s.tm p.o) && (match cls p.o.op, pureOp P s.h s.tm p.o.op with
      | .pure, some v' => sameV v' v
      | _, _ => false)
    | .new b ob v => !isEff p.o.op && isTrue (wantV ops s.tm p.o) && (match cls p.o.op, allocOp P s.h s.tm p.o.op with
      | .alloc, some (ob', mk) => sameO ob' ob && sameV (mk b) v
      | _, _ => false) && (match s.h.get b with
        | some ob' => sameO ob' ob
        | none => false)
    | .skip => isFalse (wantV ops s.tm p.o))
def rdy (done : Nat) (it : It) : Bool := !(done.testBit it.i) && Nat.beq (it.m &&& done) it.m
def freeB (ops : Array Oper) (s : St) (it : It) : Bool :=
  match wantV ops s.tm it.o with
  | some false => true
  | some true => !isEff it.o.op
  | none => false
def ssaB (ops : Array Oper) (its : List It) : Bool :=
  its.all fun p => match p.o.dst with
    | none => true
    | some d => (isEff p.o.op && p.o.guard.isNone) || its.all fun q => (Nat.beq p.i q.i || (match q.o.dst with
      | some d' => !Nat.beq d' d
      | none => true)) && (!((q.o.looksAt ops).contains d) || q.m.testBit p.i)
def lowB (its : List It) : Bool := its.all fun it => it.o.after.toList.all fun ed => !(Region.binds .any ed) || Nat.blt ed.on it.i
/-- An operation that has come up ahead of others. -/
def freeS (P : Program) (ops : Array Oper) (n : Nat) (s : St) (it : It) : Option (St × PK) :=
  match wantV ops s.tm it.o with
  | some false => (match putO n s.tm it.o.dst (.tuple []) with
    | some tm => some (⟨tm, s.h⟩, .skip)
    | none => none)
  | some true => (match cls it.o.op with
    | .pure => (match pureOp P s.h s.tm it.o.op with
      | some v => (match putO n s.tm it.o.dst v with
        | some tm => some (⟨tm, s.h⟩, .val v)
        | none => none)
      | none => none)
    | .alloc => (match allocOp P s.h s.tm it.o.op with
      | some (ob, mk) => (match putO n s.tm it.o.dst (mk s.h.nxt) with
        | some tm => some (⟨tm, s.h.new ob⟩, .new s.h.nxt ob (mk s.h.nxt))
        | none => none)
      | none => none)
    | .eff => none)
  | none => none
def stepD (P : Program) (call : CallT) (ops : Array Oper) (n : Nat) (its : List It) : Nat → Nat → List PI → St → Option St
  | 0, _, _, _ => none
  | f + 1, done, pend, s =>
    match its.find? (fun it => rdy done it && freeB ops s it) with
    | some it => (match freeS P ops n s it with
      | some (s', k) => cond ((⟨it.i, it.o, k⟩ :: pend).all (chk P ops n s')) (stepD P call ops n its f (done ||| 2 ^ it.i) (⟨it.i, it.o, k⟩ :: pend) s') none
      | none => none)
    | none => (match its.filter (rdy done) with
      | [it] => (match step1 P call ops n it.o s with
        | some s' => cond ((pend.filter fun p => !(it.m.testBit p.i)).all (chk P ops n s')) (stepD P call ops n its f (done ||| 2 ^ it.i) (pend.filter fun p => !(it.m.testBit p.i)) s') none
        | none => none)
      | [] => cond (its.all fun it => done.testBit it.i) (some s) none
      | _ => none)
def drawV (P : Program) (call : CallT) : DrawT := fun ops n s =>
  cond (ssaB ops (itemsGo 0 ops.toList []) && lowB (itemsGo 0 ops.toList [])) (stepD P call ops n (itemsGo 0 ops.toList []) (ops.size + 1) 0 [] s) none
end Go.Proofs.Ytdammjolkcjogaa.Ev

/-! The evaluator: the region that draws is sound. -/
namespace Go.Proofs.Ytdammjolkcjogaa.Ev
open Go Go.RowKit
set_option linter.unusedVariables false
set_option linter.unusedSimpArgs false

theorem maskOf_bit {ms : List Nat} {o : Oper} {j : Nat} (h : (maskOf ms o).testBit j = true) : ∃ ed ∈ o.after, Region.binds .any ed = true ∧ (j = ed.on ∨ (ms.getD ed.on 0).testBit j = true) := by
  unfold maskOf at h
  have key : ∀ (l : List Edge) (s : Nat), (l.foldl (fun s (ed : Edge) => cond (Region.binds .any ed) (s ||| (2 ^ ed.on ||| ms.getD ed.on 0)) s) s).testBit j = true → s.testBit j = true ∨ ∃ ed ∈ l, Region.binds .any ed = true ∧ (j = ed.on ∨ (ms.getD ed.on 0).testBit j = true) := by
    intro l
    induction l with
    | nil => intro s hs; exact .inl hs
    | cons ed l ih =>
      intro s hs
      simp only [List.foldl_cons] at hs
      rcases ih _ hs with h1 | ⟨e2, h2, h3⟩
      · cases hb : Region.binds .any ed with
        | false => rw [hb] at h1; exact .inl h1
        | true =>
          rw [hb] at h1
          simp only [cond_true, Nat.testBit_or, Bool.or_eq_true, Nat.testBit_two_pow, decide_eq_true_eq] at h1
          rcases h1 with h1 | h1 | h1
          · exact .inl h1
          · exact .inr ⟨ed, by simp, hb, .inl h1.symm⟩
          · exact .inr ⟨ed, by simp, hb, .inr h1⟩
      · exact .inr ⟨e2, by simp [h2], h3⟩
  rcases key o.after.toList 0 h with h1 | ⟨ed, h1, h2⟩
  · simp at h1
  · exact ⟨ed, by simpa using h1, h2⟩
theorem items_mem : ∀ (l : List Oper) (i : Nat) (ms : List Nat) (it : It), it ∈ itemsGo i l ms → ∃ k, it.i = i + k ∧ l[k]? = some it.o
  | [], i, ms, it, h => by cases h
  | o :: l, i, ms, it, h => by
    rcases List.mem_cons.1 h with rfl | h
    · exact ⟨0, rfl, rfl⟩
    · obtain ⟨k, h1, h2⟩ := items_mem l (i + 1) _ it h
      exact ⟨k + 1, by omega, by simpa using h2⟩
theorem items_ex : ∀ (l : List Oper) (i : Nat) (ms : List Nat) (k : Nat) (o : Oper), l[k]? = some o → ∃ it ∈ itemsGo i l ms, it.i = i + k ∧ it.o = o
  | [], i, ms, k, o, h => by simp at h
  | o' :: l, i, ms, 0, o, h => by
    simp at h
    subst h
    exact ⟨_, List.mem_cons_self, rfl, rfl⟩
  | o' :: l, i, ms, k + 1, o, h => by
    simp at h
    obtain ⟨it, h1, h2, h3⟩ := items_ex l (i + 1) (ms ++ [maskOf ms o']) k o h
    exact ⟨it, List.mem_cons_of_mem _ h1, by omega, h3⟩
theorem items_mask (D : Nat → Prop) : ∀ (l : List Oper) (i : Nat) (ms : List Nat), ms.length = i → (∀ k, k < i → D k → ∀ j, (ms.getD k 0).testBit j = true → D j) → (∀ k o, l[k]? = some o → D (i + k) → ∀ ed ∈ o.after, Region.binds .any ed = true → D ed.on) →
    ∀ it ∈ itemsGo i l ms, (∀ ed ∈ it.o.after, Region.binds .any ed = true → D ed.on) → ∀ j, it.m.testBit j = true → D j
  | [], i, ms, _, _, _, it, h, _, _, _ => by cases h
  | o :: l, i, ms, hl, hms, hcl, it, h, hp, j, hj => by
    have head : (∀ ed ∈ o.after, Region.binds .any ed = true → D ed.on) → ∀ j, (maskOf ms o).testBit j = true → D j := by
      intro hp j hj
      obtain ⟨ed, h1, h2, h3⟩ := maskOf_bit hj
      rcases h3 with rfl | h3
      · exact hp ed h1 h2
      · by_cases hlt : ed.on < i
        · exact hms ed.on hlt (hp ed h1 h2) j h3
        · rw [List.getD_eq_getElem?_getD, List.getElem?_eq_none (by omega)] at h3
          simp at h3
    rcases List.mem_cons.1 h with rfl | h
    · exact head hp j hj
    · refine items_mask D l (i + 1) (ms ++ [maskOf ms o]) (by simp [hl]) ?_ (fun k o' hk hd => hcl (k + 1) o' (by simpa using hk) (by rw [show i + (k + 1) = i + 1 + k by omega]; exact hd)) it h hp j hj
      intro k hk hd j hj
      by_cases hlt : k < i
      · rw [List.getD_eq_getElem?_getD, List.getElem?_append_left (by omega)] at hj
        exact hms k hlt hd j (by rw [List.getD_eq_getElem?_getD]; exact hj)
      · obtain rfl : k = i := by omega
        rw [List.getD_eq_getElem?_getD, List.getElem?_append_right (by omega)] at hj
        simp [hl] at hj
        exact head (hcl 0 o rfl (by simpa using hd)) j hj
theorem wantV_look {e : E} {ops : Array Oper} {tm : Tr V} {o : Oper} {b : Bool} {tmps : Array Value} (ht : ∀ t ∈ o.looksAt ops, ∀ v, tm.get t = some v → ∃ x, tmps[t]? = some x ∧ vrel e v x) (q : wantV ops tm o = some b) : Region.wanted o (yielded ops tmps) = b := by
  unfold wantV at q
  unfold Region.wanted
  split at q
  · rename_i hg
    cases q
    rw [hg]
  · rename_i j t hg
    rw [hg]
    split at q
    · cases q
    · rename_i oj hj
      split at q
      · cases q
      · rename_i d hd
        have hdl : d ∈ o.looksAt ops := by
          unfold Oper.looksAt
          rw [hg]
          simp [hj, hd]
        split at q
        · rename_i b' hb
          cases q
          obtain ⟨x, h1, h2⟩ := ht d hdl _ hb
          simp only [vrel] at h2
          subst h2
          simp [yielded, hj, hd, h1]
        · rename_i hb
          cases q
          obtain ⟨x, h1, h2⟩ := ht d hdl _ hb
          simp only [vrel] at h2
          obtain ⟨vs, rfl, h3⟩ := h2
          simp [yielded, hj, hd, h1]
        · cases q
theorem getD_set_self {listed : Array Bool} {i : Nat} (h : listed.getD i true = false) : (listed.setIfInBounds i true).getD i false = true := by
  have hlt : i < listed.size := by
    rcases Nat.lt_or_ge i listed.size with h' | h'
    · exact h'
    · simp [Array.getElem?_eq_none h'] at h
  simp [hlt]
theorem unl {listed : Array Bool} {i : Nat} (h : listed.getD i true = false) : listed.getD i false = false := by
  rcases Nat.lt_or_ge i listed.size with h' | h'
  · simpa [h'] using h
  · simp [Array.getElem?_eq_none h']
/-- How many have not come up. -/
def cnt : List Nat → Array Bool → Nat
  | [], _ => 0
  | i :: l, listed => (if listed.getD i true = true then 0 else 1) + cnt l listed
theorem set_true {listed : Array Bool} (i : Nat) : (listed.setIfInBounds i true).getD i true = true := by
  by_cases hlt : i < listed.size
  · simp [hlt]
  · simp [Array.getElem?_eq_none (show (listed.setIfInBounds i true).size ≤ i by simp; omega)]
theorem cnt_le (listed : Array Bool) (i : Nat) : ∀ l : List Nat, cnt l (listed.setIfInBounds i true) ≤ cnt l listed
  | [] => Nat.le_refl _
  | j :: l => by
    have ih := cnt_le listed i l
    unfold cnt
    by_cases hj : i = j
    · subst hj
      rw [set_true, if_pos rfl]
      omega
    · rw [getD_set_ne true hj]
      omega
theorem cnt_lt {listed : Array Bool} {i : Nat} (h : listed.getD i true = false) : ∀ l : List Nat, i ∈ l → cnt l (listed.setIfInBounds i true) < cnt l listed
  | [], hm => by cases hm
  | j :: l, hm => by
    unfold cnt
    by_cases hj : i = j
    · subst hj
      have := cnt_le listed i l
      rw [set_true, if_pos rfl, h, if_neg (by simp)]
      omega
    · rw [getD_set_ne true hj]
      rcases List.mem_cons.1 hm with rfl | hm
      · exact absurd rfl hj
      · have := cnt_lt h l hm
        omega
theorem cnt_zero {listed : Array Bool} : ∀ l : List Nat, cnt l listed = 0 → ∀ i ∈ l, listed.getD i true = true
  | [], _, i, hm => by cases hm
  | j :: l, h, i, hm => by
    unfold cnt at h
    rcases List.mem_cons.1 hm with rfl | hm
    · by_cases hq : listed.getD i true = true
      · exact hq
      · rw [if_neg hq] at h; omega
    · exact cnt_zero l (by omega) i hm
/-- Where a region stands: what has come up ('listed'), and what the evaluator has done ('done'). -/
structure Inv (P : Program) (ops : Array Oper) (n : Nat) (w0 : World) (e0 : E) (dfs : List Deferred) (listed : Array Bool) (done : Nat) (pend : List PI) (s : St) (e : E) (a : Act) (w : World) : Prop where
  size : listed.size = ops.size
  sub : ∀ i, listed.getD i false = true → done.testBit i = true
  pnd : ∀ i, i < ops.size → done.testBit i = true → listed.getD i false = false → ∃ p ∈ pend, p.i = i
  mem : ∀ p ∈ pend, ops[p.i]? = some p.o
  pdn : ∀ p ∈ pend, done.testBit p.i = true
  chk : ∀ p ∈ pend, chk P ops n s p = true
  clo : ∀ i o, ops[i]? = some o → listed.getD i false = true → ∀ ed ∈ o.after, Region.binds .any ed = true → listed.getD ed.on false = true
  tsz : a.tmps.size = n
  tr : ∀ t v, s.tm.get t = some v → (∀ p ∈ pend, listed.getD p.i false = false → p.o.dst ≠ some t) → ∃ x, a.tmps[t]? = some x ∧ vrel e v x
  rel : Rel w0 e s.h w
  new : ∀ p ∈ pend, listed.getD p.i false = false → ∀ b ob v, p.k = .new b ob v → e.ρ b = none ∧ e.κ b = none ∧ b < s.h.nxt ∧ e0.lim ≤ b
  dis : ∀ p ∈ pend, ∀ p' ∈ pend, ∀ b ob v ob' v', p.k = .new b ob v → p'.k = .new b ob' v' → p.i = p'.i
  nlt : ∀ p ∈ pend, ∀ b ob v, p.k = .new b ob v → b < s.h.nxt
  le : e0.le e
  dfs : a.defers = dfs
section
variable {P : Program} {ops : Array Oper} {n : Nat} {w0 w : World} {e0 e : E} {dfs : List Deferred} {listed : Array Bool} {done : Nat} {pend : List PI} {s : St} {a : Act}
theorem Inv.mask (I : Inv P ops n w0 e0 dfs listed done pend s e a w) {it : It} (hit : it ∈ itemsGo 0 ops.toList []) (hp : ∀ ed ∈ it.o.after, Region.binds .any ed = true → listed.getD ed.on false = true) : ∀ j, it.m.testBit j = true → listed.getD j false = true :=
  items_mask (fun j => listed.getD j false = true) ops.toList 0 [] rfl (fun k hk => absurd hk (Nat.not_lt_zero k)) (fun k o hk hd => I.clo k o (by simpa using hk) (by simpa using hd)) it hit hp
theorem not_eff (I : Inv P ops n w0 e0 dfs listed done pend s e a w) {p : PI} (hp : p ∈ pend) : (isEff p.o.op && p.o.guard.isNone) = false := by
  have hc := I.chk p hp
  unfold Ev.chk at hc
  simp only [Bool.and_eq_true] at hc
  obtain ⟨_, hc⟩ := hc
  split at hc
  · simp only [Bool.and_eq_true] at hc
    have := hc.1.1
    simp at this
    simp [this]
  · simp only [Bool.and_eq_true] at hc
    have := hc.1.1.1
    simp at this
    simp [this]
  · cases hg : p.o.guard with
    | none =>
      have : wantV ops s.tm p.o = some true := by unfold wantV; rw [hg]
      rw [this] at hc
      cases hc
    | some g => simp
/-- What an operation that may come up looks at, no one who is still to come writes. -/
theorem Inv.look (I : Inv P ops n w0 e0 dfs listed done pend s e a w) (hssa : ssaB ops (itemsGo 0 ops.toList []) = true) {it : It} (hit : it ∈ itemsGo 0 ops.toList []) (hp : ∀ ed ∈ it.o.after, Region.binds .any ed = true → listed.getD ed.on false = true) {p : PI} (hpm : p ∈ pend) (hu : listed.getD p.i false = false) :
    (∀ t ∈ it.o.looksAt ops, p.o.dst ≠ some t) ∧ (p.i ≠ it.i → ∀ t, it.o.dst = some t → p.o.dst ≠ some t) := by
  obtain ⟨itp, h1, h2, h3⟩ := items_ex ops.toList 0 [] p.i p.o (by simpa using I.mem p hpm)
  have hs := List.all_eq_true.1 hssa itp h1
  have key : ∀ d, p.o.dst = some d → (Nat.beq p.i it.i || (match it.o.dst with
      | some d' => !Nat.beq d' d
      | none => true)) = true ∧ (!((it.o.looksAt ops).contains d) || it.m.testBit p.i) = true := by
    intro d hd
    rw [h3, hd] at hs
    simp only [not_eff I hpm, Bool.false_or] at hs
    have := List.all_eq_true.1 hs it hit
    simp only [Bool.and_eq_true] at this
    rw [show itp.i = p.i by omega] at this
    exact this
  refine ⟨fun t ht hd => ?_, fun hne t ht hd => ?_⟩
  · have := (key t hd).2
    have hcon : (it.o.looksAt ops).contains t = true := by simpa using ht
    rw [hcon] at this
    have := I.mask hit hp p.i (by simpa using this)
    rw [hu] at this
    cases this
  · have := (key t hd).1
    rw [ht] at this
    have hb : Nat.beq p.i it.i = false := by cases hh : Nat.beq p.i it.i with | false => rfl | true => exact absurd (Nat.eq_of_beq_eq_true hh) hne
    rw [hb] at this
    simp at this
theorem Inv.temps (I : Inv P ops n w0 e0 dfs listed done pend s e a w) (hssa : ssaB ops (itemsGo 0 ops.toList []) = true) {it : It} (hit : it ∈ itemsGo 0 ops.toList []) (hp : ∀ ed ∈ it.o.after, Region.binds .any ed = true → listed.getD ed.on false = true) :
    (∀ t ∈ it.o.looksAt ops, ∀ v, s.tm.get t = some v → ∃ x, a.tmps[t]? = some x ∧ vrel e v x) ∧ ∀ x ∈ it.o.op.operands.toList, ∀ v, evO s.tm x = some v → vrel e v (a.eval x) := by
  have h1 : ∀ t ∈ it.o.looksAt ops, ∀ v, s.tm.get t = some v → ∃ x, a.tmps[t]? = some x ∧ vrel e v x :=
    fun t ht v hv => I.tr t v hv (fun p hpm hu => (I.look hssa hit hp hpm hu).1 t ht)
  refine ⟨h1, fun x hx v hv => ?_⟩
  cases x with
  | tmp t =>
    obtain ⟨y, h2, h3⟩ := h1 t (by unfold Oper.looksAt; exact List.mem_append.2 (.inl (List.mem_filterMap.2 ⟨_, hx, rfl⟩))) v hv
    simp only [Act.eval, Array.getD_eq_getD_getElem?, h2]
    exact h3
  | const c => exact toV_rel 12 c v hv
  | func f => cases hv; exact ⟨[], [], rfl, vrels_nil.2 rfl, vrels_nil.2 rfl⟩
  | global g => cases hv
theorem put_get_self {dst : Nat} {x : Value} (h : dst < a.tmps.size) : (a.put (some dst) x).tmps[dst]? = some x := by simp [Act.put, h]
theorem put_get_ne {dst : Option Nat} {t : Nat} {x : Value} (h : dst ≠ some t) : (a.put dst x).tmps[t]? = a.tmps[t]? := by
  cases dst with
  | none => rfl
  | some d => simp [Act.put, Array.getElem?_setIfInBounds_ne (fun q => h (congrArg some q))]
theorem put_size {dst : Option Nat} {x : Value} : (a.put dst x).tmps.size = a.tmps.size := by cases dst <;> simp [Act.put]
/-- One that was done ahead has come up. -/
theorem Inv.put (I : Inv P ops n w0 e0 dfs listed done pend s e a w) {p : PI} (hpm : p ∈ pend) (hi : listed.getD p.i true = false) (hpre : ∀ ed ∈ p.o.after, Region.binds .any ed = true → listed.getD ed.on false = true) {e' : E} {x : Value} {w' : World}
    (hs : e.sub e') (hle : e0.le e') (hv : vrel e' p.k.v x) (R' : Rel w0 e' s.h w') (hnew : ∀ p' ∈ pend, p'.i ≠ p.i → listed.getD p'.i false = false → ∀ b ob v, p'.k = .new b ob v → e'.ρ b = none ∧ e'.κ b = none ∧ b < s.h.nxt ∧ e0.lim ≤ b) :
    Inv P ops n w0 e0 dfs (listed.setIfInBounds p.i true) done pend s e' (a.put p.o.dst x) w' := by
  have gd : ∀ j, j ≠ p.i → (listed.setIfInBounds p.i true).getD j false = listed.getD j false := fun j hj => getD_set_ne false (Ne.symm hj)
  have gs := getD_set_self hi
  refine ⟨by simp [I.size], fun i h => ?_, fun i h1 h2 h3 => ?_, I.mem, I.pdn, I.chk, fun i o ho h ed hed hb => ?_, by rw [put_size]; exact I.tsz, fun t v ht hn => ?_, R', fun p' hp' hu b ob v hk => ?_, I.dis, I.nlt, hle, by rw [put_defers]; exact I.dfs⟩
  · by_cases hj : i = p.i
    · subst hj; exact I.pdn p hpm
    · rw [gd i hj] at h; exact I.sub i h
  · by_cases hj : i = p.i
    · subst hj; rw [gs] at h3; cases h3
    · rw [gd i hj] at h3; exact I.pnd i h1 h2 h3
  · by_cases hj : i = p.i
    · subst hj
      rw [I.mem p hpm] at ho
      cases ho
      have := hpre ed hed hb
      by_cases hj2 : ed.on = p.i
      · rw [hj2]; exact gs
      · rw [gd _ hj2]; exact this
    · rw [gd i hj] at h
      have := I.clo i o ho h ed hed hb
      by_cases hj2 : ed.on = p.i
      · rw [hj2]; exact gs
      · rw [gd _ hj2]; exact this
  · by_cases hd : p.o.dst = some t
    · have hc := I.chk p hpm
      unfold Ev.chk at hc
      simp only [Bool.and_eq_true] at hc
      have h1 := hc.1
      rw [hd] at h1
      simp only [Bool.and_eq_true] at h1
      obtain ⟨h2, h3⟩ := h1
      rw [ht] at h3
      have h3 := sameV_eq _ _ h3
      have h2 : t < n := Nat.le_of_ble_eq_true h2
      subst h3
      rw [hd]
      exact ⟨x, put_get_self (by rw [I.tsz]; exact h2), hv⟩
    · obtain ⟨y, h1, h2⟩ := I.tr t v ht (fun p' hp' hu => by
        by_cases hj : p'.i = p.i
        · have h3 := I.mem p' hp'
          rw [hj, I.mem p hpm] at h3
          rw [← Option.some.inj h3]
          exact hd
        · exact hn p' hp' (by rw [gd _ hj]; exact hu))
      exact ⟨y, by rw [put_get_ne hd]; exact h1, vrel_sub hs _ _ h2⟩
  · by_cases hj : p'.i = p.i
    · rw [hj, gs] at hu; cases hu
    · rw [gd _ hj] at hu
      exact hnew p' hp' hj hu b ob v hk
end
end Go.Proofs.Ytdammjolkcjogaa.Ev

/-! The evaluator: the region that draws is sound: the simulation. -/
namespace Go.Proofs.Ytdammjolkcjogaa.Ev
open Go Go.RowKit
set_option linter.unusedVariables false
set_option linter.unusedSimpArgs false
section
variable {P : Program} {ops : Array Oper} {n m : Nat} {w0 w : World} {e0 e : E} {dfs : List Deferred} {listed : Array Bool} {done : Nat} {pend : List PI} {s : St} {a : Act} {F : Fence} {call : CallT} {Q : Exit → Act → World → Prop}
theorem isTrue_eq {b : Option Bool} (h : isTrue b = true) : b = some true := by
  cases b with
  | none => cases h
  | some b => cases b <;> first | rfl | cases h
theorem isFalse_eq {b : Option Bool} (h : isFalse b = true) : b = some false := by
  cases b with
  | none => cases h
  | some b => cases b <;> first | rfl | cases h
theorem wp_plain (hF : Open F) {o : Oper} {x : Value} {w' : World} {K : Act → World → Prop} (hd : ∀ c, o.op ≠ .defer c) (h : (execOp a.eval o).run P w = .ok (.value x) w') (hK : K (a.put o.dst x) w') : o.wpIn F m P a w K Q := by
  refine ⟨fun f _ => hF.fn f, ?_⟩
  rw [Oper.semAt_eq _ _ _ hd, h]
  exact hK
/-- One that was done ahead comes up. -/
theorem exec_pend (hF : Open F) (hssa : ssaB ops (itemsGo 0 ops.toList []) = true) (I : Inv P ops n w0 e0 dfs listed done pend s e a w) {p : PI} (hpm : p ∈ pend) (hi : listed.getD p.i true = false) (hpre : ∀ ed ∈ p.o.after, Region.binds .any ed = true → listed.getD ed.on false = true) {K : Act → World → Prop}
    (hK : ∀ e' a' w', Inv P ops n w0 e0 dfs (listed.setIfInBounds p.i true) done pend s e' a' w' → K a' w') : wpOpIn F m P ops Q p.i K a w := by
  obtain ⟨it, hit, h2, h3⟩ := items_ex ops.toList 0 [] p.i p.o (by simpa using I.mem p hpm)
  have T := I.temps hssa hit (by rw [h3]; exact hpre)
  rw [h3] at T
  unfold wpOpIn
  simp only [I.mem p hpm]
  have hc := I.chk p hpm
  unfold Ev.chk at hc
  simp only [Bool.and_eq_true] at hc
  obtain ⟨_, hc⟩ := hc
  have keep : ∀ p' ∈ pend, p'.i ≠ p.i → listed.getD p'.i false = false → ∀ b ob v, p'.k = .new b ob v → e.ρ b = none ∧ e.κ b = none ∧ b < s.h.nxt ∧ e0.lim ≤ b := fun p' hp' _ hu b ob v hk => I.new p' hp' hu b ob v hk
  split at hc
  · rename_i v hk
    simp only [Bool.and_eq_true] at hc
    obtain ⟨⟨_, hw⟩, hv⟩ := hc
    rw [wantV_look T.1 (isTrue_eq hw), if_pos rfl]
    split at hv
    · rename_i v' hcl hpv
      have := sameV_eq _ _ hv
      subst this
      obtain ⟨x, r1, r2⟩ := run_pureOp (P := P) I.rel T.2 hpv
      refine wp_plain hF (fun c hd => by rw [hd] at hpv; simp [pureOp] at hpv) r1 (hK e _ w ?_)
      exact I.put hpm hi hpre (E.le.refl e).sub I.le (by rw [hk]; exact r2) I.rel keep
    · cases hv
  · rename_i b ob v hk
    simp only [Bool.and_eq_true] at hc
    obtain ⟨⟨⟨_, hw⟩, hv⟩, hg⟩ := hc
    rw [wantV_look T.1 (isTrue_eq hw), if_pos rfl]
    split at hv
    · rename_i ob' mk hcl hpv
      simp only [Bool.and_eq_true] at hv
      have := sameO_eq _ _ hv.1
      subst this
      have hvv := sameV_eq _ _ hv.2
      split at hg
      · rename_i ob2 hg2
        have := sameO_eq _ _ hg
        subst this
        obtain ⟨n1, n2, n3, n4⟩ := I.new p hpm (unl hi) b _ v hk
        obtain ⟨co, x, r1, r2, r3⟩ := run_allocOp (P := P) I.rel T.2 hpv
        have hsub : e.sub (e.bind b (some w.heap.size) none) := E.bind_sub n1 n2
        refine wp_plain hF (fun c hd => by rw [hd] at hpv; simp [allocOp] at hpv) r1 (hK (e.bind b (some w.heap.size) none) _ _ ?_)
        refine I.put hpm hi hpre hsub ?_ (by rw [hk]; exact hvv ▸ r2 _ _ hsub (E.bind_ρ _ _ _ _)) ?_ ?_
        · refine ⟨fun i j q => hsub.ρ _ _ (I.le.ρ i j q), fun i j q => hsub.κ _ _ (I.le.κ i j q), Nat.le_trans I.le.lim (Nat.le_max_left _ _), fun i hi2 q => ?_, fun i hi2 q => ?_⟩
          · show (if i = b then some w.heap.size else e.ρ i) = none
            rw [if_neg (by omega)]
            exact I.le.old i hi2 q
          · show (if i = b then none else e.κ i) = none
            rw [if_neg (by omega)]
            exact I.le.kold i hi2 q
        · refine I.rel.bind hg2 n1 n2 n3 (World.grownBy_alloc w co none) (fun j e1 => by cases e1) (fun b' o' _ q => by have := (I.rel.new _ _ q).2; omega) (.inl I.rel.bel.size) (by rw [World.size_alloc]; exact Nat.lt_succ_self _) ?_
          rw [World.alloc_heap_new]
          exact r3 _ _ hsub
        · intro p' hp' hne hu b' ob' v' hk'
          obtain ⟨m1, m2, m3, m4⟩ := I.new p' hp' hu b' ob' v' hk'
          have hb : b' ≠ b := fun e1 => by subst e1; exact hne (I.dis p' hp' p hpm _ _ _ _ _ hk' hk)
          exact ⟨by simpa [E.bind, hb] using m1, by simpa [E.bind, hb] using m2, m3, m4⟩
      · cases hg
    · cases hv
  · rename_i hk
    rw [wantV_look T.1 (isFalse_eq hc), if_neg (by simp)]
    refine ⟨fun f _ => hF.fn f, hK e _ w ?_⟩
    exact I.put hpm hi hpre (E.le.refl e).sub I.le (by rw [hk]; simp only [PK.v, vrel]; exact ⟨[], rfl, vrels_nil.2 rfl⟩) I.rel keep
theorem putO_get {tm tm' : Tr V} {dst : Option Tmp} {v : V} (q : putO n tm dst v = some tm') : ∀ t, tm'.get t = if dst = some t then some v else tm.get t := by
  intro t
  unfold putO at q
  split at q
  · cases q; simp
  · rename_i d
    cases hd : Nat.blt d n with
    | false => rw [hd] at q; cases q
    | true =>
      rw [hd] at q
      cases q
      rw [Tr.get_set]
      by_cases h : t = d
      · subst h; simp
      · rw [if_neg h, if_neg (fun q => h (by cases q; rfl))]
theorem putO_lt {tm tm' : Tr V} {dst : Option Tmp} {v : V} (q : putO n tm dst v = some tm') : ∀ t, dst = some t → t < n := by
  intro t ht
  subst ht
  unfold putO at q
  simp only at q
  cases hd : Nat.blt t n with
  | false => rw [hd] at q; cases q
  | true => exact Nat.le_of_ble_eq_true hd
theorem or_bit {done i j : Nat} : (done ||| 2 ^ i).testBit j = true ↔ done.testBit j = true ∨ i = j := by
  simp [Nat.testBit_or, Nat.testBit_two_pow]
/-- What holds behind one that came up. -/
theorem Inv.came (hssa : ssaB ops (itemsGo 0 ops.toList []) = true) (I : Inv P ops n w0 e0 dfs listed done pend s e a w) {it : It} (hit : it ∈ itemsGo 0 ops.toList []) (hnd : done.testBit it.i = false) (hi : listed.getD it.i true = false)
    (hpre : ∀ ed ∈ it.o.after, Region.binds .any ed = true → listed.getD ed.on false = true) {s' : St} (hchk : ((pend.filter fun p => !(it.m.testBit p.i)).all (Ev.chk P ops n s')) = true)
    {tm : Tr V} {v : V} {h' : H} {e' : E} {x : Value} {w' : World} (hs' : s' = ⟨tm, h'⟩) (hput : putO n s.tm it.o.dst v = some tm) (hle : e.le e') (hv : vrel e' v x) (R' : Rel w0 e' h' w') :
    Inv P ops n w0 e0 dfs (listed.setIfInBounds it.i true) (done ||| 2 ^ it.i) (pend.filter fun p => !(it.m.testBit p.i)) s' e' (a.put it.o.dst x) w' := by
  obtain ⟨k0, hk0, hk1⟩ := items_mem ops.toList 0 [] it hit
  have hoi : ops[it.i]? = some it.o := by rw [hk0]; simpa using hk1
  have hmask := I.mask hit hpre
  have gd : ∀ j, j ≠ it.i → (listed.setIfInBounds it.i true).getD j false = listed.getD j false := fun j hj => getD_set_ne false (Ne.symm hj)
  have gs := getD_set_self hi
  subst hs'
  have ne : ∀ p ∈ pend, p.i ≠ it.i := fun p hp q => by have := I.pdn p hp; rw [q, hnd] at this; cases this
  refine ⟨by simp [I.size], fun i h => ?_, fun i h1 h2 h3 => ?_, fun p hp => I.mem p (List.mem_filter.1 hp).1, fun p hp => or_bit.2 (.inl (I.pdn p (List.mem_filter.1 hp).1)), fun p hp => List.all_eq_true.1 hchk p hp, fun i o ho h ed hed hb => ?_, by rw [put_size]; exact I.tsz, fun t u ht hn => ?_, R', fun p hp hu b ob v' hk => ?_,
    fun p hp p' hp' => I.dis p (List.mem_filter.1 hp).1 p' (List.mem_filter.1 hp').1, fun p hp b ob v' hk => ?_, I.le.trans hle, by rw [put_defers]; exact I.dfs⟩
  · by_cases hj : i = it.i
    · exact or_bit.2 (.inr hj.symm)
    · rw [gd i hj] at h; exact or_bit.2 (.inl (I.sub i h))
  · by_cases hj : i = it.i
    · subst hj; rw [gs] at h3; cases h3
    · rw [gd i hj] at h3
      rcases or_bit.1 h2 with h2 | h2
      · obtain ⟨p, hp, hpi⟩ := I.pnd i h1 h2 h3
        refine ⟨p, List.mem_filter.2 ⟨hp, ?_⟩, hpi⟩
        cases hb : it.m.testBit p.i with
        | false => rfl
        | true =>
          have := hmask p.i hb
          rw [hpi, h3] at this
          cases this
      · exact absurd h2.symm hj
  · by_cases hj : i = it.i
    · subst hj
      rw [hoi] at ho
      cases ho
      have := hpre ed hed hb
      by_cases hj2 : ed.on = it.i
      · rw [hj2]; exact gs
      · rw [gd _ hj2]; exact this
    · rw [gd i hj] at h
      have := I.clo i o ho h ed hed hb
      by_cases hj2 : ed.on = it.i
      · rw [hj2]; exact gs
      · rw [gd _ hj2]; exact this
  · have hg := putO_get hput t
    rw [show ({ tm := tm, h := h' } : St).tm = tm from rfl, hg] at ht
    by_cases hd : it.o.dst = some t
    · rw [if_pos hd] at ht
      cases ht
      rw [hd]
      exact ⟨x, put_get_self (by rw [I.tsz]; exact putO_lt hput t hd), hv⟩
    · rw [if_neg hd] at ht
      obtain ⟨y, h1, h2⟩ := I.tr t u ht (fun p hp hu => by
        refine hn p (List.mem_filter.2 ⟨hp, ?_⟩) (by rw [gd _ (ne p hp)]; exact hu)
        cases hb : it.m.testBit p.i with
        | false => rfl
        | true => have := hmask p.i hb; rw [hu] at this; cases this)
      exact ⟨y, by rw [put_get_ne hd]; exact h1, vrel_mono hle _ _ h2⟩
  · have hpp := (List.mem_filter.1 hp).1
    rw [gd _ (ne p hpp)] at hu
    obtain ⟨m1, m2, m3, m4⟩ := I.new p hpp hu b ob v' hk
    have hb : b < e.lim := by rw [I.rel.lim]; exact m3
    refine ⟨hle.old b hb m1, hle.kold b hb m2, ?_, m4⟩
    have := hle.lim
    have h2 := R'.lim
    show b < h'.nxt
    omega
  · have h1 := I.nlt p (List.mem_filter.1 hp).1 b ob v' hk
    have h2 := hle.lim
    have h3 := R'.lim
    have h4 := I.rel.lim
    show b < h'.nxt
    omega
/-- One that waits for its turn comes up. -/
theorem exec_eff (hF : Open F) (hcall : CallOk P call) (hssa : ssaB ops (itemsGo 0 ops.toList []) = true) (I : Inv P ops n w0 e0 dfs listed done pend s e a w) {it : It} (hit : it ∈ itemsGo 0 ops.toList []) (hnd : done.testBit it.i = false) (hi : listed.getD it.i true = false)
    (hpre : ∀ ed ∈ it.o.after, Region.binds .any ed = true → listed.getD ed.on false = true) {s' : St} (q : step1 P call ops n it.o s = some s') (hchk : ((pend.filter fun p => !(it.m.testBit p.i)).all (Ev.chk P ops n s')) = true) {K : Act → World → Prop}
    (hK : ∀ e' a' w', Inv P ops n w0 e0 dfs (listed.setIfInBounds it.i true) (done ||| 2 ^ it.i) (pend.filter fun p => !(it.m.testBit p.i)) s' e' a' w' → K a' w') : wpOpIn F m P ops Q it.i K a w := by
  obtain ⟨k0, hk0, hk1⟩ := items_mem ops.toList 0 [] it hit
  have hoi : ops[it.i]? = some it.o := by rw [hk0]; simpa using hk1
  have T := I.temps hssa hit hpre
  unfold wpOpIn
  simp only [hoi]
  have fin : ∀ (tm : Tr V) (v : V) (h' : H) (e' : E) (x : Value) (w' : World), s' = ⟨tm, h'⟩ → putO n s.tm it.o.dst v = some tm → e.le e' → vrel e' v x → Rel w0 e' h' w' → Inv P ops n w0 e0 dfs (listed.setIfInBounds it.i true) (done ||| 2 ^ it.i) (pend.filter fun p => !(it.m.testBit p.i)) s' e' (a.put it.o.dst x) w' :=
    fun tm v h' e' x w' hs' hput hle hv R' => I.came hssa hit hnd hi hpre hchk hs' hput hle hv R'
  unfold step1 at q
  split at q
  · rename_i hw
    rw [wantV_look T.1 hw, if_pos rfl]
    split at q
    · rename_i v h' hv
      split at q
      · rename_i tm hp
        cases q
        exact wp_evOp hF hcall I.rel T.2 ((evF_op _ _ _ _ _).symm.trans hv) (fun e' x w' h1 h2 h3 => hK e' _ w' (fin tm v h' e' x w' rfl hp h1 h2 h3))
      · cases q
    · cases q
  · rename_i hw
    rw [wantV_look T.1 hw, if_neg (by simp)]
    split at q
    · rename_i tm hp
      cases q
      exact ⟨fun f _ => hF.fn f, hK e _ w (fin tm (.tuple []) s.h e undef w rfl hp (E.le.refl e) (by simp only [vrel]; exact ⟨[], rfl, vrels_nil.2 rfl⟩) I.rel)⟩
    · cases q
  · cases q
/-- The evaluator goes on, and nothing has come up. -/
theorem Inv.free (I : Inv P ops n w0 e0 dfs listed done pend s e a w) {it : It} (hit : it ∈ itemsGo 0 ops.toList []) (hnd : done.testBit it.i = false) {s' : St} {k : PK} (q : freeS P ops n s it = some (s', k)) (hchk : (((⟨it.i, it.o, k⟩ : PI) :: pend).all (Ev.chk P ops n s')) = true) :
    ∃ e', Inv P ops n w0 e0 dfs listed (done ||| 2 ^ it.i) (⟨it.i, it.o, k⟩ :: pend) s' e' a w := by
  obtain ⟨k0, hk0, hk1⟩ := items_mem ops.toList 0 [] it hit
  have hoi : ops[it.i]? = some it.o := by rw [hk0]; simpa using hk1
  have hul : listed.getD it.i false = false := by
    cases h : listed.getD it.i false with
    | false => rfl
    | true => rw [I.sub it.i h] at hnd; cases hnd
  have ne : ∀ p ∈ pend, p.i ≠ it.i := fun p hp q => by have := I.pdn p hp; rw [q, hnd] at this; cases this
  have fin : ∀ (tm : Tr V) (v : V) (h' : H) (e' : E), s' = ⟨tm, h'⟩ → putO n s.tm it.o.dst v = some tm → e.le e' → Rel w0 e' h' w → s.h.nxt ≤ h'.nxt → (∀ b, e.ρ b = none → e'.ρ b = none) → (∀ b, e.κ b = none → e'.κ b = none) →
      (∀ b ob v, k = .new b ob v → b = s.h.nxt ∧ b < h'.nxt) → Inv P ops n w0 e0 dfs listed (done ||| 2 ^ it.i) (⟨it.i, it.o, k⟩ :: pend) s' e' a w := by
    intro tm v h' e' hs' hput hle R' hnx h1 h2 hnew
    subst hs'
    refine ⟨I.size, fun i h => or_bit.2 (.inl (I.sub i h)), fun i g1 g2 g3 => ?_, fun p hp => ?_, fun p hp => ?_, fun p hp => List.all_eq_true.1 hchk p hp, I.clo, I.tsz, fun t u ht hn => ?_, R', fun p hp hu b ob v' hk => ?_, fun p hp p' hp' b ob v1 ob' v2 hk hk' => ?_, fun p hp b ob v' hk => ?_, I.le.trans hle, I.dfs⟩
    · rcases or_bit.1 g2 with g2 | g2
      · obtain ⟨p, hp, hpi⟩ := I.pnd i g1 g2 g3
        exact ⟨p, List.mem_cons_of_mem _ hp, hpi⟩
      · exact ⟨_, List.mem_cons_self, g2⟩
    · rcases List.mem_cons.1 hp with rfl | hp
      · exact hoi
      · exact I.mem p hp
    · rcases List.mem_cons.1 hp with rfl | hp
      · exact or_bit.2 (.inr rfl)
      · exact or_bit.2 (.inl (I.pdn p hp))
    · have hd : it.o.dst ≠ some t := hn _ List.mem_cons_self hul
      have hg := putO_get hput t
      rw [show ({ tm := tm, h := h' } : St).tm = tm from rfl, hg, if_neg hd] at ht
      obtain ⟨y, h3, h4⟩ := I.tr t u ht (fun p hp hu => hn p (List.mem_cons_of_mem _ hp) hu)
      exact ⟨y, h3, vrel_mono hle _ _ h4⟩
    · rcases List.mem_cons.1 hp with rfl | hp
      · obtain ⟨rfl, hlt⟩ := hnew b ob v' hk
        exact ⟨h1 _ I.rel.rn, h2 _ I.rel.kn, hlt, by rw [← I.rel.lim]; exact I.le.lim⟩
      · obtain ⟨m1, m2, m3, m4⟩ := I.new p hp hu b ob v' hk
        exact ⟨h1 _ m1, h2 _ m2, Nat.lt_of_lt_of_le m3 hnx, m4⟩
    · rcases List.mem_cons.1 hp with rfl | hp <;> rcases List.mem_cons.1 hp' with rfl | hp'
      · rfl
      · have := (hnew b ob v1 hk).1
        have := I.nlt p' hp' b ob' v2 hk'
        omega
      · have := (hnew b ob' v2 hk').1
        have := I.nlt p hp b ob v1 hk
        omega
      · exact I.dis p hp p' hp' b ob v1 ob' v2 hk hk'
    · rcases List.mem_cons.1 hp with rfl | hp
      · exact (hnew b ob v' hk).2
      · exact Nat.lt_of_lt_of_le (I.nlt p hp b ob v' hk) hnx
  unfold freeS at q
  split at q
  · split at q
    · rename_i tm hp
      cases q
      exact ⟨e, fin tm (.tuple []) s.h e rfl hp (E.le.refl e) I.rel (Nat.le_refl _) (fun _ h => h) (fun _ h => h) (fun b ob v hk => nomatch hk)⟩
    · cases q
  · split at q
    · split at q
      · rename_i v hv
        split at q
        · rename_i tm hp
          cases q
          exact ⟨e, fin tm v s.h e rfl hp (E.le.refl e) I.rel (Nat.le_refl _) (fun _ h => h) (fun _ h => h) (fun b ob v hk => nomatch hk)⟩
        · cases q
      · cases q
    · split at q
      · rename_i ob mk hv
        split at q
        · rename_i tm hp
          cases q
          exact ⟨e.up, fin tm _ (s.h.new ob) e.up rfl hp (E.up_le e) (I.rel.add ob) (Nat.le_succ _) (fun _ h => h) (fun _ h => h) (fun b ob' v hk => by cases hk; exact ⟨rfl, Nat.lt_succ_self _⟩)⟩
        · cases q
      · cases q
    · cases q
  · cases q
end
end Go.Proofs.Ytdammjolkcjogaa.Ev

/-! The evaluator: the region that draws is sound. -/
namespace Go.Proofs.Ytdammjolkcjogaa.Ev
open Go Go.RowKit
set_option linter.unusedVariables false
set_option linter.unusedSimpArgs false
section
variable {P : Program} {ops : Array Oper} {n m : Nat} {w0 w : World} {e0 e : E} {dfs : List Deferred} {listed : Array Bool} {done : Nat} {pend : List PI} {s : St} {a : Act} {F : Fence} {call : CallT} {Q : Exit → Act → World → Prop}
theorem lowB_lt (h : lowB (itemsGo 0 ops.toList []) = true) {i : Nat} {o : Oper} (ho : ops[i]? = some o) : ∀ ed ∈ o.after, Region.binds .any ed = true → ed.on < i := by
  intro ed hed hb
  obtain ⟨it, h1, h2, h3⟩ := items_ex ops.toList 0 [] i o (by simpa using ho)
  have h4 := List.all_eq_true.1 (List.all_eq_true.1 h it h1) ed (by rw [h3]; simpa using hed)
  rw [hb] at h4
  simp only [Bool.not_true, Bool.false_or] at h4
  have := Nat.le_of_ble_eq_true h4
  omega
theorem all_of_low (hlow : lowB (itemsGo 0 ops.toList []) = true) (hr : Region.ready .any ops listed = []) : ∀ i, i < ops.size → listed.getD i true = true := by
  intro i
  induction i using Nat.strongRecOn with
  | _ i ih =>
    intro hi
    cases hq : listed.getD i true with
    | true => rfl
    | false =>
      have hmem : i ∈ Region.ready .any ops listed := by
        rw [mem_ready]
        refine ⟨hq, ops[i], by simp [hi], fun ed hed hb => ?_⟩
        have hlt := lowB_lt hlow (i := i) (o := ops[i]) (by simp [hi]) ed hed hb
        have h1 := ih ed.on hlt (by omega)
        have hs : i < listed.size := by
          rcases Nat.lt_or_ge i listed.size with h' | h'
          · exact h'
          · simp [Array.getElem?_eq_none h'] at hq
        have hs2 : ed.on < listed.size := by omega
        simpa [hs2] using h1
      rw [hr] at hmem
      cases hmem
theorem sweep (hF : Open F) (hssa : ssaB ops (itemsGo 0 ops.toList []) = true) (hlow : lowB (itemsGo 0 ops.toList []) = true)
    (hfin : ∀ listed e a w, Inv P ops n w0 e0 dfs listed done pend s e a w → (∀ i, i < ops.size → listed.getD i true = true) → Q .normal a w)
    (hstep : ∀ fc listed e a w it, Inv P ops n w0 e0 dfs listed done pend s e a w → it ∈ itemsGo 0 ops.toList [] → done.testBit it.i = false → rdy done it = true → listed.getD it.i true = false →
      (∀ ed ∈ it.o.after, Region.binds .any ed = true → listed.getD ed.on false = true) → cnt (List.range ops.size) listed ≤ fc + 1 → wpOpIn F m P ops Q it.i (wpAnyIn F m P .any ops Q fc (listed.setIfInBounds it.i true)) a w) :
    ∀ fc listed e a w, Inv P ops n w0 e0 dfs listed done pend s e a w → cnt (List.range ops.size) listed ≤ fc → wpAnyIn F m P .any ops Q fc listed a w := by
  intro fc
  induction fc with
  | zero =>
    intro listed e a w I hc
    have hall : ∀ i, i < ops.size → listed.getD i true = true := fun i hi => cnt_zero _ (Nat.le_zero.1 hc) i (List.mem_range.2 hi)
    refine ⟨?_, hfin listed e a w I hall⟩
    cases hr : Region.ready .any ops listed with
    | nil => rfl
    | cons i l =>
      have hm : i ∈ Region.ready .any ops listed := by rw [hr]; exact List.mem_cons_self
      rw [mem_ready] at hm
      obtain ⟨h0, o, ho, _⟩ := hm
      rw [hall i (Array.getElem?_eq_some_iff.1 ho).1] at h0
      cases h0
  | succ fc ih =>
    intro listed e a w I hc
    refine ⟨fun hr => hfin listed e a w I (all_of_low hlow hr), fun i hi => ?_⟩
    rw [mem_ready] at hi
    obtain ⟨h0, o, ho, hpre⟩ := hi
    have hlt := (Array.getElem?_eq_some_iff.1 ho).1
    cases hd : done.testBit i with
    | true =>
      obtain ⟨p, hp, rfl⟩ := I.pnd i hlt hd (unl h0)
      have hpo : p.o = o := by have := I.mem p hp; rw [ho] at this; exact (Option.some.inj this).symm
      subst hpo
      refine exec_pend hF hssa I hp h0 hpre (fun e' a' w' I' => ih _ e' a' w' I' ?_)
      have := cnt_lt h0 _ (List.mem_range.2 hlt)
      omega
    | false =>
      obtain ⟨it, h1, h2, h3⟩ := items_ex ops.toList 0 [] i o (by simpa using ho)
      rw [Nat.zero_add] at h2
      subst h2
      subst h3
      refine hstep fc listed e a w it I h1 hd ?_ h0 hpre hc
      unfold rdy
      rw [hd]
      simp only [Bool.not_false, Bool.true_and]
      have : it.m &&& done = it.m := by
        apply Nat.eq_of_testBit_eq
        intro j
        rw [Nat.testBit_and]
        cases hb : it.m.testBit j with
        | false => rfl
        | true => rw [I.sub j (I.mask h1 hpre j hb)]; rfl
      rw [this]
      exact Nat.beq_refl _
theorem drawM (hF : Open F) (hcall : CallOk P call) (hssa : ssaB ops (itemsGo 0 ops.toList []) = true) (hlow : lowB (itemsGo 0 ops.toList []) = true) {s' : St}
    (hQ : ∀ e' a' w', e0.le e' → SRel w0 e' n s' a' w' → a'.defers = dfs → Q .normal a' w') :
    ∀ (f : Nat) (done : Nat) (pend : List PI) (s : St) (fc : Nat) (listed : Array Bool) (e : E) (a : Act) (w : World), stepD P call ops n (itemsGo 0 ops.toList []) f done pend s = some s' → Inv P ops n w0 e0 dfs listed done pend s e a w → cnt (List.range ops.size) listed ≤ fc → wpAnyIn F m P .any ops Q fc listed a w
  | 0, done, pend, s, fc, listed, e, a, w, q, I, hc => by cases q
  | f + 1, done, pend, s, fc, listed, e, a, w, q, I, hc => by
    unfold stepD at q
    split at q
    · rename_i it hf
      have hm := List.mem_of_find?_eq_some hf
      have hb := List.find?_some hf
      simp only [Bool.and_eq_true] at hb
      split at q
      · rename_i s1 k hk
        cases hch : (⟨it.i, it.o, k⟩ :: pend).all (chk P ops n s1) with
        | false => rw [hch] at q; cases q
        | true =>
          rw [hch] at q
          simp only [cond_true] at q
          have hnd : done.testBit it.i = false := by
            have := hb.1
            unfold rdy at this
            simp only [Bool.and_eq_true, Bool.not_eq_true'] at this
            exact this.1
          obtain ⟨e', I'⟩ := I.free hm hnd hk hch
          exact drawM hF hcall hssa hlow hQ f _ _ s1 fc listed e' a w q I' hc
      · cases q
    · split at q
      · rename_i it hfil
        split at q
        · rename_i s1 hs1
          cases hch : (pend.filter fun p => !(it.m.testBit p.i)).all (chk P ops n s1) with
          | false => rw [hch] at q; cases q
          | true =>
            rw [hch] at q
            simp only [cond_true] at q
            have hmem : it ∈ (itemsGo 0 ops.toList []).filter (rdy done) := by rw [hfil]; exact List.mem_cons_self
            obtain ⟨hm, hrd⟩ := List.mem_filter.1 hmem
            have hnd : done.testBit it.i = false := by
              unfold rdy at hrd
              simp only [Bool.and_eq_true, Bool.not_eq_true'] at hrd
              exact hrd.1
            obtain ⟨k0, hk0, hk1⟩ := items_mem ops.toList 0 [] it hm
            have hoi : ops[it.i]? = some it.o := by rw [hk0]; simpa using hk1
            have hlt := (Array.getElem?_eq_some_iff.1 hoi).1
            refine sweep hF hssa hlow (fun listed e a w I hall => ?_) (fun fc listed e a w it' I hm' hnd' hr' h0 hpre hc => ?_) fc listed e a w I hc
            · have h1 := hall it.i hlt
              have h2 : listed.getD it.i false = true := by
                have : it.i < listed.size := by rw [I.size]; exact hlt
                simpa [this] using h1
              rw [I.sub it.i h2] at hnd
              cases hnd
            · have h1 : it' ∈ (itemsGo 0 ops.toList []).filter (rdy done) := List.mem_filter.2 ⟨hm', hr'⟩
              rw [hfil] at h1
              obtain rfl := List.mem_singleton.1 h1
              refine exec_eff hF hcall hssa I hm hnd h0 hpre hs1 hch (fun e' a' w' I' => drawM hF hcall hssa hlow hQ f _ _ s1 fc _ e' a' w' q I' ?_)
              have := cnt_lt h0 _ (List.mem_range.2 hlt)
              omega
        · cases q
      · rename_i hfil
        cases hall : (itemsGo 0 ops.toList []).all (fun it => done.testBit it.i) with
        | false => rw [hall] at q; cases q
        | true =>
          rw [hall] at q
          cases q
          refine sweep hF hssa hlow (fun listed e a w I hall => ?_) (fun fc listed e a w it' I hm' hnd' hr' h0 hpre hc => ?_) fc listed e a w I hc
          · refine hQ e a w I.le ⟨⟨I.tsz, fun t v ht => I.tr t v ht (fun p hp hu => ?_)⟩, I.rel⟩ I.dfs
            have hlt := (Array.getElem?_eq_some_iff.1 (I.mem p hp)).1
            have h1 := hall p.i hlt
            have : p.i < listed.size := by rw [I.size]; exact hlt
            have h2 : listed.getD p.i false = true := by simpa [this] using h1
            rw [hu] at h2
            cases h2
          · rw [List.all_eq_true.1 hall it' hm'] at hnd'
            cases hnd'
      · cases q
theorem cnt_len (listed : Array Bool) : ∀ l : List Nat, cnt l listed ≤ l.length
  | [] => Nat.le_refl _
  | i :: l => by
    have := cnt_len listed l
    unfold cnt
    simp only [List.length_cons]
    split <;> omega
theorem drawV_ok (hm : P.follows .mixedOrders = true) (hcall : CallOk P call) : DrawOk P call (drawV P call) where
  ok := by
    intro F hF w0 e n s s' a w m id ops Q S q hQ
    unfold drawV at q
    cases hb : ssaB ops (itemsGo 0 ops.toList []) && lowB (itemsGo 0 ops.toList []) with
    | false => rw [hb] at q; cases q
    | true =>
      rw [hb] at q
      simp only [cond_true] at q
      simp only [Bool.and_eq_true] at hb
      refine wpIn_region_any hm (drawM hF hcall hb.1 hb.2 (e0 := e) (dfs := a.defers) hQ (ops.size + 1) 0 [] s ops.size _ e a _ q ?_ ?_)
      · refine ⟨by simp, fun i h => ?_, fun i h1 h2 h3 => ?_, fun p hp => (by cases hp), fun p hp => (by cases hp), fun p hp => (by cases hp), fun i o ho h => ?_, S.t.1, fun t v ht _ => S.t.2 t v ht, S.r.drew, fun p hp => (by cases hp), fun p hp => (by cases hp), fun p hp => (by cases hp), E.le.refl e, rfl⟩
        · by_cases hi : i < ops.size <;> simp [hi] at h
        · simp at h2
        · by_cases hi : i < ops.size <;> simp [hi] at h
      · have := cnt_len (Array.replicate ops.size false) (List.range ops.size)
        simpa using this
end
end Go.Proofs.Ytdammjolkcjogaa.Ev

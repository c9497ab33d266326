import Derived.Test.YtjngkcnanhnopaaGreatDoorKh
import Derived.RangeFuncWrites
/-! The evaluator: maps: put, entry, delete, next. -/
namespace Go.Proofs.YtjngkcnanhnopaaGreatDoor.Ev
open Go Go.RowKit
set_option linter.unusedVariables false
set_option linter.unusedSimpArgs false

mutual
def sameK : V → V → Bool
  | .int k a, .int k' b => decide (k = k') && decide (a = b)
  | .str a, .str b => decide (a = b)
  | .bool a, .bool b => decide (a = b)
  | .agg a, .agg b => sameKs a b
  | _, _ => false
def sameKs : List V → List V → Bool
  | [], [] => true
  | a :: l, b :: r => sameK a b && sameKs l r
  | _, _ => false
end
mutual
theorem sameK_eq : ∀ (a b : V), sameK a b = true → a = b
  | .int k a, b, h => by
    cases b <;> simp [sameK] at h
    obtain ⟨rfl, rfl⟩ := h
    rfl
  | .str a, b, h => by cases b <;> simp [sameK] at h; rw [h]
  | .bool a, b, h => by cases b <;> simp [sameK] at h; rw [h]
  | .agg a, b, h => by cases b <;> simp [sameK] at h; rw [sameKs_eq a _ h]
  | .ptr _, b, h | .slice _ _ _, b, h | .map _, b, h | .func _ _ _, b, h | .yield _, b, h | .nilFunc, b, h | .iface _ _, b, h | .nilIface, b, h | .tuple _, b, h | .stamp _, b, h | .junk, b, h => by
    cases b <;> simp [sameK] at h
theorem sameKs_eq : ∀ (a b : List V), sameKs a b = true → a = b
  | [], [], _ => rfl
  | [], _ :: _, h => by simp [sameKs] at h
  | _ :: _, [], h => by simp [sameKs] at h
  | a :: l, b :: r, h => by
    simp only [sameKs, Bool.and_eq_true] at h
    rw [sameK_eq a b h.1, sameKs_eq l r h.2]
end
def updE (es : List (V × V × Nat)) (s : Nat) (k x : V) : List (V × V × Nat) := es.map fun p => cond (Nat.beq p.2.2 s) (k, x, s) p
def delE (es : List (V × V × Nat)) (s : Nat) : List (V × V × Nat) := es.filter fun p => !(Nat.beq p.2.2 s)
def mapPut (P : Program) (h : H) (t : TypeId) (m k x : V) : Option H :=
  match P.underlying t, m with
  | some (.map kt _), .map (some r) => (match h.getW r with
    | some (.map es ls) => cond (keyOk P kt k) (match findA P kt k es with
      | some (some (k0, _, s)) => cond (sameK k0 k) (some (h.set r (some (.map (updE es s k x) ls)))) none
      | some none => some (h.set r (some (.map (es ++ [(k, x, h.nxt)]) (some h.nxt)))).bump
      | none => none) none
    | _ => none)
  | _, _ => none
def mapEnt (P : Program) (h : H) (t : TypeId) (m k : V) : Option (V × H) :=
  match P.underlying t, m with
  | some (.map kt el), .map (some r) => (match h.getW r with
    | some (.map es ls) => cond (keyOk P kt k) (match findA P kt k es with
      | some (some (k0, v, s)) => cond (sameK k0 k) (some (.tuple [v, .stamp s], h.set r (some (.map (updE es s k v) ls)))) none
      | some none => (match zer P el with
        | some z => some (.tuple [z, .stamp h.nxt], (h.set r (some (.map (es ++ [(k, z, h.nxt)]) (some h.nxt)))).bump)
        | none => none)
      | none => none) none
    | _ => none)
  | _, _ => none
def entPut (h : H) (m s x : V) : Option H :=
  match m, s with
  | .map (some r), .stamp s => (match h.getW r with
    | some (.map es ls) => (match es.find? (fun e => Nat.beq e.2.2 s) with
      | some (k, _, s') => some (h.set r (some (.map (updE es s' k x) ls)))
      | none => none)
    | _ => none)
  | _, _ => none
def mapDel (P : Program) (h : H) (t : TypeId) (m k : V) : Option H :=
  match P.underlying t, m with
  | some (.map kt _), .map none => cond (keyOk P kt k) (some h) none
  | some (.map kt _), .map (some r) => (match h.getW r with
    | some (.map es ls) => cond (keyOk P kt k) (match findA P kt k es with
      | some (some (_, _, s)) => some (h.set r (some (.map (delE es s) ls)))
      | some none => some h
      | none => none) none
    | _ => none)
  | _, _ => none
def nextV (h : H) (it : V) : Option (V × H) :=
  match it with
  | .ptr (some (b, 0)) => (match h.getW b with
    | some (.iter none _ _ _) => some (.tuple [.bool false], h)
    | some (.iter (some m) olds seen ls) => (match h.get m with
      | some (.map es ls') => cond (sameLs ls ls' && es.all fun e => olds.contains e.2.2) (match es.filter (fun e => !(seen.contains e.2.2)) with
        | [] => some (.tuple [.bool false], h)
        | [(k, v, s)] => some (.tuple [.bool true, k, v], h.set b (some (.iter (some m) olds (seen ++ [s]) ls')))
        | _ => none) none
      | _ => none)
    | _ => none)
  | _ => none
section
variable {P : Program} {w0 w : World} {e : E} {h : H}
theorem run_keyStays (old new : Value) : ∃ key w2, (Instr.keyThatStays old new).run P w = .ok key w2 ∧ (key = old ∨ key = new) ∧ (w2 = w ∨ w2 = w.drew) := by
  unfold Instr.keyThatStays
  by_cases hs : Instr.sameBits 10000 old new = true
  · exact ⟨new, w, by simp [hs], .inr rfl, .inl rfl⟩
  · simp only [hs, if_false, Bool.false_eq_true, Sem.run_bind, run_choose, Question.forced]
    by_cases hc : (Question.extern "map.whichKeyStays" 2).cut (w.tape w.drawn (.extern "map.whichKeyStays" 2)) = 0
    · exact ⟨new, w.drew, by simp [hc], .inr rfl, .inr rfl⟩
    · exact ⟨old, w.drew, by simp [hc], .inl rfl, .inr rfl⟩
theorem run_setMap {k clk : Nat} {l : List MapEntry} {o : Obj} (hg : w.heap[k]? = some (.map ⟨l⟩ clk)) : (setObj k o).run P w = .ok () (w.putObj k o) := by
  simp [setObj, Sem.run, hg, World.putObj]
theorem arr_modify {α : Type} (l : List α) (i : Nat) (f : α → α) : (⟨l⟩ : Array α).modify i f = ⟨l.modify i f⟩ := by
  apply Array.ext'
  simp
theorem mrel_mod : ∀ {es : List (V × V × Nat)} {l : List MapEntry} {i : Nat} {x : MapEntry} {k v : V} {s : Nat} {f : MapEntry → MapEntry}, mrel e es l → l[i]? = some x → vrel e k (f x).key → vrel e v (f x).val → e.κ s = some (f x).born →
    mrel e (es.set i (k, v, s)) (l.modify i f)
  | [], _, i, x, k, v, s, f, hm, hx, _, _, _ => by have hm : _ = [] := hm; subst hm; simp at hx
  | (k0, v0, s0) :: es, _, 0, x, k, v, s, f, ⟨y, r, h1, h2, h3, h4, h5⟩, hx, q1, q2, q3 => by
    subst h1
    simp at hx
    subst hx
    exact ⟨f y, r, by simp, q1, q2, q3, h5⟩
  | (k0, v0, s0) :: es, _, i + 1, x, k, v, s, f, ⟨y, r, h1, h2, h3, h4, h5⟩, hx, q1, q2, q3 => by
    subst h1
    simp at hx
    exact ⟨y, r.modify i f, by simp, h2, h3, h4, mrel_mod h5 hx q1 q2 q3⟩
theorem born_mod {l : List MapEntry} {i : Nat} {f : MapEntry → MapEntry} (hf : ∀ x, (f x).born = x.born) : (l.modify i f).map (·.born) = l.map (·.born) := by
  apply List.ext_getElem?
  intro j
  simp only [List.getElem?_map, List.getElem?_modify]
  by_cases hj : i = j
  · subst hj
    cases l[i]? <;> simp [hf]
  · cases l[j]? <;> simp [hj]
theorem born_lt {l l' : List MapEntry} {c : Nat} (h : ∀ x ∈ l, x.born < c) (hl : l'.map (·.born) = l.map (·.born)) : ∀ x ∈ l', x.born < c := fun x hx => by
  have : x.born ∈ l'.map (·.born) := List.mem_map_of_mem hx
  rw [hl, List.mem_map] at this
  obtain ⟨y, hy, hyb⟩ := this
  rw [← hyb]
  exact h y hy
theorem mrel_snoc : ∀ {es : List (V × V × Nat)} {l : List MapEntry} {x : MapEntry} {k v : V} {s : Nat}, mrel e es l → vrel e k x.key → vrel e v x.val → e.κ s = some x.born → mrel e (es ++ [(k, v, s)]) (l ++ [x])
  | [], _, x, k, v, s, hm, q1, q2, q3 => by have hm : _ = [] := hm; subst hm; exact ⟨x, [], rfl, q1, q2, q3, rfl⟩
  | (k0, v0, s0) :: es, _, x, k, v, s, ⟨y, r, h1, h2, h3, h4, h5⟩, q1, q2, q3 => by
    subst h1
    exact ⟨y, r ++ [x], rfl, h2, h3, h4, mrel_snoc h5 q1 q2 q3⟩
theorem mrel_get : ∀ {es : List (V × V × Nat)} {l : List MapEntry} {i : Nat} {x : MapEntry} {k v : V} {s : Nat}, mrel e es l → l[i]? = some x → es[i]? = some (k, v, s) → vrel e k x.key ∧ vrel e v x.val ∧ e.κ s = some x.born
  | [], _, i, x, k, v, s, hm, hx, he => by simp at he
  | (k0, v0, s0) :: es, _, 0, x, k, v, s, ⟨y, r, h1, h2, h3, h4, h5⟩, hx, he => by
    subst h1
    simp at hx he
    obtain ⟨rfl, rfl, rfl⟩ := he
    subst hx
    exact ⟨h2, h3, h4⟩
  | (k0, v0, s0) :: es, _, i + 1, x, k, v, s, ⟨y, r, h1, h2, h3, h4, h5⟩, hx, he => by
    subst h1
    simp at hx he
    exact mrel_get h5 hx he
theorem mrel_erase : ∀ {es : List (V × V × Nat)} {l : List MapEntry} (i : Nat), mrel e es l → mrel e (es.eraseIdx i) (l.eraseIdx i)
  | [], _, i, hm => by have hm : _ = [] := hm; subst hm; simp [mrel]
  | (k0, v0, s0) :: es, _, 0, ⟨y, r, h1, h2, h3, h4, h5⟩ => by subst h1; exact h5
  | (k0, v0, s0) :: es, _, i + 1, ⟨y, r, h1, h2, h3, h4, h5⟩ => by subst h1; exact ⟨y, _, rfl, h2, h3, h4, mrel_erase i h5⟩
theorem Rel.of_drew {w2 : World} (R : Rel w0 e h w) (hw : w2 = w ∨ w2 = w.drew) : Rel w0 e h w2 := by
  rcases hw with rfl | rfl
  · exact R
  · exact R.drew
theorem heap_drew {w2 : World} (hw : w2 = w ∨ w2 = w.drew) (k : Nat) : w2.heap[k]? = w.heap[k]? := by
  rcases hw with rfl | rfl <;> rfl
theorem ku_of {kt : TypeId} {k : V} (hko : keyOk P kt k = true) : (P.underlying kt).isSome = true := by
  unfold keyOk at hko
  split at hko
  · rename_i hh; rw [hh]; rfl
  · unfold flatT at hko
    split at hko <;> first | (rename_i hh; rw [hh]; rfl) | cases hko
theorem mrel_names : ∀ {es : List (V × V × Nat)} {l : List MapEntry}, mrel e es l → (l.map (·.born)).Nodup → (es.map (·.2.2)).Nodup
  | [], _, _, _ => List.nodup_nil
  | (k, v, s0) :: es, _, ⟨x, r, h1, _, _, h4, h5⟩, hd => by
    subst h1
    simp only [List.map_cons, List.nodup_cons] at hd ⊢
    refine ⟨fun hs => ?_, mrel_names h5 hd.2⟩
    obtain ⟨y, hy, hk⟩ := mrel_stamp h5 s0 hs
    rw [h4] at hk
    injection hk with hk
    exact hd.1 (by rw [hk]; exact List.mem_map_of_mem hy)
theorem updE_none : ∀ {es : List (V × V × Nat)} {s : Nat} {k x : V}, s ∉ es.map (·.2.2) → updE es s k x = es
  | [], _, _, _, _ => rfl
  | p :: es, s, k, x, hs => by
    simp only [List.map_cons, List.mem_cons, not_or] at hs
    have hb : Nat.beq p.2.2 s = false := by cases hh : Nat.beq p.2.2 s with | false => rfl | true => exact absurd (Nat.eq_of_beq_eq_true hh).symm hs.1
    show (cond (Nat.beq p.2.2 s) (k, x, s) p) :: updE es s k x = p :: es
    rw [hb, updE_none hs.2]
    rfl
theorem updE_set : ∀ {es : List (V × V × Nat)} {j s : Nat} {k0 v0 k x : V}, (es.map (·.2.2)).Nodup → es[j]? = some (k0, v0, s) → updE es s k x = es.set j (k, x, s)
  | [], j, s, _, _, _, _, _, he => by simp at he
  | p :: es, 0, s, k0, v0, k, x, hd, he => by
    simp at he
    subst he
    simp only [List.map_cons, List.nodup_cons] at hd
    show (cond (Nat.beq s s) (k, x, s) _) :: updE es s k x = (k, x, s) :: es
    rw [Nat.beq_refl, updE_none hd.1]
    rfl
  | p :: es, j + 1, s, k0, v0, k, x, hd, he => by
    simp only [List.map_cons, List.nodup_cons] at hd
    have he : es[j]? = some (k0, v0, s) := by simpa using he
    have hb : Nat.beq p.2.2 s = false := by
      cases hh : Nat.beq p.2.2 s with
      | false => rfl
      | true =>
        have hps := Nat.eq_of_beq_eq_true hh
        exact absurd (by rw [hps]; exact List.mem_map_of_mem (f := fun q : V × V × Nat => q.2.2) (List.mem_of_getElem? he)) hd.1
    show (cond (Nat.beq p.2.2 s) (k, x, s) p) :: updE es s k x = p :: es.set j (k, x, s)
    rw [hb, updE_set hd.2 he]
    rfl
theorem delE_none : ∀ {es : List (V × V × Nat)} {s : Nat}, s ∉ es.map (·.2.2) → delE es s = es
  | [], _, _ => rfl
  | p :: es, s, hs => by
    simp only [List.map_cons, List.mem_cons, not_or] at hs
    have hb : Nat.beq p.2.2 s = false := by cases hh : Nat.beq p.2.2 s with | false => rfl | true => exact absurd (Nat.eq_of_beq_eq_true hh).symm hs.1
    unfold delE
    rw [List.filter_cons_of_pos (by simp [hb])]
    congr 1
    exact delE_none hs.2
theorem delE_erase : ∀ {es : List (V × V × Nat)} {j s : Nat} {k0 v0 : V}, (es.map (·.2.2)).Nodup → es[j]? = some (k0, v0, s) → delE es s = es.eraseIdx j
  | [], j, s, _, _, _, he => by simp at he
  | p :: es, 0, s, k0, v0, hd, he => by
    simp at he
    subst he
    simp only [List.map_cons, List.nodup_cons] at hd
    unfold delE
    rw [List.filter_cons_of_neg (by simp)]
    exact delE_none hd.1
  | p :: es, j + 1, s, k0, v0, hd, he => by
    simp only [List.map_cons, List.nodup_cons] at hd
    have he : es[j]? = some (k0, v0, s) := by simpa using he
    have hb : Nat.beq p.2.2 s = false := by
      cases hh : Nat.beq p.2.2 s with
      | false => rfl
      | true =>
        have hps := Nat.eq_of_beq_eq_true hh
        exact absurd (by rw [hps]; exact List.mem_map_of_mem (f := fun q : V × V × Nat => q.2.2) (List.mem_of_getElem? he)) hd.1
    unfold delE
    rw [List.filter_cons_of_pos (by simp [hb]), List.eraseIdx_cons_succ]
    congr 1
    exact delE_erase hd.2 he
/-- An entry written where it stood. -/
theorem Rel.modMap {w2 : World} (R : Rel w0 e h w2) {r kr clk i : Nat} {es es' : List (V × V × Nat)} {ls : Option Nat} {l : List MapEntry} {x : MapEntry} {f : MapEntry → MapEntry} {k v k0 v0 : V} {s : Nat} (hfz : True) (hg : h.get r = some (.map es ls)) (hk : e.ρ r = some kr)
    (h1 : w2.heap[kr]? = some (.map ⟨l⟩ clk)) (hp : es.Perm es') (h2 : mrel e es' l) (h3 : ∀ x ∈ l, x.born < clk) (h4 : (l.map (·.born)).Nodup) (h5 : crel e ls clk) (he : es'[i]? = some (k0, v0, s)) (hx : l[i]? = some x) (hf : ∀ y, (f y).born = y.born) (q1 : vrel e k (f x).key) (q2 : vrel e v (f x).val) (q3 : e.κ s = some x.born) :
    Rel w0 e (h.set r (some (.map (updE es s k v) ls))) (w2.putObj kr (.map ((⟨l⟩ : Array MapEntry).modify i f) clk)) := by
  have hlt := (R.new _ _ hk).2
  refine R.upd hk hfz hg (grownBy_putObj' _ _ _) ?_
  rw [World.putObj_heap_same hlt, arr_modify]
  refine ⟨_, clk, es'.set i (k, v, s), rfl, ?_, mrel_mod h2 hx q1 q2 (by rw [hf]; exact q3), born_lt h3 (born_mod hf), by rw [born_mod hf]; exact h4, h5⟩
  rw [← updE_set (mrel_names h2 h4) he]
  exact hp.map _
/-- A new entry. -/
theorem Rel.pushMap (R : Rel w0 e h w) {r kr clk : Nat} {es : List (V × V × Nat)} {es' : List (V × V × Nat)} {ls : Option Nat} {l : List MapEntry} {k v : V} {kx vx : Value} (hfz : True) (hg : h.get r = some (.map es ls)) (hk : e.ρ r = some kr)
    (h1 : w.heap[kr]? = some (.map ⟨l⟩ clk)) (hp : es.Perm es') (h2 : mrel e es' l) (h3 : ∀ x ∈ l, x.born < clk) (h4 : (l.map (·.born)).Nodup) (q1 : vrel e k kx) (q2 : vrel e v vx) :
    Rel w0 (e.bind h.nxt none (some clk)) (h.set r (some (.map (es ++ [(k, v, h.nxt)]) (some h.nxt)))).bump (w.putObj kr (.map ((⟨l⟩ : Array MapEntry).push { key := kx, val := vx, born := clk }) (clk + 1))) := by
  have hlt := (R.new _ _ hk).2
  have hle : e.le (e.bind h.nxt none (some clk)) := E.bind_le R.rn R.kn R.ll
  have R1 : Rel w0 (e.bind h.nxt none (some clk)) h.bump w := R.stamp clk
  have hs : (e.bind h.nxt none (some clk)).κ h.nxt = some clk := E.bind_κ _ _ _ _
  refine R1.upd (hle.ρ _ _ hk) (b := r) (o := .map es ls) hfz hg (grownBy_putObj' _ _ _) ?_
  rw [World.putObj_heap_same hlt]
  refine ⟨l ++ [{ key := kx, val := vx, born := clk }], clk + 1, es' ++ [(k, v, h.nxt)], by simp, hp.append_right _, mrel_snoc (mrel_mono hle h2) (vrel_mono hle _ _ q1) (vrel_mono hle _ _ q2) hs, ?_, ?_, ⟨clk, hs, rfl⟩⟩
  · intro x hx
    rcases List.mem_append.1 hx with hx | hx
    · exact Nat.lt_succ_of_lt (h3 x hx)
    · simp at hx
      subst hx
      exact Nat.lt_succ_self _
  · rw [List.map_append, List.nodup_append]
    refine ⟨h4, by simp, ?_⟩
    intro a ha b hb
    simp at hb
    subst hb
    obtain ⟨y, hy, hya⟩ := List.mem_map.1 ha
    have := h3 y hy
    omega
theorem run_mapPut (R : Rel w0 e h w) {t : TypeId} {m k x : V} {m' k' x' : Value} {h' : H} (hm : vrel e m m') (hk : vrel e k k') (hx : vrel e x x') (q : mapPut P h t m k x = some h') :
    ∃ e' w', (Instr.mapUpdate t m' k' x').run P w = .ok () w' ∧ e.le e' ∧ Rel w0 e' h' w' := by
  unfold mapPut at q
  split at q
  · rename_i kt el r hu
    simp only [vrel] at hm
    obtain ⟨kr, hkr, rfl⟩ := hm
    split at q
    · rename_i es ls hg
      obtain ⟨hfz, hg⟩ := H.getW_some hg
      cases hko : keyOk P kt k with
      | false => rw [hko] at q; cases q
      | true =>
        rw [hko] at q
        simp only [cond_true] at q
        obtain ⟨l, clk, es', h1, hp, h2, h3, h4, h5⟩ := R.map hg hkr
        have hck := run_keyOk (w := w) hk hko false 9998
        have hgo := run_getMap (P := P) h1
        split at q
        · rename_i k0 v s hf
          obtain ⟨r', r1, r2⟩ := run_findA (w := w) (ku_of hko) hk hp h2 hf
          obtain ⟨i, y, he, hy, rfl, hyv, hys⟩ := r2
          cases hsm : sameK k0 k with
          | false => rw [hsm] at q; cases q
          | true =>
            have := sameK_eq _ _ hsm
            subst this
            rw [hsm] at q
            cases q
            obtain ⟨g1, g2, g3⟩ := mrel_get h2 hy he
            obtain ⟨key, w2, p1, p2, p3⟩ := run_keyStays (P := P) (w := w) y.key k'
            have hkey : vrel e k0 key := by rcases p2 with rfl | rfl <;> first | exact g1 | exact hk
            refine ⟨e, w2.putObj kr (.map ((⟨l⟩ : Array MapEntry).modify i fun en => { en with key := key, val := x' }) clk), ?_, E.le.refl e, ?_⟩
            · have hset := run_setMap (P := P) (w := w2) (o := .map ((⟨l⟩ : Array MapEntry).modify i fun en => { en with key := key, val := x' }) clk) ((heap_drew p3 kr).trans h1)
              simp only [Instr.mapUpdate, Sem.run_bind, run_underlying hu, Result.andThen_ok, hgo, hck, r1, List.getElem?_toArray, hy, Option.map_some, Option.getD_some, p1, hset]
            · exact (R.of_drew p3).modMap hfz hg hkr ((heap_drew p3 kr).trans h1) hp h2 h3 h4 h5 he hy (fun _ => rfl) hkey hx hys
        · rename_i hf
          cases q
          obtain ⟨r', r1, r2⟩ := run_findA (w := w) (ku_of hko) hk hp h2 hf
          have r2 : r' = none := r2
          subst r2
          refine ⟨e.bind h.nxt none (some clk), w.putObj kr (.map ((⟨l⟩ : Array MapEntry).push { key := k', val := x', born := clk }) (clk + 1)), ?_, E.bind_le R.rn R.kn R.ll, R.pushMap hfz hg hkr h1 hp h2 h3 h4 hk hx⟩
          have hset := run_setMap (P := P) (w := w) (o := .map ((⟨l⟩ : Array MapEntry).push { key := k', val := x', born := clk }) (clk + 1)) h1
          simp only [Instr.mapUpdate, Sem.run_bind, run_underlying hu, Result.andThen_ok, hgo, hck, r1, hset]
        · cases q
    · cases q
  · cases q
theorem run_mapEnt (R : Rel w0 e h w) {t : TypeId} {m k v : V} {m' k' : Value} {h' : H} (hm : vrel e m m') (hk : vrel e k k') (q : mapEnt P h t m k = some (v, h')) :
    ∃ e' w' z, (Instr.mapEntry t m' k').run P w = .ok z w' ∧ e.le e' ∧ vrel e' v z ∧ Rel w0 e' h' w' := by
  unfold mapEnt at q
  split at q
  · rename_i kt el r hu
    simp only [vrel] at hm
    obtain ⟨kr, hkr, rfl⟩ := hm
    split at q
    · rename_i es ls hg
      obtain ⟨hfz, hg⟩ := H.getW_some hg
      cases hko : keyOk P kt k with
      | false => rw [hko] at q; cases q
      | true =>
        rw [hko] at q
        simp only [cond_true] at q
        obtain ⟨l, clk, es', h1, hp, h2, h3, h4, h5⟩ := R.map hg hkr
        have hck := run_keyOk (w := w) hk hko false 9998
        have hgo := run_getMap (P := P) h1
        split at q
        · rename_i k0 v1 s hf
          obtain ⟨r', r1, r2⟩ := run_findA (w := w) (ku_of hko) hk hp h2 hf
          obtain ⟨i, y, he, hy, rfl, hyv, hys⟩ := r2
          cases hsm : sameK k0 k with
          | false => rw [hsm] at q; cases q
          | true =>
            have := sameK_eq _ _ hsm
            subst this
            rw [hsm] at q
            cases q
            obtain ⟨g1, g2, g3⟩ := mrel_get h2 hy he
            obtain ⟨key, w2, p1, p2, p3⟩ := run_keyStays (P := P) (w := w) y.key k'
            have hkey : vrel e k0 key := by rcases p2 with rfl | rfl <;> first | exact g1 | exact hk
            refine ⟨e, w2.putObj kr (.map ((⟨l⟩ : Array MapEntry).modify i fun en => { en with key := key }) clk), .tuple #[y.val, goInt y.born], ?_, E.le.refl e, ?_, ?_⟩
            · have hset := run_setMap (P := P) (w := w2) (o := .map ((⟨l⟩ : Array MapEntry).modify i fun en => { en with key := key }) clk) ((heap_drew p3 kr).trans h1)
              simp only [Instr.mapEntry, Sem.run_bind, run_underlying hu, Result.andThen_ok, hgo, hck, r1, List.getElem?_toArray, hy, Option.map_some, Option.getD_some, p1, hset, Sem.run_pure]
            · simp only [vrel]
              exact ⟨[y.val, goInt y.born], rfl, vrels_cons.2 ⟨_, _, rfl, hyv, vrels_one (by simp only [vrel]; exact ⟨_, hys, rfl⟩)⟩⟩
            · exact (R.of_drew p3).modMap hfz hg hkr ((heap_drew p3 kr).trans h1) hp h2 h3 h4 h5 he hy (fun _ => rfl) hkey hyv hys
        · rename_i hf
          split at q
          · rename_i z hz
            cases q
            obtain ⟨r', r1, r2⟩ := run_findA (w := w) (ku_of hko) hk hp h2 hf
            have r2 : r' = none := r2
            subst r2
            obtain ⟨z', t1, _, t2⟩ := run_zer (w := w) hz
            have hle : e.le (e.bind h.nxt none (some clk)) := E.bind_le R.rn R.kn R.ll
            refine ⟨e.bind h.nxt none (some clk), w.putObj kr (.map ((⟨l⟩ : Array MapEntry).push { key := k', val := z', born := clk }) (clk + 1)), .tuple #[z', goInt clk], ?_, hle, ?_, R.pushMap hfz hg hkr h1 hp h2 h3 h4 hk (t2 e)⟩
            · have hset := run_setMap (P := P) (w := w) (o := .map ((⟨l⟩ : Array MapEntry).push { key := k', val := z', born := clk }) (clk + 1)) h1
              simp only [Instr.mapEntry, Sem.run_bind, run_underlying hu, Result.andThen_ok, hgo, hck, r1, t1, hset, Sem.run_pure]
            · simp only [vrel]
              exact ⟨[z', goInt clk], rfl, vrels_cons.2 ⟨_, _, rfl, t2 _, vrels_one (by simp only [vrel]; exact ⟨_, E.bind_κ _ _ _ _, rfl⟩)⟩⟩
          · cases q
        · cases q
    · cases q
  · cases q
theorem findIdx_stamp : ∀ {es : List (V × V × Nat)} {l : List MapEntry} {s n : Nat} {k v : V}, mrel e es l → (l.map (·.born)).Nodup → e.κ s = some n → (k, v, s) ∈ es → ∃ i x, es[i]? = some (k, v, s) ∧ l[i]? = some x ∧ l.findIdx? (fun x => (x.born : Int) == (n : Int)) = some i
  | [], _, s, n, k, v, _, _, _, hf => by cases hf
  | (k0, v0, s0) :: es, _, s, n, k, v, ⟨x, r, h1, h2, h3, h4, h5⟩, hd, hn, hf => by
    subst h1
    simp only [List.map_cons, List.nodup_cons] at hd
    rcases List.mem_cons.1 hf with hf | hf
    · cases hf
      rw [h4] at hn
      cases hn
      exact ⟨0, x, rfl, rfl, by simp [List.findIdx?_cons]⟩
    · obtain ⟨i, y, g1, g2, ih⟩ := findIdx_stamp h5 hd.2 hn hf
      refine ⟨i + 1, y, by simpa using g1, by simpa using g2, ?_⟩
      have hne : ((x.born : Int) == (n : Int)) = false := by
        apply beq_eq_false_iff_ne.2
        intro q1
        obtain ⟨hjl, hjp, _⟩ := List.findIdx?_eq_some_iff_getElem.1 ih
        have : r[i].born = n := Int.ofNat.inj (by simpa using hjp)
        exact hd.1 (by
          rw [show x.born = n by omega, ← this]
          exact List.mem_map_of_mem (List.getElem_mem hjl))
      rw [List.findIdx?_cons, hne, ih]
      simp
theorem run_entPut (R : Rel w0 e h w) {t : TypeId} {m s x : V} {m' s' x' : Value} {h' : H} (hm : vrel e m m') (hs : vrel e s s') (hx : vrel e x x') (q : entPut h m s x = some h') :
    ∃ w', (Instr.entryStore t m' s' x').run P w = .ok () w' ∧ Rel w0 e h' w' := by
  unfold entPut at q
  split at q
  · rename_i r s
    simp only [vrel] at hm hs
    obtain ⟨kr, hkr, rfl⟩ := hm
    obtain ⟨n, hn, rfl⟩ := hs
    split at q
    · rename_i es ls hg
      obtain ⟨hfz, hg⟩ := H.getW_some hg
      split at q
      · rename_i k v0 s0 he
        cases q
        have hs0 : s0 = s := Nat.eq_of_beq_eq_true (by simpa using List.find?_some he)
        subst hs0
        obtain ⟨l, clk, es', h1, hp, h2, h3, h4, h5⟩ := R.map hg hkr
        have hgo := run_getMap (P := P) h1
        obtain ⟨i, y, hei, hy, hfi⟩ := findIdx_stamp h2 h4 hn (hp.mem_iff.1 (List.mem_of_find?_eq_some he))
        obtain ⟨g1, g2, g3⟩ := mrel_get h2 hy hei
        refine ⟨w.putObj kr (.map ((⟨l⟩ : Array MapEntry).modify i fun en => { en with val := x' }) clk), ?_, R.modMap hfz hg hkr h1 hp h2 h3 h4 h5 hei hy (fun _ => rfl) g1 hx g3⟩
        have hset := run_setMap (P := P) (w := w) (o := .map ((⟨l⟩ : Array MapEntry).modify i fun en => { en with val := x' }) clk) h1
        have hfa : (⟨l⟩ : Array MapEntry).findIdx? (fun x => (x.born : Int) == (n : Int)) = some i := by simpa using hfi
        simp only [Instr.entryStore, Sem.run_bind, Result.andThen_ok, hgo, asInt, asIntOf, Sem.run_pure, hfa, hset]
      · cases q
    · cases q
  · cases q
theorem run_mapDel (R : Rel w0 e h w) {t ty : TypeId} {ats : Array TypeId} {m k : V} {m' k' : Value} {h' : H} (ha : ats[0]? = some t) (hm : vrel e m m') (hk : vrel e k k') (q : mapDel P h t m k = some h') :
    ∃ w', (Builtin.delete_ ats ty #[m', k']).run P w = .ok (.tuple #[]) w' ∧ Rel w0 e h' w' := by
  unfold mapDel at q
  split at q
  · rename_i kt el hu
    cases hko : keyOk P kt k with
    | false => rw [hko] at q; cases q
    | true =>
      rw [hko] at q
      cases q
      simp only [vrel] at hm
      subst hm
      have hck := run_keyOk (w := w) hk hko true 9998
      exact ⟨w, by simp [Builtin.delete_, ha, run_underlying hu, hck], R⟩
  · rename_i kt el r hu
    simp only [vrel] at hm
    obtain ⟨kr, hkr, rfl⟩ := hm
    split at q
    · rename_i es ls hg
      obtain ⟨hfz, hg⟩ := H.getW_some hg
      cases hko : keyOk P kt k with
      | false => rw [hko] at q; cases q
      | true =>
        rw [hko] at q
        simp only [cond_true] at q
        obtain ⟨l, clk, es', h1, hp, h2, h3, h4, h5⟩ := R.map hg hkr
        have hck := run_keyOk (w := w) hk hko (⟨l⟩ : Array MapEntry).isEmpty 9998
        have hgo := run_getMap (P := P) h1
        have hlt := (R.new _ _ hkr).2
        split at q
        · rename_i k1 v1 s hf
          cases q
          obtain ⟨r', r1, r2⟩ := run_findA (w := w) (ku_of hko) hk hp h2 hf
          obtain ⟨i, y, he, hy, rfl, hyv, hys⟩ := r2
          have hset := run_setMap (P := P) (w := w) (o := .map ((⟨l⟩ : Array MapEntry).eraseIdxIfInBounds i) clk) h1
          refine ⟨w.putObj kr (.map ((⟨l⟩ : Array MapEntry).eraseIdxIfInBounds i) clk), ?_, ?_⟩
          · simp only [Builtin.delete_, ha, List.getElem?_toArray, List.getElem?_cons_zero, List.getElem?_cons_succ, Sem.run_bind, run_underlying hu, Result.andThen_ok, hgo, hck, r1, hset, Sem.run_pure]
          · refine R.upd hkr hfz hg (grownBy_putObj' _ _ _) ?_
            rw [World.putObj_heap_same hlt]
            refine ⟨l.eraseIdx i, clk, es'.eraseIdx i, ?_, by rw [← delE_erase (mrel_names h2 h4) he]; exact hp.filter _, mrel_erase i h2, fun x hx => h3 x (List.mem_of_mem_eraseIdx hx), ?_, h5⟩
            · congr 2
              apply Array.ext'
              simp [Array.eraseIdxIfInBounds]
              split
              · simp
              · rw [List.eraseIdx_of_length_le (by omega)]
            · exact h4.sublist ((List.eraseIdx_sublist l i).map _)
        · rename_i hf
          cases q
          obtain ⟨r', r1, r2⟩ := run_findA (w := w) (ku_of hko) hk hp h2 hf
          have r2 : r' = none := r2
          subst r2
          have hset := run_setMap (P := P) (w := w) (o := .map ⟨l⟩ clk) h1
          refine ⟨w.putObj kr (.map ⟨l⟩ clk), ?_, ?_⟩
          · simp only [Builtin.delete_, ha, List.getElem?_toArray, List.getElem?_cons_zero, List.getElem?_cons_succ, Sem.run_bind, run_underlying hu, Result.andThen_ok, hgo, hck, r1, hset, Sem.run_pure]
          · have : w.putObj kr (.map ⟨l⟩ clk) = w := by
              unfold World.putObj
              have hself : w.heap.setIfInBounds kr (.map ⟨l⟩ clk) = w.heap := by
                apply Array.ext_getElem?
                intro j
                by_cases hj : j = kr
                · subst hj; rw [h1]; simp [hlt]
                · rw [Array.getElem?_setIfInBounds_ne (Ne.symm hj)]
              rw [hself]
            rw [this]
            exact R
        · cases q
    · cases q
  · cases q
end
end Go.Proofs.YtjngkcnanhnopaaGreatDoor.Ev

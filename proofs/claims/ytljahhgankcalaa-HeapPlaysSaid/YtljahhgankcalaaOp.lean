import Derived.Test.YtljahhgankcalaaWMore
import Derived.ChangeArms
import Derived.ChangeOld
import Derived.SizedLaws
import Derived.DataElems
/-! An argument of any kind without pointers and maps, opened as a value: what the reading 'trod' lets in is what 'Kd.K' reads. -/
namespace Go.Proofs.Ytljahhgankcalaa
open Go.RowKit Go.ChangeShapes Go.WideShapes
open Go.Proofs.YtljahhgankcalaaW.PrintWords Go.Proofs.YtljahhgankcalaaW.PrintLast Go.Proofs.YtljahhgankcalaaW.PrintMore
set_option linter.unusedVariables false

/-- Whatever is let in as a value of type t, each of its parts no greater than memory, reads by d as some value that is good. -/
def Op {α : Type} (P : Program) (w : World) (t : TypeId) (d : Kd α) (good : α → Prop) : Prop :=
  ∀ (H : Type) (enc : TypeId × Value → H) (base : Nat) (spare : Nat → Bool) (held : Bool) (fuel : Nat) (cs : List Value) (x : DataW H × List MemPlace),
    DataW.trod enc P w base spare held fuel t cs = some x → (∀ n ∈ x.1.weights P t, n ≤ reachBytes) → ∃ a : α, d.K w a cs ∧ good a
/-- The same for fields that lie one behind the other from cell o on. -/
def OpF {α : Type} (P : Program) (w : World) (fs : List Field) (o : Nat) (d : Kd α) (good : α → Prop) : Prop :=
  ∀ (H : Type) (enc : TypeId × Value → H) (base : Nat) (spare : Nat → Bool) (held : Bool) (fuel : Nat) (cs : List Value) (xs : List (DataW H × List MemPlace)),
    (∀ (i : Nat) (f : Field), fs[i]? = some f → DataW.trod enc P w base spare held fuel f.type ((cs.drop f.offset).take (P.cellsOf f.type)) = xs[i]?) → xs.length = fs.length →
    (∀ n ∈ DataW.weightsEach P (fs.map (·.type)) (xs.map (·.1)), n ≤ reachBytes) → ∃ a : α, d.K w a ((cs.drop o).take d.sz) ∧ good a

section
variable {α β : Type} {P : Program} {w : World} {t e : TypeId}
theorem Op.int {k : IntKind} (ht : P.underlying t = some (.int k)) : Op P w t (Kd.int k) (fun n => (Lit.int k n).wf = true) := by
  intro H enc base spare held fuel cs x h _
  obtain ⟨n, rfl, _, hw⟩ := DataW.trod_int ht h
  exact ⟨n, rfl, hw⟩
theorem Op.bool (ht : P.underlying t = some .bool) : Op P w t Kd.bool (fun _ => True) := by
  intro H enc base spare held fuel cs x h _
  obtain ⟨b, rfl, _⟩ := DataW.trod_bool ht h
  exact ⟨b, rfl, trivial⟩
theorem Op.string (ht : P.underlying t = some .string) : Op P w t Kd.string (fun s => s.size ≤ reachBytes) := by
  intro H enc base spare held fuel cs x h hs
  obtain ⟨s, rfl, rfl, _⟩ := DataW.trod_string ht h
  exact ⟨s, rfl, by simpa using hs s.data.toList.length (by simp [DataW.weights])⟩
theorem Op.weaken {d : Kd α} {good good' : α → Prop} (h : Op P w t d good) (hg : ∀ a, good a → good' a) : Op P w t d good' := by
  intro H enc base spare held fuel cs x hx hs
  obtain ⟨a, h1, h2⟩ := h H enc base spare held fuel cs x hx hs
  exact ⟨a, h1, hg a h2⟩
theorem Op.iso {d : Kd α} {good : α → Prop} {f : β → α} (g : α → β) (hg : ∀ a, f (g a) = a) (h : Op P w t d good) : Op P w t (Kd.iso d f) (fun b => good (f b)) := by
  intro H enc base spare held fuel cs x hx hs
  obtain ⟨a, h1, h2⟩ := h H enc base spare held fuel cs x hx hs
  refine ⟨g a, ?_, ?_⟩
  · show d.K w (f (g a)) cs
    rw [hg]
    exact h1
  · show good (f (g a))
    rw [hg]
    exact h2
theorem OpF.one {d : Kd α} {good : α → Prop} {f : Field} {o : Nat} (h : Op P w f.type d good) (ho : f.offset = o) (hc : P.cellsOf f.type = d.sz) : OpF P w [f] o d good := by
  intro H enc base spare held fuel cs xs hx hl hs
  match xs, hl with
  | [x], _ =>
    have h0 := hx 0 f rfl
    rw [ho, hc] at h0
    exact h H enc base spare held fuel _ x (by simpa using h0) (fun n hn => hs n (by simp [DataW.weightsEach, hn]))
theorem OpF.cons {d : Kd α} {d' : Kd β} {good : α → Prop} {good' : β → Prop} {f : Field} {fs : List Field} {o : Nat} (h : Op P w f.type d good) (ho : f.offset = o) (hc : P.cellsOf f.type = d.sz) (hr : OpF P w fs (o + d.sz) d' good') :
    OpF P w (f :: fs) o (Kd.pair d d') (fun x => good x.1 ∧ good' x.2) := by
  intro H enc base spare held fuel cs xs hx hl hs
  match xs, hl with
  | x :: xs, hl =>
    have h0 := hx 0 f rfl
    rw [ho, hc] at h0
    obtain ⟨a, a1, a2⟩ := h H enc base spare held fuel _ x (by simpa using h0) (fun n hn => hs n (by simp [DataW.weightsEach, hn]))
    obtain ⟨b, b1, b2⟩ := hr H enc base spare held fuel cs xs (fun i g hg => by simpa using hx (i + 1) g (by simpa using hg)) (by simpa using hl) (fun n hn => hs n (by
      simp only [List.map_cons, DataW.weightsEach, List.mem_append]
      exact .inr hn))
    refine ⟨(a, b), ⟨_, _, ?_, a1, b1⟩, a2, b2⟩
    show (cs.drop o).take (d.sz + d'.sz) = _
    rw [List.take_add, List.drop_drop]
theorem Op.struct {d : Kd α} {good : α → Prop} {fs : Array Field} (ht : P.underlying t = some (.struct fs)) (hc : P.cellsOf t = d.sz) (h : OpF P w fs.toList 0 d good) : Op P w t d good := by
  intro H enc base spare held fuel cs x hx hs
  obtain ⟨xs, n, rfl, rfl, hl, hlen, hf⟩ := DataW.trod_struct ht hx
  obtain ⟨a, h1, h2⟩ := h H enc base spare held n cs xs (fun i f hi => hf i f (by simpa using hi)) (by simpa using hlen) (fun m hm => hs m (by simpa [DataW.weights, ht] using hm))
  refine ⟨a, ?_, h2⟩
  rw [List.drop_zero, List.take_of_length_le (by omega)] at h1
  exact h1
theorem weightsAll_mem {H : Type} {d : DataW H} : ∀ {l : List (DataW H)}, d ∈ l → ∀ n ∈ d.weights P e, n ∈ DataW.weightsAll P e l
  | x :: l, hd, n, hn => by
    simp only [DataW.weightsAll, List.mem_append]
    rcases List.mem_cons.1 hd with rfl | hd
    · exact .inl hn
    · exact .inr (weightsAll_mem hd n hn)
theorem Op.slice {d : Kd α} {good : α → Prop} (E : Nat) {B : Nat} (ht : P.underlying t = some (.slice e)) (hc : P.cellsOf e = d.sz) (hB : P.bytesOf e = B) (h : Op P w e d good) :
    Op P w t (Kd.slice E d) (fun l => l.length * B ≤ reachBytes ∧ ∀ a ∈ l, good a) := by
  intro H enc base spare held fuel cs x hx hs
  rcases DataW.trod_slice ht hx with ⟨rfl, rfl⟩ | ⟨a, len, cap, elems, rest, n, rfl, rfl, rfl, hb, hl, hm, hlen, hel, _, _⟩
  · exact ⟨[], ⟨none, 0, rfl, Nat.le_refl _, rfl, Nat.zero_le _, fun h => absurd h (Nat.lt_irrefl _)⟩, by simp, by simp⟩
  · have hs' : ∀ m, m = (elems.length + rest.length) * B ∨ (∃ y ∈ elems, m ∈ y.1.weights P e) → m ≤ reachBytes := by
      intro m hm'
      refine hs m ?_
      simp only [DataW.weights, ht, hB, List.length_map, List.mem_cons, List.mem_append]
      rcases hm' with rfl | ⟨y, hy, hm'⟩
      · exact .inl rfl
      · exact .inr (.inl (weightsAll_mem (List.mem_map_of_mem hy) m hm'))
    have each : ∀ i (hi : i < len), ∃ v : α, ∃ cs', w.cells? base (a.add (i * P.cellsOf e)) (P.cellsOf e) = some cs' ∧ d.K w v cs' ∧ good v := by
      intro i hi
      have hi' : i < elems.length := by omega
      have h1 := hel i hi
      rw [List.getElem?_eq_getElem hi', Option.bind_eq_some_iff] at h1
      obtain ⟨cs', h2, h3⟩ := h1
      obtain ⟨v, h4, h5⟩ := h H enc base spare held n cs' _ h3 (fun m hm' => hs' m (.inr ⟨elems[i], List.getElem_mem hi', hm'⟩))
      exact ⟨v, cs', h2, h4, h5⟩
    have hall : ∀ k, k ≤ len → ∃ l : List α, l.length = k ∧ (∀ v ∈ l, good v) ∧ ∀ j p, l[j]? = some p → ∃ c, c.length = d.sz ∧ d.K w p c ∧ ∀ i u, c[i]? = some u → w.cell? (a.add (j * d.sz + i)) = some u := by
      intro k
      induction k with
      | zero => exact fun _ => ⟨[], rfl, by simp, by simp⟩
      | succ k ih =>
        intro hk
        obtain ⟨l, l1, l2, l3⟩ := ih (by omega)
        obtain ⟨v, cs', h2, h4, h5⟩ := each k (by omega)
        refine ⟨l ++ [v], by simp [l1], fun y hy => ?_, fun j p hj => ?_⟩
        · rcases List.mem_append.1 hy with hy | hy
          · exact l2 y hy
          · rw [List.mem_singleton.1 hy]
            exact h5
        · by_cases hjk : j < k
          · rw [List.getElem?_append_left (by omega)] at hj
            exact l3 j p hj
          · have hjl := (List.getElem?_eq_some_iff.1 hj).1
            simp at hjl
            obtain rfl : j = k := by omega
            rw [List.getElem?_append_right (by omega), l1, Nat.sub_self] at hj
            simp at hj
            subst hj
            obtain ⟨c1, c2, c3⟩ := World.cells?_some h2
            rw [hc] at c2 c3
            refine ⟨cs', c2, h4, fun i u hu => ?_⟩
            have hi : i < d.sz := by
              have := (List.getElem?_eq_some_iff.1 hu).1
              omega
            have := c3 i hi
            rw [hu] at this
            rw [← this]
            congr 1
            exact (Addr.add_add a _ _).symm
    obtain ⟨l, l1, l2, l3⟩ := hall len (Nat.le_refl _)
    subst l1
    refine ⟨l, ⟨some a, cap, rfl, hl, rfl, by unfold maxLen at hm; omega, fun _ => ⟨a, rfl, l3⟩⟩, ?_, l2⟩
    have := hs' _ (.inl rfl)
    rw [hlen] at this
    exact Nat.le_trans (Nat.mul_le_mul_right _ (by omega)) this
end

/-- An argument that is let in. -/
theorem Op.trod {α : Type} {P : Program} {W : World} {t : TypeId} {d : Kd α} {good : α → Prop} (h : Op P W t d good) {H : Type} {enc : TypeId × Value → H} {spare : Nat → Bool} {held : Bool} {base : Nat} {v : Value} {x : DataW H} {ps : List MemPlace} {ts : List TypeId} {ds : List (DataW H)} {j : Nat}
    (ht : DataW.Trod enc P W base spare held t v x ps) (hsz : (DataW.weightsEach P ts ds).all (· ≤ reachBytes) = true) (h1 : ts[j]? = some t) (h2 : ds[j]? = some x) : ∃ a : α, d.K W a v.cells.toList ∧ good a := by
  obtain ⟨fuel, hf⟩ := ht
  exact h H enc base spare held fuel _ _ hf (fun n hn => by simpa using List.all_eq_true.1 hsz n (DataW.weights_mem_each h1 h2 n hn))
end Go.Proofs.Ytljahhgankcalaa

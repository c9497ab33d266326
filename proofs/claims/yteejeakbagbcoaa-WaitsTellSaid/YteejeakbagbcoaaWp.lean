import Derived.Test.YteejeakbagbcoaaProg
/-! Paths along waits: the plain law. -/
namespace Go.Proofs.Yteejeakbagbcoaa
set_option linter.unusedVariables false

abbrev Edges := List (Int × Int)
/-- b is come to from a in n + 1 steps. -/
def Steps (es : Edges) : Nat → Int → Int → Prop
  | 0, a, b => (a, b) ∈ es
  | n + 1, a, b => ∃ c, Steps es n a c ∧ (c, b) ∈ es
/-- b is come to from a. -/
def Path (es : Edges) (a b : Int) : Prop := ∃ n, Steps es n a b

section
variable {es es' : Edges} {a b c : Int}
theorem Path.one (h : (a, b) ∈ es) : Path es a b := ⟨0, h⟩
theorem Path.more (h : Path es a b) (h2 : (b, c) ∈ es) : Path es a c := by
  obtain ⟨n, h⟩ := h
  exact ⟨n + 1, b, h, h2⟩
theorem Path.rec' {S : Int → Prop} (h1 : ∀ k, (a, k) ∈ es → S k) (h2 : ∀ n k, Path es a n → S n → (n, k) ∈ es → S k) (h : Path es a b) : S b := by
  obtain ⟨n, h⟩ := h
  induction n generalizing b with
  | zero => exact h1 b h
  | succ n ih =>
    obtain ⟨c, hc, he⟩ := h
    exact h2 c b ⟨n, hc⟩ (ih hc) he
theorem Path.trans (h : Path es a b) (h2 : Path es b c) : Path es a c :=
  Path.rec' (S := fun x => Path es a x) (fun k hk => h.more hk) (fun n k _ hn hk => hn.more hk) h2
theorem Path.cons (h : (a, b) ∈ es) (h2 : Path es b c) : Path es a c := (Path.one h).trans h2
theorem Path.mono (hs : ∀ e ∈ es, e ∈ es') (h : Path es a b) : Path es' a b :=
  Path.rec' (S := fun x => Path es' a x) (fun k hk => Path.one (hs _ hk)) (fun n k _ hn hk => hn.more (hs _ hk)) h
theorem Path.first (h : Path es a b) : (a, b) ∈ es ∨ ∃ c, (a, c) ∈ es ∧ Path es c b :=
  Path.rec' (S := fun x => (a, x) ∈ es ∨ ∃ c, (a, c) ∈ es ∧ Path es c x) (fun k hk => .inl hk) (fun n k _ hn hk => by
    rcases hn with hn | ⟨c, hc, hn⟩
    · exact .inr ⟨n, hn, Path.one hk⟩
    · exact .inr ⟨c, hc, hn.more hk⟩) h
theorem Path.head (h : Path es a b) : ∃ c, (a, c) ∈ es := by
  rcases h.first with h | ⟨c, hc, _⟩
  · exact ⟨b, h⟩
  · exact ⟨c, hc⟩
theorem Path.last (h : Path es a b) : ∃ c, (c, b) ∈ es ∧ (c = a ∨ Path es a c) :=
  Path.rec' (S := fun x => ∃ c, (c, x) ∈ es ∧ (c = a ∨ Path es a c)) (fun k hk => ⟨a, hk, .inl rfl⟩) (fun n k hp _ hk => ⟨n, hk, .inr hp⟩) h
def flip (es : Edges) : Edges := es.map fun e => (e.2, e.1)
theorem mem_flip : (a, b) ∈ flip es ↔ (b, a) ∈ es := by
  unfold flip
  rw [List.mem_map]
  constructor
  · rintro ⟨⟨x, y⟩, h, he⟩
    cases he
    exact h
  · intro h
    exact ⟨(b, a), h, rfl⟩
theorem flip_flip : ∀ (es : Edges), flip (flip es) = es
  | [] => rfl
  | e :: es => by
    have := flip_flip es
    unfold flip at this ⊢
    simp only [List.map_cons, this]
theorem Path.flip1 (h : Path es a b) : Path (flip es) b a :=
  Path.rec' (S := fun x => Path (flip es) x a) (fun k hk => Path.one (mem_flip.2 hk)) (fun n k _ hn hk => Path.cons (mem_flip.2 hk) hn) h
theorem path_flip : Path (flip es) a b ↔ Path es b a := ⟨fun h => by have := h.flip1; rwa [flip_flip] at this, fun h => h.flip1⟩
theorem path_same (hs : ∀ e, e ∈ es ↔ e ∈ es') : Path es a b ↔ Path es' a b := ⟨Path.mono (fun e he => (hs e).1 he), Path.mono (fun e he => (hs e).2 he)⟩
end

/-- Numbers that rise are told by what is among them. -/
theorem rise_ext : ∀ {l1 l2 : List Int}, l1.Pairwise (· < ·) → l2.Pairwise (· < ·) → (∀ x, x ∈ l1 ↔ x ∈ l2) → l1 = l2
  | [], [], _, _, _ => rfl
  | [], y :: l2, _, _, h => absurd ((h y).2 (List.mem_cons_self)) (by simp)
  | x :: l1, [], _, _, h => absurd ((h x).1 (List.mem_cons_self)) (by simp)
  | x :: l1, y :: l2, h1, h2, h => by
    obtain ⟨a1, b1⟩ := List.pairwise_cons.1 h1
    obtain ⟨a2, b2⟩ := List.pairwise_cons.1 h2
    have e : x = y := by
      rcases List.mem_cons.1 ((h x).1 (List.mem_cons_self)) with e | hx
      · exact e
      · rcases List.mem_cons.1 ((h y).2 (List.mem_cons_self)) with e | hy
        · exact e.symm
        · have := a1 y hy
          have := a2 x hx
          omega
    subst e
    have ih := rise_ext b1 b2 (fun z => by
      have := h z
      simp only [List.mem_cons] at this
      constructor
      · intro hz
        rcases this.1 (.inr hz) with e | hz2
        · subst e; exact absurd (a1 z hz) (by omega)
        · exact hz2
      · intro hz
        rcases this.2 (.inr hz) with e | hz2
        · subst e; exact absurd (a2 z hz) (by omega)
        · exact hz2)
    rw [ih]

/-- What the three functions tell. -/
def IsReach (es : Edges) (a : Int) (l : List Int) : Prop := l.Pairwise (· < ·) ∧ ∀ x, x ∈ l ↔ Path es a x
def IsCircle (es : Edges) (a : Int) (l : List Int) : Prop := l.Pairwise (· < ·) ∧ ∀ x, x ∈ l ↔ Path es a x ∧ Path es x a
def IsAny (es : Edges) (l : List Int) : Prop := l.Pairwise (· < ·) ∧ ∀ x, x ∈ l ↔ Path es x x

theorem nodup_subI : ∀ (l1 l2 : List Int), l1.Nodup → (∀ x ∈ l1, x ∈ l2) → l1.length ≤ l2.length
  | [], _, _, _ => Nat.zero_le _
  | x :: l1, l2, hn, h => by
    obtain ⟨hx, hn⟩ := List.nodup_cons.1 hn
    have hm := h x (List.mem_cons_self)
    have ih := nodup_subI l1 (l2.erase x) hn (fun y hy => (List.mem_erase_of_ne (fun e => hx (by rw [← e]; exact hy))).2 (h y (List.mem_cons_of_mem _ hy)))
    have := List.length_erase_of_mem hm
    have := List.length_pos_of_mem hm
    simp only [List.length_cons]
    omega

/-! The document's way: as long as someone comes along. -/
def rStep (a : Int) (out : List Int) (e : Int × Int) : List Int := if (e.1 = a ∨ e.1 ∈ out) ∧ e.2 ∉ out then out ++ [e.2] else out
def rRound (es : Edges) (a : Int) (out : List Int) : List Int := es.foldl (rStep a) out
def rRounds (es : Edges) (a : Int) : Nat → List Int
  | 0 => []
  | n + 1 => rRound es a (rRounds es a n)
def reachL (es : Edges) (a : Int) : List Int := rRounds es a (es.length + 1)

theorem rStep_len (a : Int) (out : List Int) (e : Int × Int) : out.length ≤ (rStep a out e).length ∧ ((rStep a out e).length = out.length → rStep a out e = out) := by
  unfold rStep
  split <;> simp
theorem rStep_sub (a : Int) (out : List Int) (e : Int × Int) {x : Int} (h : x ∈ out) : x ∈ rStep a out e := by
  unfold rStep
  split
  · exact List.mem_append_left _ h
  · exact h
theorem foldl_len (a : Int) : ∀ (es : Edges) (out : List Int), out.length ≤ (es.foldl (rStep a) out).length ∧ ((es.foldl (rStep a) out).length = out.length → es.foldl (rStep a) out = out ∧ ∀ e ∈ es, (e.1 = a ∨ e.1 ∈ out) → e.2 ∈ out)
  | [], out => ⟨Nat.le_refl _, fun _ => ⟨rfl, by simp⟩⟩
  | e :: es, out => by
    obtain ⟨h1, h2⟩ := foldl_len a es (rStep a out e)
    obtain ⟨h3, h4⟩ := rStep_len a out e
    simp only [List.foldl_cons]
    refine ⟨by omega, fun h => ?_⟩
    have h5 := h4 (by omega)
    obtain ⟨h6, h7⟩ := h2 (by omega)
    rw [h5] at h6 h7
    rw [h5]
    refine ⟨h6, fun x hx hc => ?_⟩
    rcases List.mem_cons.1 hx with rfl | hx
    · by_cases hm : x.2 ∈ out
      · exact hm
      · have : rStep a out x = out ++ [x.2] := by unfold rStep; rw [if_pos ⟨hc, hm⟩]
        rw [this] at h5
        have := congrArg List.length h5
        simp at this
    · exact h7 x hx hc
theorem foldl_inv {S : List Int → Prop} (a : Int) : ∀ (es : Edges) (out : List Int), S out → (∀ out e, e ∈ es → S out → S (rStep a out e)) → S (es.foldl (rStep a) out)
  | [], out, h, _ => h
  | e :: es, out, h, hs => by
    simp only [List.foldl_cons]
    exact foldl_inv a es _ (hs _ e (List.mem_cons_self) h) (fun o e' he => hs o e' (List.mem_cons_of_mem _ he))
theorem rRounds_inv {S : List Int → Prop} (es : Edges) (a : Int) (h0 : S []) (hs : ∀ out e, e ∈ es → S out → S (rStep a out e)) : ∀ n, S (rRounds es a n)
  | 0 => h0
  | n + 1 => foldl_inv a es _ (rRounds_inv es a h0 hs n) hs
theorem rRounds_path (es : Edges) (a : Int) (n : Nat) : ∀ x ∈ rRounds es a n, Path es a x :=
  rRounds_inv (S := fun out => ∀ x ∈ out, Path es a x) es a (by simp) (fun out e he h x hx => by
    unfold rStep at hx
    split at hx
    · rename_i hc
      rcases List.mem_append.1 hx with hx | hx
      · exact h x hx
      · rw [List.mem_singleton.1 hx]
        rcases hc.1 with h1 | h1
        · exact Path.one (by rw [← h1]; exact he)
        · exact (h _ h1).more he
    · exact h x hx) n
theorem rRounds_nodup (es : Edges) (a : Int) (n : Nat) : (rRounds es a n).Nodup :=
  rRounds_inv (S := fun out => out.Nodup) es a List.nodup_nil (fun out e he h => by
    unfold rStep
    split
    · rename_i hc
      rw [List.nodup_append]
      exact ⟨h, by simp, fun x hx y hy e' => hc.2 (by rw [List.mem_singleton.1 hy] at e'; rwa [← e'])⟩
    · exact h) n
theorem rRounds_len (es : Edges) (a : Int) (n : Nat) : (rRounds es a n).length ≤ es.length := by
  have := nodup_subI _ (es.map (·.2)) (rRounds_nodup es a n) (fun x hx => by
    obtain ⟨c, hc, _⟩ := (rRounds_path es a n x hx).last
    exact List.mem_map.2 ⟨(c, x), hc, rfl⟩)
  simpa using this
/-- After n rounds: all is told, or there are n of them at least. -/
theorem rRounds_far (es : Edges) (a : Int) : ∀ n, (∀ e ∈ es, (e.1 = a ∨ e.1 ∈ rRounds es a n) → e.2 ∈ rRounds es a n) ∨ n ≤ (rRounds es a n).length
  | 0 => .inr (Nat.zero_le _)
  | n + 1 => by
    obtain ⟨h1, h2⟩ := foldl_len a es (rRounds es a n)
    have e1 : rRounds es a (n + 1) = es.foldl (rStep a) (rRounds es a n) := rfl
    rw [e1]
    by_cases he : (es.foldl (rStep a) (rRounds es a n)).length = (rRounds es a n).length
    · obtain ⟨h3, h4⟩ := h2 he
      rw [h3]
      exact .inl h4
    · rcases rRounds_far es a n with h | h
      · exfalso
        apply he
        have : es.foldl (rStep a) (rRounds es a n) = rRounds es a n :=
          foldl_inv (S := fun out => out = rRounds es a n) a es _ rfl (fun out e hm ho => by
            subst ho
            unfold rStep
            split
            · rename_i hc
              exact absurd (h e hm hc.1) hc.2
            · rfl)
        rw [this]
      · right
        omega
theorem mem_reachL (es : Edges) (a x : Int) : x ∈ reachL es a ↔ Path es a x := by
  constructor
  · exact rRounds_path es a _ x
  · intro h
    rcases rRounds_far es a (es.length + 1) with hc | hc
    · exact Path.rec' (S := fun x => x ∈ reachL es a) (fun k hk => hc (a, k) hk (.inl rfl)) (fun n k _ hn hk => hc (n, k) hk (.inr hn)) h
    · have := rRounds_len es a (es.length + 1)
      omega
theorem reachL_nodup (es : Edges) (a : Int) : (reachL es a).Nodup := rRounds_nodup es a _
end Go.Proofs.Yteejeakbagbcoaa

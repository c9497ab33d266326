import Derived.Test.YtjngkcnanhnopaaGreatDoorJd
/-! The join by renaming: the new names found, the outcomes held against each other; sound. -/
namespace Go.Proofs.YtjngkcnanhnopaaGreatDoor.Ev
open Go Go.RowKit
set_option linter.unusedVariables false
set_option linter.unusedSimpArgs false

structure Tv where
  n : Nat
  m : Tr Nat
  g : Tr Nat
  gh : Tr Nat
def flatE : List (V × V × Nat) → List V → List V
  | [], l => l
  | p :: es, l => p.1 :: p.2.1 :: .stamp p.2.2 :: flatE es l
def contO (o : O) (todo : List V) : List V := match o with
  | .cells l _ _ => l ++ todo
  | .map es _ => flatE (sortE es) todo
  | _ => todo
def clockT (base b : Nat) (o : O) (s : Tv) : Tv := match o with
  | .map _ (some k) => cond (Nat.blt k base) s ⟨s.n + 1, s.m, s.g.set s.n (some k), s.gh.set b (some s.n)⟩
  | _ => s
def visit (h : H) (base b : Nat) (todo : List V) (s : Tv) : List V × Tv := cond (Nat.blt b base) (todo, s) (match s.m.get b with
  | some _ => (todo, s)
  | none => match h.get b with
    | some o => (contO o todo, clockT base b o ⟨s.n + 1, s.m.set b (some s.n), s.g.set s.n (some b), s.gh⟩)
    | none => (todo, ⟨s.n + 1, s.m.set b (some s.n), s.g.set s.n (some b), s.gh⟩))
def trav (h : H) (base : Nat) : Nat → List V → Tv → Tv
  | 0, _, s => s
  | _ + 1, [], s => s
  | k + 1, v :: todo, s => match v with
    | .ptr (some p) => (match visit h base p.1 todo s with
      | (t, s') => trav h base k t s')
    | .slice (some p) _ _ => (match visit h base p.1 todo s with
      | (t, s') => trav h base k t s')
    | .map (some b) => (match visit h base b todo s with
      | (t, s') => trav h base k t s')
    | .stamp b => (match visit h base b todo s with
      | (t, s') => trav h base k t s')
    | .func _ f c => trav h base k (f ++ (c ++ todo)) s
    | .iface _ x => trav h base k (x :: todo) s
    | .agg l => trav h base k (l ++ todo) s
    | .tuple l => trav h base k (l ++ todo) s
    | _ => trav h base k todo s
def startA (h : H) (base : Nat) : List Nat → List V → Tv → List V × Tv
  | [], todo, s => (todo, s)
  | b :: A, todo, s => match h.get b with
    | some o => startA h base A (contO o todo) (clockT base b o s)
    | none => startA h base A todo s
def renOf (h : H) (base : Nat) (A : List Nat) (v : V) : Ren := match startA h base A [v] ⟨base, .leaf, .leaf, .leaf⟩ with
  | (todo, s) => match trav h base 1000000 todo s with
    | ⟨n, m, g, gh⟩ => ⟨base, base + (n - base), m, g, gh⟩
theorem renOf_base (h : H) (base : Nat) (A : List Nat) (v : V) : (renOf h base A v).base = base := rfl
theorem renOf_top (h : H) (base : Nat) (A : List Nat) (v : V) : (renOf h base A v).top = base + ((renOf h base A v).top - base) := by
  have : base ≤ (renOf h base A v).top := Nat.le_add_right _ _
  omega
def objA (r : Ren) (h : H) (b : Nat) : Option O := match h.get b with
  | some o => renO r b o
  | none => none
def objN (r : Ren) (h : H) (n : Nat) : Option O := match r.src n with
  | some b => cond (isB (r.m.get b) n) (objA r h b) none
  | none => none
def newsO (r : Ren) (h : H) : Nat → Nat → List (Option O)
  | _, 0 => []
  | n, c + 1 => objN r h n :: newsO r h (n + 1) c
theorem newsO_len (r : Ren) (h : H) : ∀ (c n : Nat), (newsO r h n c).length = c
  | 0, _ => rfl
  | c + 1, n => by simp [newsO, newsO_len r h c]
def putA : List Nat → List (Option O) → Tr O → Tr O
  | b :: A, o :: os, t => putA A os (t.set b o)
  | _, _, t => t
def putN : Nat → List (Option O) → Tr O → Tr O
  | _, [], t => t
  | n, o :: os, t => putN (n + 1) os (t.set n o)
theorem putA_get (F : Nat → Option O) : ∀ (A : List Nat) (t : Tr O) (b : Nat), (putA A (A.map F) t).get b = if b ∈ A then F b else t.get b
  | [], t, b => by simp [putA]
  | a :: A, t, b => by
    rw [List.map_cons, putA, putA_get F A, Tr.get_set]
    by_cases h1 : b ∈ A
    · simp [h1]
    · by_cases h2 : b = a
      · subst h2; simp
      · simp [h1, h2]
theorem putN_get (r : Ren) (h : H) : ∀ (c n : Nat) (t : Tr O) (b : Nat), (putN n (newsO r h n c) t).get b = if n ≤ b ∧ b < n + c then objN r h b else t.get b
  | 0, n, t, b => by
    rw [if_neg (by omega)]; rfl
  | c + 1, n, t, b => by
    rw [newsO, putN, putN_get r h c, Tr.get_set]
    by_cases h1 : b = n
    · subst h1
      rw [if_neg (by omega), if_pos rfl, if_pos (by omega)]
    · by_cases h2 : n ≤ b ∧ b < n + (c + 1)
      · rw [if_pos (by omega), if_pos h2]
      · rw [if_neg (by omega), if_neg h1, if_neg h2]
def sameOb : O → O → Bool
  | .cells l t o, .cells l' t' o' => Nat.beq t t' && sameLs o o' && sameVs l l'
  | .map es ls, .map es' ls' => sameLs ls ls' && sameEs es es'
  | _, _ => false
where sameEs : List (V × V × Nat) → List (V × V × Nat) → Bool
  | [], [] => true
  | p :: l, q :: r => Nat.beq p.2.2 q.2.2 && sameV p.1 q.1 && sameV p.2.1 q.2.1 && sameEs l r
  | _, _ => false
theorem sameEs_eq : ∀ (l r : List (V × V × Nat)), sameOb.sameEs l r = true → l = r
  | [], [], _ => rfl
  | [], _ :: _, h => by simp [sameOb.sameEs] at h
  | _ :: _, [], h => by simp [sameOb.sameEs] at h
  | (a, b, c) :: l, (a', b', c') :: r, h => by
    simp only [sameOb.sameEs, Bool.and_eq_true] at h
    rw [Nat.eq_of_beq_eq_true h.1.1.1, sameV_eq _ _ h.1.1.2, sameV_eq _ _ h.1.2, sameEs_eq l r h.2]
theorem sameOb_eq : ∀ (a b : O), sameOb a b = true → a = b := by
  intro a b h
  unfold sameOb at h
  split at h
  · simp only [Bool.and_eq_true] at h
    rw [Nat.eq_of_beq_eq_true h.1.1, sameLs_eq h.1.2, sameVs_eq _ _ h.2]
  · simp only [Bool.and_eq_true] at h
    rw [sameLs_eq h.1, sameEs_eq _ _ h.2]
  · cases h
def sameObs : List (Option O) → List (Option O) → Bool
  | [], [] => true
  | none :: l, none :: r => sameObs l r
  | some a :: l, some b :: r => sameOb a b && sameObs l r
  | _, _ => false
theorem sameObs_eq : ∀ (l r : List (Option O)), sameObs l r = true → l = r
  | [], [], _ => rfl
  | none :: l, none :: r, h => by simp only [sameObs] at h; rw [sameObs_eq l r h]
  | some a :: l, some b :: r, h => by
    simp only [sameObs, Bool.and_eq_true] at h
    rw [sameOb_eq a b h.1, sameObs_eq l r h.2]
  | [], _ :: _, h => by simp [sameObs] at h
  | none :: _, [], h => by simp [sameObs] at h
  | some _ :: _, [], h => by simp [sameObs] at h
  | none :: _, some _ :: _, h => by simp [sameObs] at h
  | some _ :: _, none :: _, h => by simp [sameObs] at h
/-- One outcome, in new names. -/
structure Can where
  v : V
  news : List (Option O)
  olds : List (Option O)
def canOf (base : Nat) (A : List Nat) (r : V × H) (R : Ren) : Option Can := match renV R r.1 with
  | some v => some ⟨v, newsO R r.2 base (R.top - base), A.map (objA R r.2)⟩
  | none => none
def isoOne (h0 : H) (A : List Nat) (r : V × H) : Option Can :=
  cond (Nat.beq r.2.frz h0.nxt && r.2.log.all fun b => A.any (Nat.beq b)) (canOf h0.nxt A r (renOf r.2 h0.nxt A r.1)) none
def mkH (h0 : H) (A : List Nat) (c : Can) : H := ⟨putN h0.nxt c.news (putA A c.olds h0.heap), h0.nxt + c.news.length, h0.frz, (A.filter fun b => Nat.blt b h0.frz) ++ h0.log⟩
def sameCan : Can → Option Can → Bool
  | c, some d => sameV c.v d.v && sameObs c.news d.news && sameObs c.olds d.olds
  | _, none => false
theorem sameCan_eq {c : Can} {d : Option Can} (h : sameCan c d = true) : d = some c := by
  cases d with
  | none => cases h
  | some d =>
    simp only [sameCan, Bool.and_eq_true] at h
    obtain ⟨⟨h1, h2⟩, h3⟩ := h
    cases c; cases d
    dsimp only at h1 h2 h3
    rw [sameV_eq _ _ h1, sameObs_eq _ _ h2, sameObs_eq _ _ h3]
def addA : List Nat → List Nat → List Nat
  | [], A => A
  | b :: l, A => cond (A.any (Nat.beq b)) (addA l A) (addA l (b :: A))
def logsA : List (V × H) → List Nat → List Nat
  | [], A => A
  | r :: l, A => logsA l (addA r.2.log A)
def isoGo (h0 : H) (A : List Nat) (rest : List (V × H)) : Option Can → Option (V × H)
  | some c => cond (rest.all fun q => sameCan c (isoOne h0 A q)) (some (c.v, mkH h0 A c)) none
  | none => none
def isoA (h0 : H) (r : V × H) (rest : List (V × H)) (A : List Nat) : Option (V × H) :=
  cond (A.all fun b => Nat.blt b h0.nxt && (h0.get b).isSome) (isoGo h0 A rest (isoOne h0 A r)) none
def isoV (h0 : H) : List (V × H) → Option (V × H)
  | [] => none
  | r :: rest => isoA h0 r rest (logsA (r :: rest) [])
section
variable {P : Program} {w0 w w' : World} {e e1 : E} {h0 : H}
theorem canon_ok (R : Rel w0 e h0 w) {A : List Nat} {r : V × H} {c : Can} (hA : ∀ b ∈ A, b < h0.nxt ∧ (h0.get b).isSome = true) (q : isoOne h0 A r = some c) {x : Value} (hle : e.le e1) (hx : vrel e1 r.1 x) (R' : Rel w e1 r.2 w') :
    ∃ e2, e.le e2 ∧ vrel e2 c.v x ∧ Rel w0 e2 (mkH h0 A c) w' := by
  unfold isoOne at q
  cases hc : (Nat.beq r.2.frz h0.nxt && r.2.log.all fun b => A.any (Nat.beq b)) with
  | false => rw [hc] at q; cases q
  | true =>
    rw [hc] at q
    simp only [cond_true] at q
    simp only [Bool.and_eq_true] at hc
    have hfz := Nat.eq_of_beq_eq_true hc.1
    have hlog : ∀ b ∈ r.2.log, b ∈ A := fun b hb => by
      obtain ⟨b', h1, h2⟩ := List.any_eq_true.1 (List.all_eq_true.1 hc.2 b hb)
      rw [Nat.eq_of_beq_eq_true h2]; exact h1
    unfold canOf at q
    split at q
    · rename_i v hv
      cases q
      have hb : (renOf r.2 h0.nxt A r.1).base = h0.nxt := renOf_base _ _ _ _
      have ht := renOf_top r.2 h0.nxt A r.1
      generalize renOf r.2 h0.nxt A r.1 = N at hv hb ht
      have back : ∀ b k, b < h0.nxt → e1.ρ b = some k → e.ρ b = some k := fun b k hlt hk => by
        cases he : e.ρ b with
        | none => rw [hle.old b (by rw [R.lim]; exact hlt) he] at hk; cases hk
        | some k' => rw [hle.ρ _ _ he] at hk; exact hk
      have oldρ : ∀ n, n < h0.nxt → (N.env e1).ρ n = e1.ρ n := fun n hn => Ren.env_ρ (Ren.src_old (by rw [hb]; exact hn))
      have oldκ : ∀ n, n < h0.nxt → (N.env e1).κ n = e1.κ n := fun n hn => Ren.env_κ (Ren.src_old (by rw [hb]; exact hn))
      have newρ : ∀ n k, h0.nxt ≤ n → (N.env e1).ρ n = some k → ∃ b, N.src n = some b ∧ n < N.top ∧ h0.nxt ≤ b ∧ e1.ρ b = some k := fun n k hn hk => by
        cases hs : N.src n with
        | none => have hk : (N.src n).bind e1.ρ = some k := hk; rw [hs] at hk; cases hk
        | some b =>
          rw [Ren.env_ρ hs] at hk
          have := Ren.src_new (by rw [hb]; exact hn) hs
          exact ⟨b, rfl, this.1, by rw [← hb]; exact this.2.2, hk⟩
      have le2 : e.le (N.env e1) := by
        refine ⟨fun b k hk => ?_, fun b k hk => ?_, ?_, fun b hlt hk => ?_, fun b hlt hk => ?_⟩
        · rw [oldρ b (R.lt _ _ hk)]; exact hle.ρ _ _ hk
        · rw [oldκ b (R.klt _ _ hk)]; exact hle.κ _ _ hk
        · rw [R.lim]; show h0.nxt ≤ N.top; omega
        · rw [R.lim] at hlt; rw [oldρ b hlt]; exact hle.old b (by rw [R.lim]; exact hlt) hk
        · rw [R.lim] at hlt; rw [oldκ b hlt]; exact hle.kold b (by rw [R.lim]; exact hlt) hk
      have hlen := newsO_len N r.2 (N.top - h0.nxt) h0.nxt
      have hnx : (mkH h0 A ⟨v, newsO N r.2 h0.nxt (N.top - h0.nxt), A.map (objA N r.2)⟩).nxt = N.top := by
        show h0.nxt + (newsO N r.2 h0.nxt (N.top - h0.nxt)).length = N.top
        rw [hlen]; omega
      have hget : ∀ n, (mkH h0 A ⟨v, newsO N r.2 h0.nxt (N.top - h0.nxt), A.map (objA N r.2)⟩).get n = if h0.nxt ≤ n ∧ n < N.top then objN N r.2 n else if n ∈ A then objA N r.2 n else h0.get n := fun n => by
        show (putN h0.nxt (newsO N r.2 h0.nxt (N.top - h0.nxt)) (putA A (A.map (objA N r.2)) h0.heap)).get n = _
        rw [putN_get, putA_get]
        have e3 : h0.nxt + (N.top - h0.nxt) = N.top := by omega
        rw [e3]; rfl
      have src : ∀ n o k, (mkH h0 A ⟨v, newsO N r.2 h0.nxt (N.top - h0.nxt), A.map (objA N r.2)⟩).get n = some o → (N.env e1).ρ n = some k →
          (∃ b o1, N.src n = some b ∧ e1.ρ b = some k ∧ r.2.get b = some o1 ∧ renO N b o1 = some o ∧ (h0.nxt ≤ n → h0.nxt ≤ b ∧ N.m.get b = some n) ∧ (n < h0.nxt → b = n ∧ n ∈ A)) ∨
          (n < h0.nxt ∧ n ∉ A ∧ h0.get n = some o ∧ e.ρ n = some k) := fun n o k hg hk => by
        rw [hget] at hg
        by_cases hn : h0.nxt ≤ n
        · obtain ⟨b, s1, s2, s3, s4⟩ := newρ n k hn hk
          rw [if_pos ⟨hn, s2⟩] at hg
          unfold objN at hg
          rw [s1] at hg
          dsimp only at hg
          cases hm : isB (N.m.get b) n with
          | false => rw [hm] at hg; cases hg
          | true =>
            rw [hm] at hg
            simp only [cond_true] at hg
            unfold objA at hg
            split at hg
            · rename_i o1 ho1
              exact .inl ⟨b, o1, s1, s4, ho1, hg, fun _ => ⟨s3, isB_eq hm⟩, fun hlt => absurd hlt (Nat.not_lt.2 hn)⟩
            · cases hg
        · have hlt : n < h0.nxt := Nat.lt_of_not_le hn
          rw [if_neg (fun hh => hn hh.1)] at hg
          rw [oldρ n hlt] at hk
          by_cases hA' : n ∈ A
          · rw [if_pos hA'] at hg
            unfold objA at hg
            split at hg
            · rename_i o1 ho1
              exact .inl ⟨n, o1, Ren.src_old (by rw [hb]; exact hlt), hk, ho1, hg, fun hh => absurd hh hn, fun _ => ⟨rfl, hA'⟩⟩
            · cases hg
          · rw [if_neg hA'] at hg
            exact .inr ⟨hlt, hA', hg, back n k hlt hk⟩
      -- an older block that was written is one of A
      have logA : ∀ k, logged e1 r.2.log k → ∃ b ∈ A, b < h0.nxt ∧ e.ρ b = some k ∧ (h0.get b).isSome = true := fun k hk => by
        obtain ⟨b, h1, h2⟩ := hk
        have h3 := hlog b h1
        exact ⟨b, h3, (hA b h3).1, back b k (hA b h3).1 h2, (hA b h3).2⟩
      have notA : ∀ n o k, n ∉ A → h0.get n = some o → e.ρ n = some k → ¬ logged e1 r.2.log k := fun n o k hnA hg hk hl => by
        obtain ⟨b, h1, h2, h3, h4⟩ := logA k hl
        obtain ⟨ob, hob⟩ := Option.isSome_iff_exists.1 h4
        exact hnA (R.inj b n k ob o h3 hk hob hg ▸ h1)
      have hl2 : ∀ k, logged e h0.log k → logged (N.env e1) (mkH h0 A ⟨v, newsO N r.2 h0.nxt (N.top - h0.nxt), A.map (objA N r.2)⟩).log k := fun k hk => hk.mono le2.ρ fun b hb => List.mem_append.2 (.inr hb)
      have hl3 : ∀ k, logged e1 r.2.log k → w0.heap.size ≤ k ∨ logged (N.env e1) (mkH h0 A ⟨v, newsO N r.2 h0.nxt (N.top - h0.nxt), A.map (objA N r.2)⟩).log k := fun k hk => by
        obtain ⟨b, h1, h2, h3, h4⟩ := logA k hk
        by_cases hf : b < h0.frz
        · exact .inr ⟨b, List.mem_append.2 (.inl (List.mem_filter.2 ⟨h1, bltT.2 hf⟩)), le2.ρ _ _ h3⟩
        · exact ((R.new b k h3).1 (Nat.le_of_not_lt hf)).imp id (hl2 k)
      refine ⟨N.env e1, le2, renV_ok _ _ _ hv hx, ?_⟩
      refine ⟨fun n o k hg hk => ?_, fun n k hk => ?_, fun n k hk => ?_, fun n n' k o o' hk hk' hg hg' => ?_, fun n k hk => ?_, ?_, fun n hn => ?_, hnx.symm⟩
      · rcases src n o k hg hk with ⟨b, o1, s1, s2, s3, s4, _, _⟩ | ⟨s1, s2, s3, s4⟩
        · exact renO_ok s1 s4 (R'.heap b o1 k s3 s2)
        · rw [R'.bel.block k (R.new n k s4).2 (notA n o k s2 s3 s4)]
          exact orel_mono le2 (R.heap n o k s3 s4)
      · rw [hnx]
        by_cases hn : h0.nxt ≤ n
        · obtain ⟨_, _, s2, _⟩ := newρ n k hn hk; exact s2
        · omega
      · rw [hnx]
        by_cases hn : h0.nxt ≤ n
        · cases hs : N.src n with
          | none => have hk : (N.src n).bind e1.κ = some k := hk; rw [hs] at hk; cases hk
          | some b => exact (Ren.src_new (by rw [hb]; exact hn) hs).1
        · omega
      · rcases src n o k hg hk with ⟨b, o1, s1, s2, s3, s4, s5, s6⟩ | ⟨s1, s2, s3, s4⟩
        · rcases src n' o' k hg' hk' with ⟨b', o1', t1, t2, t3, t4, t5, t6⟩ | ⟨t1, t2, t3, t4⟩
          · have hbb := R'.inj b b' k o1 o1' s2 t2 s3 t3
            subst hbb
            by_cases hn : h0.nxt ≤ n <;> by_cases hn' : h0.nxt ≤ n'
            · have h1 := (s5 hn).2
              have h2 := (t5 hn').2
              rw [h1] at h2
              exact Option.some.inj h2
            · have h1 := (s5 hn).1
              have h2 := (t6 (Nat.lt_of_not_le hn')).1
              omega
            · have h1 := (t5 hn').1
              have h2 := (s6 (Nat.lt_of_not_le hn)).1
              omega
            · have h1 := (s6 (Nat.lt_of_not_le hn)).1
              have h2 := (t6 (Nat.lt_of_not_le hn')).1
              omega
          · exfalso
            by_cases hn : h0.nxt ≤ n
            · rcases (R'.new b k s2).1 (by rw [hfz]; exact (s5 hn).1) with h1 | h1
              · have := (R.new n' k t4).2; omega
              · exact notA n' o' k t2 t3 t4 h1
            · obtain ⟨h1, h2⟩ := s6 (Nat.lt_of_not_le hn)
              subst h1
              obtain ⟨ob, hob⟩ := Option.isSome_iff_exists.1 (hA b h2).2
              exact t2 (R.inj b n' k ob o' (back b k (hA b h2).1 s2) t4 hob t3 ▸ h2)
        · rcases src n' o' k hg' hk' with ⟨b', o1', t1, t2, t3, t4, t5, t6⟩ | ⟨t1, t2, t3, t4⟩
          · exfalso
            by_cases hn : h0.nxt ≤ n'
            · rcases (R'.new b' k t2).1 (by rw [hfz]; exact (t5 hn).1) with h1 | h1
              · have := (R.new n k s4).2; omega
              · exact notA n o k s2 s3 s4 h1
            · obtain ⟨h1, h2⟩ := t6 (Nat.lt_of_not_le hn)
              subst h1
              obtain ⟨ob, hob⟩ := Option.isSome_iff_exists.1 (hA b' h2).2
              exact s2 (R.inj b' n k ob o (back b' k (hA b' h2).1 t2) s4 hob s3 ▸ h2)
          · exact R.inj n n' k o o' s4 t4 s3 t3
      · by_cases hn : h0.nxt ≤ n
        · obtain ⟨b, s1, s2, s3, s4⟩ := newρ n k hn hk
          refine ⟨fun _ => ?_, (R'.new b k s4).2⟩
          rcases (R'.new b k s4).1 (by rw [hfz]; exact s3) with h1 | h1
          · exact .inl (Nat.le_trans R.bel.size h1)
          · exact hl3 k h1
        · have hlt := Nat.lt_of_not_le hn
          rw [oldρ n hlt] at hk
          have hk := back n k hlt hk
          exact ⟨fun hf => ((R.new n k hk).1 hf).imp id (hl2 k), Nat.lt_of_lt_of_le (R.new n k hk).2 R'.bel.size⟩
      · refine ⟨R'.bel.os.trans R.bel.os, R'.bel.tape.trans R.bel.tape, R'.bel.output.trans R.bel.output, Nat.le_trans R.bel.size R'.bel.size, fun k hk hn => ?_⟩
        rw [R'.bel.block k (Nat.lt_of_lt_of_le hk R.bel.size) (fun hl => ?_)]
        · exact R.bel.block k hk (fun hl => hn (hl2 k hl))
        · rcases hl3 k hl with h1 | h1
          · omega
          · exact hn h1
      · rw [hnx] at hn
        have htop : h0.nxt ≤ N.top := by omega
        rw [hget, if_neg (fun hh => by omega), if_neg (fun hh => by have := (hA n hh).1; omega)]
        exact R.fresh n (Nat.le_trans htop hn)
    · cases q
theorem isoV_ok (R : Rel w0 e h0 w) {rs : List (V × H)} {v : V} {h1 : H} (q : isoV h0 rs = some (v, h1)) {r : V × H} (hr : r ∈ rs) {x : Value} (hle : e.le e1) (hx : vrel e1 r.1 x) (R' : Rel w e1 r.2 w') :
    ∃ e2, e.le e2 ∧ vrel e2 v x ∧ Rel w0 e2 h1 w' := by
  unfold isoV at q
  split at q
  · cases q
  · rename_i r0 rest
    unfold isoA at q
    generalize logsA (r0 :: rest) [] = A at q
    cases hA : A.all fun b => Nat.blt b h0.nxt && (h0.get b).isSome with
    | false => rw [hA] at q; cases q
    | true =>
      rw [hA] at q
      simp only [cond_true] at q
      have hA' : ∀ b ∈ A, b < h0.nxt ∧ (h0.get b).isSome = true := fun b hb => by
        have := List.all_eq_true.1 hA b hb
        simp only [Bool.and_eq_true] at this
        exact ⟨bltT.1 this.1, this.2⟩
      cases hc : isoOne h0 A r0 with
      | none => rw [hc] at q; cases q
      | some c =>
        rw [hc] at q
        unfold isoGo at q
        dsimp only at q
        cases ha : rest.all fun q => sameCan c (isoOne h0 A q) with
        | false => rw [ha] at q; cases q
        | true =>
          rw [ha] at q
          cases q
          have hone : isoOne h0 A r = some c := by
            rcases List.mem_cons.1 hr with rfl | hr
            · exact hc
            · exact sameCan_eq (List.all_eq_true.1 ha r hr)
          exact canon_ok R hA' hone hle hx R'
end
/-- A function, run all ways; joined flat, or by renaming. -/
def joinR (P : Program) (ext : ExtT) (spec : SpecT) (draw : CallT → DrawT) (d : Nat) (g : FuncId) : H → List V → Option (V × H) := fun h args => match evCallN P ext spec draw d (.fn g args) h.frozen with
  | some rs => isoV h rs
  | none => none
def renSpec (P : Program) (ext : ExtT) (spec : SpecT) (draw : CallT → DrawT) (d : Nat) (l : List FuncId) : SpecT := fun g => cond (l.any (Nat.beq g)) (some (joinR P ext spec draw d g)) (spec g)
theorem renSpec_ok {P : Program} {ext : ExtT} {spec : SpecT} {draw : CallT → DrawT} {d : Nat} {l : List FuncId} (hnm : ∀ (g : FuncId) (fn : Func), P.funcs[g]? = some fn → (fn.name == "runtime.NumGoroutine") = false) (hex : ExtOk P ext) (hsp : SpecOk P spec) (hdr : ∀ call, CallOk P call → DrawOk P call (draw call))
    (hb : bodiesB P l = true) : SpecOk P (renSpec P ext spec draw d l) := by
  intro g f hf
  unfold renSpec at hf
  cases ha : l.any (Nat.beq g) with
  | false => rw [ha] at hf; exact hsp g f hf
  | true =>
    rw [ha] at hf
    cases hf
    obtain ⟨g', hg', hgg⟩ := List.any_eq_true.1 ha
    have := Nat.eq_of_beq_eq_true hgg
    subst this
    have hbody := List.all_eq_true.1 hb g hg'
    refine ⟨?_, fun w0 e h w args v h' q R xs hv n => ?_⟩
    · split at hbody
      · rename_i fn hfn
        exact ⟨fn, hfn, by simpa using hbody⟩
      · cases hbody
    · unfold joinR at q
      split at q
      · rename_i rs hrs
        have hc := evCallN_ok hnm hex hsp hdr d
        refine ((hc.fn hrs R.frozen xs hv).2 n).mono ?_
        rintro en w' ⟨r, hr, e', x, rfl, h1, h2, h3⟩
        obtain ⟨e'', t1, t2, t3⟩ := isoV_ok R q hr h1 h2 h3
        exact ⟨e'', x, rfl, t1, t2, t3⟩
      · cases q
end Go.Proofs.YtjngkcnanhnopaaGreatDoor.Ev

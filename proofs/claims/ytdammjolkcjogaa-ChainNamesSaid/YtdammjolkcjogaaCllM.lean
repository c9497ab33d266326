import Derived.Test.YtdammjolkcjogaaClkM
/-! ChainNames: nobody's instance; the instance of one row; the list of changes is made. -/
namespace Go.Proofs.Ytdammjolkcjogaa
open Go.RowKit Go.Maps Go.MapKept Go.WideMaps
open Go.Proofs.YtdammjolkcjogaaW.PrintWords Go.Proofs.YtdammjolkcjogaaW.PrintLast Go.Proofs.YtdammjolkcjogaaW.PrintMore
open PModelNames
set_option linter.unusedVariables false
set_option linter.unusedSimpArgs false
set_option maxRecDepth 100000 in
set_option maxHeartbeats 4000000 in
theorem apply_nil (w : World) : Calls Try.prog 18 #[st0, .pointer none, .agg #[.int .i64 0, .int .i64 0, .bool true, .slice none 0 0, .slice none 0 0, .string ⟨#[]⟩, .slice none 0 0]] w fun e w' => e = .returned (.tuple #[.slice none 0 0, .slice none 0 0, .bool false]) ∧ Below w.heap.size w w' := by
  have hr := Aside0.mk (fun (no i : Int) (W : World) => row_nil W no i)
  go_enter Try.func18, Try.ntmps18
  go_wp2_with fail
  refine (hr.out _ _ _).mono ?_
  rintro e w2 ⟨rfl, e2⟩
  subst e2
  go_wp2
  go_ret3
  exact ⟨rfl, ((Below.refl _ w).alloc (Nat.le_refl _) _).alloc (by simp) _⟩
set_option maxRecDepth 100000 in
set_option maxHeartbeats 4000000 in
theorem run_nil (s : Value) (w : World) : Calls Try.prog 19 #[st0, .pointer none, s] w fun e w' => e = .returned (.tuple #[.slice none 0 0, .int .i64 0]) ∧ Below w.heap.size w w' := by
  go_enter Try.func19, Try.ntmps19
  go_wp2
  go_ret2
  exact ⟨rfl, (Below.refl _ w).alloc (Nat.le_refl _) _⟩
def zv : AVal := ⟨0, 0, 0, ⟨#[]⟩⟩
theorem inst_one {w : World} {m : Nat} {F : Nat → Prop} (h : InstIs w m (MI.empty.put 1 1 [zv]) F [1]) : ∃ mb t r v, One w m mb t r v ∧ Kd.R kVal 53 w 0 (fun _ => True) v [zv] := by
  obtain ⟨mb, tb, rv, H, hD⟩ := h
  have hr : (MI.empty.put 1 1 [zv]).rows 1 1 = some [zv] := rfl
  cases htb : tb 1 with
  | none =>
    have := H.none_ 1 1 ((H.off 1 htb).1 1)
    rw [hr] at this
    cases this
  | some x =>
    obtain ⟨t, r⟩ := x
    cases hrv : rv 1 1 with
    | none =>
      have := H.none_ 1 1 hrv
      rw [hr] at this
      cases this
    | some v =>
      obtain ⟨h1, h2, _, _, _⟩ := H.tabs 1 t r htb
      obtain ⟨l, h3, h4⟩ := H.vals 1 1 v hrv
      rw [hr] at h3
      cases h3
      refine ⟨mb, t, r, v, ⟨H.blk, H.amap.congr (fun a => ?_), ?_, h2.congr (fun a => ?_)⟩, Kd.R_mono h4 (fun _ _ => trivial)⟩
      · unfold one1
        by_cases e : a = 1
        · subst e; rw [if_pos rfl, htb]
        · rw [if_neg e]
          cases hta : tb a with
          | none => rfl
          | some y => exact absurd (hD a y hta) (by simp [e])
      · rw [h1]
        have : (MI.empty.put 1 1 [zv]).last 1 = 1 := by decide
        rw [this]
      · unfold one1
        by_cases e : a = 1
        · subst e; rw [if_pos rfl, hrv]
        · rw [if_neg e]
          cases hta : rv 1 a with
          | none => rfl
          | some y =>
            obtain ⟨l, h5, _⟩ := H.vals 1 a y hta
            simp [MI.put, MI.empty, e] at h5
/-- Rows of n cells, as they are. -/
def kRaw (n : Nat) : Kd { l : List Value // l.length = n ∧ ∀ u ∈ l, u.oneCell' = true } where
  sz := n
  E := []
  K := fun _ x cs => cs = x.1
  M := fun _ _ _ x cs => cs = x.1
  K_len := fun {_ x _} h => by rw [h]; exact x.2.1
  K_one := fun {_ x _} h u hu => by rw [h] at hu; exact x.2.2 u hu
  K_below := fun _ h => h
  K_of_M := fun h => h
  M_mono := fun _ h => h
  M_bound := fun h => h
  M_move := fun _ h => h
  M_lower := fun _ h => h
def rawI (x : Option (Nat × Nat)) : { l : List Value // l.length = 7 ∧ ∀ u ∈ l, u.oneCell' = true } := ⟨icells x, by cases x <;> exact ⟨rfl, by simp [icells, Value.oneCell']⟩⟩
theorem items_of {w : World} {base : Nat} {ok : Nat → Prop} {v : Value} {its : List (Option (Nat × Nat))} (h : Kd.R (kRaw 7) 48 w base ok v (its.map rawI)) (h0 : 0 < its.length)
    (hv : ∀ (k gc gv : Nat), its[k]? = some (some (gc, gv)) → w.heap[gc]? = some (.cells #[.int .i64 0] 3 (0, 0)) ∧ w.heap[gv]? = some (.cells #[.int .u8 1, .int .i64 (k : Int), .int .i64 0, .string ⟨#[]⟩] 53 (0, 0))) :
    ∃ l c, v = .slice (some ⟨l, 0, none⟩) its.length c ∧ its.length ≤ c ∧ Items w l its ∧ base ≤ l := by
  obtain ⟨_, inner, ⟨hil, ho⟩, hr⟩ := h
  rw [List.length_map] at ho hil
  rcases ho with ⟨_, hn⟩ | ⟨g, cap, cur, rfl, hg, hh, hn, _, hsz, ht⟩
  · omega
  · have h7 : (kRaw 7).sz = 7 := rfl
    rw [h7] at hil hsz ht
    have hr2 := hr.2
    rw [h7] at hr2
    refine ⟨g, cap, rfl, hn, ⟨⟨cur, hh, by rw [hsz]; exact Nat.mul_le_mul_right _ hn, fun k x hk j hj => ?_⟩, hv⟩, hg⟩
    have h1 := hr2 k (rawI x) (by rw [List.getElem?_map, hk]; rfl)
    have h2 : (inner.drop (k * 7)).take 7 = icells x := h1
    have hkl := (List.getElem?_eq_some_iff.1 hk).1
    rw [← h2, List.getElem?_take, if_pos hj, List.getElem?_drop, ← ht, List.getElem?_take, if_pos (by omega)]
    simp
end Go.Proofs.Ytdammjolkcjogaa

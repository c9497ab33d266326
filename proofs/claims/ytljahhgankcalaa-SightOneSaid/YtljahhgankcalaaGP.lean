import Derived.Test.YtljahhgankcalaaGO
import Derived.Deep.RegionLaw
/-! SightOne: the acts: a savepoint is made. -/
namespace Go.Proofs.Ytljahhgankcalaa
open Go.RowKit Go.Maps Go.MapKept Go.WideMaps Go.Shelf
open Go.Proofs.YtljahhgankcalaaW.PrintWords Go.Proofs.YtljahhgankcalaaW.PrintLast Go.Proofs.YtljahhgankcalaaW.PrintMore
set_option linter.unusedVariables false
set_option linter.unusedSimpArgs false

section
variable {w2 wr w : World} {b h x cB kB sB wB m : Nat} {A : AH} {T : TT} {who : Nat → Tr} {com kept : Int → Int} {q : Int} {K : Nat → Prop} {vs vw : Nat → Value} {G : Nat → Nat → Prop} {wh : Value} {tk : Bool} {i k j n c0 e : Nat} {a : Act} {ad : Addr}
theorem Tr.sub_at {P : Tr} (he : P.length = e + 1) : ∃ h, (Tr.ids P)[e]'h = Tr.sub P := by
  have hil : (Tr.ids P).length = e + 1 := by rw [Tr.ids_len, he]
  refine ⟨by omega, ?_⟩
  have h1 : (Tr.ids P).getLast? = some ((Tr.ids P)[e]'(by omega)) := by
    rw [List.getLast?_eq_getElem?, show (Tr.ids P).length - 1 = e from by omega, List.getElem?_eq_getElem (by omega)]
  unfold Tr.sub
  rw [List.getLastD_eq_getLast?, h1]
  rfl
theorem Try.infoMapI : (Try.prog.info? 65).map (fun i => (i.zero, i.size, i.bytes)) = some (some (.map none), 1, 8) := by kernel_rfl
/-- The last ID of who acts. -/
theorem last_sub (H : OneAt w K cB kB sB wB (fun k => Tr.top (who k)) (fun k => Tr.ids (who k)) (fun k => Tr.maps (who k)) com kept q vs vw G) (hk : k < 3) (he : (who k).length = e + 1) :
    ∃ g cap, vs k = .slice (some ⟨g, 0, none⟩) (e + 1) cap ∧ e + 1 ≤ cap ∧ w.cell? ⟨g, e, none⟩ = some (.int .i64 (Tr.sub (who k))) := by
  have hil : (Tr.ids (who k)).length = e + 1 := by rw [Tr.ids_len, he]
  obtain ⟨g, cap, hv, hcap, hg, hcell⟩ := R_cell1 (H.subs k hk) (j := e) (by show e < (Tr.ids (who k)).length; omega)
  obtain ⟨h1, h2⟩ := Tr.sub_at he
  refine ⟨g, cap, ?_, ?_, ?_⟩
  · rw [hv, ← hil]
  · have : (Tr.ids (who k)).length ≤ cap := hcap
    omega
  · rw [hcell, ← h2]
set_option maxRecDepth 100000 in
set_option maxHeartbeats 4000000 in
theorem act_save (hk : k < 3) (hi : i < n) (hn : n ≤ 80) (HF : FrA a (.slice (some ad) n c0) wh b cB kB sB wB tk i k) (hw : who k ≠ [])
    (x1 : wr.cell? ⟨(ad.add (i * 4)).block, (ad.add (i * 4)).off + 1, none⟩ = some (.int .u8 2))
    (HS : OneSt w2 wr b h x cB kB sB wB i tk A T who com kept q K vs vw G) : Cuts (blk 2) (ActR w2 (.slice (some ad) n c0) wh b h x cB kB sB wB i tk kept q) a wr := by
  intro J K' hJ hK
  obtain ⟨u, hu, ha⟩ := HF.fr.open
  have u12 := (hu 12).trans HF.e12
  subst ha
  rw [u12]
  clear hu HF u12
  conv => arg 2; whnf
  obtain ⟨y0, y1, y2⟩ := HS.mem.cwho hk
  have z1 := HS.sg.wr.c1
  have d2 : (0 : Int) ≤ (i : Int) := by omega
  have d3 : (i : Int) < (n : Int) := by omega
  obtain ⟨e, he⟩ : ∃ e, (who k).length = e + 1 := by
    cases hP : who k with
    | nil => exact absurd hP hw
    | cons p R => exact ⟨R.length, rfl⟩
  obtain ⟨g, cap, hv, hcap, hcell⟩ := last_sub HS.mem hk he
  rw [hv] at y1
  have hb := HS.len k
  obtain ⟨o1, o2, o3⟩ := HS.one.begin (k := k) (p := Tr.sub (who k)) (.inr ⟨hw, rfl⟩)
  have hcm := HS.sg.drew.begin (by omega) (Tr.sub (who k))
  rw [o1] at hcm
  have hpos := HS.one.tp.pos (k := k) (a := Tr.top (who k)) (Tr.top_mem hw)
  have t3 : (Tr.top (who k) == 0) = false := beq_eq_false_iff_ne.2 (by omega)
  have hnx : ∀ W, SgW w2 W b h x A (T.begin (Tr.sub (who k))).2.2 (2 * i + 1) K wr → Mid w2 W b h x cB kB sB wB (2 * i + 1) A (T.begin (Tr.sub (who k))).2.2 who com kept q K vs vw G := fun W hW => ⟨hW.base, HS.mem.next hW⟩
  have hnx2 : ∀ W, SgW w2 W b h x A (T.begin (Tr.sub (who k))).2.2 (2 * i + 1) K wr → W.cell? ⟨wB, k * 3 + 1, none⟩ = some (.slice (some ⟨g, 0, none⟩) (e + 1) cap) ∧ W.cell? ⟨g, e, none⟩ = some (.int .i64 (Tr.sub (who k))) := fun W hW => by
    have M := HS.mem.next hW
    obtain ⟨g', cap', hv', _, hc'⟩ := last_sub M hk he
    rw [hv] at hv'
    cases hv'
    exact ⟨by rw [(M.cwho hk).2.1, hv], hc'⟩
  replace hnx := Aside0.mk hnx
  replace hnx2 := Aside0.mk hnx2
  have HO := Aside0.mk (And.intro o2 (And.intro o3 (And.intro hn (And.intro he hb))))
  have HK := Aside0.mk hk
  replace HS := Aside0.mk HS
  have i1 : IntKind.i64.wrap ((e : Int) + 1 - 1) = (e : Int) := by rw [show (e : Int) + 1 - 1 = (e : Int) from by omega]; exact IntWalk.i64_in _ (by omega)
  have i4 : IntKind.i64.wrap (e : Int) = (e : Int) := IntWalk.i64_in _ (by omega)
  have i2 : (0 : Int) ≤ (e : Int) := by omega
  have i3 : (e : Int) < (e : Int) + 1 := by omega
  have hv2 := Aside0.mk hv
  have hcap2 : (e : Int) + 1 ≤ (cap : Int) := by omega
  clear o1 o2 o3 hpos hk hw hn hi he hb hv hcap
  go_upto_region 46 with (fail)
  go_region_held3 (fun w' => w'.cell? ⟨b, 1, none⟩ = some (.pointer (some ⟨x, 0, none⟩)) ∧ w'.cell? ⟨wB, k * 3 + 1, none⟩ = some (.slice (some ⟨g, 0, none⟩) (e + 1) cap) ∧ w'.cell? ⟨g, e, none⟩ = some (.int .i64 (Tr.sub (who k)))) (go_keep) ((go_at_call 23; refine hcm.mono ?_; clear hcm; rintro e w7 ⟨rfl, H7⟩; obtain ⟨H8, hH8⟩ : ∃ H8 : Aside0 (Mid w2 w7 b h x cB kB sB wB (2 * i + 1) A (T.begin (Tr.sub (who k))).2.2 who com kept q K vs vw G), True := ⟨⟨hnx.out _ H7⟩, trivial⟩; have r0 := H8.out.sg.wr.c1; obtain ⟨r1, r2⟩ := hnx2.out _ H7; clear H7 hH8))
  rename_i H8 _ _
  clear y0 y1 y2 z1 x1 r0 r1 r2 hnx2
  have hv := hv2.out
  have hR := H8.out.mem.subs k HK.out
  rw [hv] at hR
  have hR2 := Kd.R_mono hR (ok' := fun g => G (2 * k) g ∨ w7.heap.size ≤ g) (fun g hg => .inl hg)
  replace hR2 := Aside0.mk hR2
  obtain ⟨y0, y1, y2⟩ := H8.out.mem.cwho HK.out
  rw [hv] at y1
  have hw7 := H8.out.mem.wb
  have hlen8 : ((Tr.ids (who k)).length + 1) * 8 ≤ 140737488355328 := by
    rw [Tr.ids_len]
    have := HO.out.2.2
    omega
  have hob : ∀ w1, w7.grownBy w1 (some g) → w1.heap[wB]? = some (.cells (wcells (fun k => Tr.top (who k)) vs vw) 57 (0, 0)) := fun w1 hg => (Chg.of_grown hg).obj hw7 (fun h => by
    have h1 : G (2 * k) wB := hR.1 wB (by rw [h]; rfl)
    exact (H8.out.mem.own _ _ h1).2.2.2.2 rfl)
  replace hob := Aside0.mk hob
  clear hw7 hR
  generalize hid : (T.begin (Tr.sub (who k))).1 = id
  have HI := Aside0.mk hid
  clear hid hv
  go_upto_region 50 with (at_builtin; go_loud (refine Kd.R_append kInt (w0 := w7) 0 rfl (.tmp 247) (.tmp 249) 53 3 (.int .i64 0) 8 rfl Try.underlying53 Try.infoInt rfl (by decide) (by omega) (.slice (some ⟨g, 0, none⟩) (e + 1) cap) (Tr.ids (who k)) id [.int .i64 id] (fun j => G (2 * k) j ∨ w7.heap.size ≤ j) (fun _ => False) rfl rfl rfl (fun _ h => h.elim) (fun k hk => .inr hk) hR2.out (Below.refl 0 w7) (Nat.zero_le _) hlen8 ?_); intro v1 w1 ho hb hg hat; clear hb hat; have hb1 := hob.out _ hg; have k0 := (wb_cells hb1 HK.out).2.1; rw [hv2.out] at k0; have z0 := blk_frozen hb1 (k * 3 + 1); clear hb1; obtain ⟨a1, c1, e1⟩ := Kd.R_slice ho; simp only [List.length_append, List.length_cons, List.length_nil, Nat.zero_add] at e1; subst e1; replace ho := Aside0.mk ho; replace hg := Aside0.mk hg)
  have hg2 : Chg w7 w1 (fun g => some g = (vs k).ownBlock) := by rw [hv2.out]; exact Chg.of_grown hg.out
  obtain ⟨hc1, G1, M1⟩ := H8.out.mem.save1 HK.out ho.out hg2
  clear hg2 ho hg k0 z0
  generalize w1.setCell ⟨wB, k * 3 + 1, none⟩ (.slice a1 ((Tr.ids (who k)).length + 1) c1) = w8 at hc1 M1 ⊢
  clear y0 y1 y2
  obtain ⟨ms, hms, hml, hnd, hall⟩ := M1.maps k HK.out
  obtain ⟨a2, c2, hvw⟩ := Kd.R_slice hms
  obtain ⟨y0, y1, y2⟩ := M1.cwho HK.out
  rw [hvw] at y2
  have hmm := @run_makeMap Try.prog
  have hR3 : Kd.R kMp 65 (w8.alloc (.map #[] 0)) 0 (fun j => G1 (2 * k + 1) j ∨ (w8.alloc (.map #[] 0)).heap.size ≤ j) (.slice a2 ms.length c2) ms := by
    rw [← hvw]
    exact Kd.R_mono (Kd.R_move (Kd.R_bound hms) (fun g hg => Below.heap_alloc w8 _ g hg.2.2.1)) (fun g hg => .inl hg.1)
  have hlen9 : (ms.length + 1) * 8 ≤ 140737488355328 := by
    rw [hml, Tr.maps_len]
    have := HO.out.2.2
    omega
  have hob2 : ∀ w9, (w8.alloc (.map #[] 0)).grownBy w9 (Value.slice a2 ms.length c2).ownBlock → Chg w8 w9 (fun g => some g = (vw k).ownBlock) ∧ MapI w9 w8.heap.size (fun _ => none) ∧ w9.heap[wB]? = some (.cells (wcells (fun k => Tr.top (who k)) (setN vs k (.slice a1 ((Tr.ids (who k)).length + 1) c1)) vw) 57 (0, 0)) := fun w9 hg => by
    rw [← hvw] at hg
    have hch := Chg.of_grown hg
    have hGo : ∀ g, some g = (vw k).ownBlock → G1 (2 * k + 1) g := fun g h => hms.1 g h.symm
    have hc9 : Chg w8 w9 (fun g => some g = (vw k).ownBlock) := (Chg.of_below ((Below.refl _ w8).alloc (Nat.le_refl _) _) (fun g => some g = (vw k).ownBlock)).then_ hch (fun _ _ h => h)
    refine ⟨hc9, (MapOf.made w8 (Value.int .i64) (Value.int .i64) okI).chg hch (fun h => ?_), hc9.obj M1.wb (fun h => (M1.own _ _ (hGo _ h)).2.2.2.2 rfl)⟩
    have := M1.low _ (M1.own _ _ (hGo _ h)).1
    omega
  have HM := Aside0.mk (And.intro hms (And.intro hml (And.intro hnd (And.intro hall hvw))))
  replace hR3 := Aside0.mk hR3
  replace hob2 := Aside0.mk hob2
  have M2 := Aside0.mk M1
  replace hc1 := Aside0.mk hc1
  clear hms hml hnd hall hvw M1
  go_wp2_with (at_builtin; go_loud (refine Kd.R_append kMp (w0 := w8.alloc (.map #[] 0)) 0 rfl (.tmp 257) (.tmp 259) 54 65 (.map none) 8 rfl Try.underlying54 Try.infoMapI rfl (by decide) (by omega) (.slice a2 ms.length c2) ms w8.heap.size [.map (some w8.heap.size)] (fun j => G1 (2 * k + 1) j ∨ (w8.alloc (.map #[] 0)).heap.size ≤ j) (fun _ => False) rfl (congrArg (fun z => Value.slice (some ⟨z, 0, none⟩) 1 1) (show w8.heap.size + 1 = (w8.alloc (.map #[] 0)).heap.size from by simp)) rfl (fun _ h => h.elim) (fun k hk => .inr hk) hR3.out (Below.refl 0 _) (Nat.zero_le _) hlen9 ?_); intro v2 w9 ho hb hg hat; clear hb hat; have hb1 := hob2.out _ hg; have k0 := (wb_cells hb1.2.2 HK.out).2.2; rw [HM.out.2.2.2.2] at k0; have z0 := blk_frozen hb1.2.2 (k * 3 + 2); obtain ⟨a3, c3, e3⟩ := Kd.R_slice ho; simp only [List.length_append, List.length_cons, List.length_nil, Nat.zero_add] at e3; subst e3; replace ho := Aside0.mk ho; replace hb1 := Aside0.mk hb1; clear hg)
  obtain ⟨hms, hml, hnd, hall, hvw⟩ := HM.out
  obtain ⟨g1, g2, _⟩ := hb1.out
  have ho2 := Kd.R_mono ho.out (ok' := fun g => G1 (2 * k + 1) g ∨ w8.heap.size ≤ g) (fun g hg => by
    rcases hg with hg | hg
    · exact .inl hg
    · exact .inr (by have : (w8.alloc (.map #[] 0)).heap.size = w8.heap.size + 1 := by simp
                     omega))
  obtain ⟨hc2, G2, M3⟩ := M2.out.save2 HK.out hml hnd hall ho2 g2 (fun g hg => by
    obtain ⟨_, cs, hcs⟩ := R_block hms (Eq.symm hg)
    exact ⟨cs, _, _, hcs⟩) g1
  generalize w9.setCell ⟨wB, k * 3 + 2, none⟩ (.slice a3 (ms.length + 1) c3) = w10 at hc2 M3 ⊢
  have hcc := chg_two hc1.out hc2
  have M4 := M3.congr (ext_ext hc1.out.size hc2.size) (ids_bound M3 H8.out.mem.low hcc.size)
  obtain ⟨e1, e2, e3, e4, e5⟩ := HO.out
  rw [HI.out] at e1
  have p1 : Tr.top (who k ++ [(id, fun _ => none)]) = Tr.top (who k) := by
    cases hP : who k with
    | nil => rw [hP] at e4; cases e4
    | cons p R => rfl
  have M5 := HS.out.next H8.out.sg (by omega) hcc (P := who k ++ [(id, fun _ => none)]) (by
    rw [p1, setN_id (f := fun j => Tr.top (who j)) rfl, show Tr.ids (who k ++ [(id, fun _ => none)]) = Tr.ids (who k) ++ [id] from by simp [Tr.ids], show Tr.maps (who k ++ [(id, fun _ => none)]) = Tr.maps (who k) ++ [fun _ => none] from by simp [Tr.maps]]
    exact M4) e1 (fun ht => e2 _ _ (HS.out.snap ht)) (by simp; omega)
  exact Met.intro (hJ _ _ ⟨⟨rfl, rfl, rfl, rfl, rfl, rfl, rfl, rfl, rfl, rfl, rfl, rfl⟩, _, _, _, _, _, _, _, _, M5⟩)
end
end Go.Proofs.Ytljahhgankcalaa

/-! SightOne: the acts: one goes back to a savepoint. -/
namespace Go.Proofs.Ytljahhgankcalaa
open Go.RowKit Go.Maps Go.MapKept Go.WideMaps Go.Shelf
open Go.Proofs.YtljahhgankcalaaW.PrintWords Go.Proofs.YtljahhgankcalaaW.PrintLast Go.Proofs.YtljahhgankcalaaW.PrintMore
set_option linter.unusedVariables false
set_option linter.unusedSimpArgs false

section
variable {w2 wr w w' : World} {b h x cB kB sB wB m : Nat} {A : AH} {T : TT} {who : Nat → Tr} {com kept : Int → Int} {q : Int} {K : Nat → Prop} {vs vw : Nat → Value} {G : Nat → Nat → Prop} {wh : Value} {tk : Bool} {i k j n c0 e : Nat} {a : Act} {ad : Addr}
/-- The rows of who acts are cut. -/
theorem OneAt.cut {tops : Nat → Int} {ids : Nat → List Int} {fs : Nat → List (Int → Option Int)} (H : OneAt w K cB kB sB wB tops ids fs com kept q vs vw G) (hk : k < 3) {v1 v2 : Value} (hc : Chg w w' (fun g => g = wB)) (hwb : w'.heap[wB]? = some (.cells (wcells tops (setN vs k v1) (setN vw k v2)) 57 (0, 0)))
    {l : List Int} {f : List (Int → Option Int)} (h1 : Kd.R kInt 3 w 0 (G (2 * k)) v1 l) (h2 : MapsAre w (G (2 * k + 1)) v2 f) :
    Chg w w' K ∧ OneAt w' (ext K w w') cB kB sB wB tops (setN ids k l) (setN fs k f) com kept q (setN vs k v1) (setN vw k v2) G := by
  have hmv : ∀ i g, G i g → w'.heap[g]? = w.heap[g]? := fun i g hg => hc.block g (H.low g (H.own i g hg).1) (fun e => (H.own i g hg).2.2.2.2 e)
  refine ⟨hc.mono (fun g _ hg => by rw [hg]; exact H.four.1.2.2.2), ?_⟩
  refine H.upd (fun j => j = 2 * k ∨ j = 2 * k + 1) (hc.mono (fun g _ hg => .inr hg)) hwb (fun _ _ => rfl) (fun j g _ hg => .inl hg) (fun j j' g _ _ h1 h2 => H.dis j j' g h1 h2) (fun j hj => ?_) (fun j hj => ?_)
  · by_cases e : j = k
    · subst e
      rw [setN_same, setN_same]
      exact .inr ⟨.inl rfl, Kd.R_move h1 (fun g hg => hmv _ g hg)⟩
    · rw [setN_other _ _ e, setN_other _ _ e]
      exact .inl ⟨by omega, rfl, rfl⟩
  · by_cases e : j = k
    · subst e
      rw [setN_same, setN_same]
      exact .inr ⟨.inr rfl, h2.move (fun g hg => hmv _ g hg)⟩
    · rw [setN_other _ _ e, setN_other _ _ e]
      exact .inl ⟨by omega, rfl, rfl⟩
theorem OneSt.later (H : OneSt w2 wr b h x cB kB sB wB i tk A T who com kept q K vs vw G) : OneSt w2 wr b h x cB kB sB wB (i + 1) tk A T who com kept q K vs vw G :=
  ⟨H.sg.more (by omega), H.mem, H.one, H.snap, fun k => by have := H.len k; omega⟩
set_option maxRecDepth 100000 in
set_option maxHeartbeats 4000000 in
theorem act_back (hk : k < 3) (hi : i < n) (hn : n ≤ 80) (HF : FrA a (.slice (some ad) n c0) wh b cB kB sB wB tk i k) (hw : who k ≠ [])
    (x1 : wr.cell? ⟨(ad.add (i * 4)).block, (ad.add (i * 4)).off + 1, none⟩ = some (.int .u8 3))
    (HS : OneSt w2 wr b h x cB kB sB wB i tk A T who com kept q K vs vw G) : Cuts (blk 2) (ActR w2 (.slice (some ad) n c0) wh b h x cB kB sB wB i tk kept q) a wr := by
  intro J K' hJ hK
  obtain ⟨u, hu, ha⟩ := HF.fr.open
  have u12 := (hu 12).trans HF.e12
  subst ha
  rw [u12]
  clear hu HF u12
  conv => arg 2; whnf
  obtain ⟨y0, y1, y2⟩ := HS.mem.cwho hk
  have z1 := HS.sg.wr.c1
  have d2 : (0 : Int) ≤ (i : Int) := by omega
  have d3 : (i : Int) < (n : Int) := by omega
  obtain ⟨e, he⟩ : ∃ e, (who k).length = e + 1 := by
    cases hP : who k with
    | nil => exact absurd hP hw
    | cons p R => exact ⟨R.length, rfl⟩
  obtain ⟨g, cap, hv, hcap, hcell⟩ := last_sub HS.mem hk he
  rw [hv] at y1
  have hb := HS.len k
  have hpos := HS.one.tp.pos (k := k) (a := Tr.top (who k)) (Tr.top_mem hw)
  have t3 : (Tr.top (who k) == 0) = false := beq_eq_false_iff_ne.2 (by omega)
  have i1 : IntKind.i64.wrap ((e : Int) + 1 - 1) = (e : Int) := by rw [show (e : Int) + 1 - 1 = (e : Int) from by omega]; exact IntWalk.i64_in _ (by omega)
  have i4 : IntKind.i64.wrap (e : Int) = (e : Int) := IntWalk.i64_in _ (by omega)
  have i2 : (0 : Int) ≤ (e : Int) := by omega
  have i3 : (e : Int) < (e : Int) + 1 := by omega
  have hcap2 : (e : Int) + 1 ≤ (cap : Int) := by omega
  have hcap3 : (e : Int) ≤ (cap : Int) := by omega
  have i5 : (e : Int) < 1000 := by omega
  by_cases h0 : e = 0
  · subst h0
    have HS2 := Aside0.mk HS.later
    clear HS hpos hk hw hn hi hb hv hcap he
    go_wp2
    exact Met.intro (hJ _ _ ⟨⟨rfl, rfl, rfl, rfl, rfl, rfl, rfl, rfl, rfl, rfl, rfl, rfl⟩, _, _, _, _, _, _, _, _, HS2.out⟩)
  · have hP : ∃ Q p, who k = Q ++ [p] ∧ Q.length = e := by
      rcases List.eq_nil_or_concat (who k) with h | ⟨Q, p, h⟩
      · exact absurd h hw
      · rw [List.concat_eq_append] at h; exact ⟨Q, p, h, by rw [h] at he; simp at he; omega⟩
    obtain ⟨Q, p, hP, hQ⟩ := hP
    have hsub : Tr.sub (who k) = p.1 := by
      unfold Tr.sub
      rw [hP, Tr.ids_app]
      simp [Tr.ids]
    rw [hsub] at hcell
    obtain ⟨o1, o2, o3⟩ := HS.one.abort (R := []) hP
    have hcm := HS.sg.drew.abort (by omega) p.1
    rw [o1] at hcm
    have hnx : ∀ W, SgW w2 W b h x A (T.abort p.1).2 (2 * i + 1) K wr → Mid w2 W b h x cB kB sB wB (2 * i + 1) A (T.abort p.1).2 who com kept q K vs vw G := fun W hW => ⟨hW.base, HS.mem.next hW⟩
    have hnx2 : ∀ W, SgW w2 W b h x A (T.abort p.1).2 (2 * i + 1) K wr → W.cell? ⟨wB, k * 3 + 1, none⟩ = some (.slice (some ⟨g, 0, none⟩) (e + 1) cap) ∧ W.cell? ⟨g, e, none⟩ = some (.int .i64 p.1) := fun W hW => by
      have M := HS.mem.next hW
      obtain ⟨g', cap', hv', _, hc'⟩ := last_sub M hk he
      rw [hv] at hv'
      cases hv'
      rw [hsub] at hc'
      exact ⟨by rw [(M.cwho hk).2.1, hv], hc'⟩
    replace hnx := Aside0.mk hnx
    replace hnx2 := Aside0.mk hnx2
    have HO := Aside0.mk (And.intro o2 (And.intro o3 (And.intro hP (And.intro hQ (And.intro hv (And.intro he (And.intro hb hn)))))))
    have HK := Aside0.mk hk
    replace HS := Aside0.mk HS
    have d0 : decide ((0 : Int) < (e : Int)) = true := decide_eq_true (by omega)
    have d0b : decide (0 < e) = true := decide_eq_true (by omega)
    clear o1 o2 o3 hpos hk hw hn hi hb hv hcap he h0 hP hQ hsub
    go_upto_region 54 with (fail)
    go_region_held3 (fun w' => w'.cell? ⟨b, 1, none⟩ = some (.pointer (some ⟨x, 0, none⟩)) ∧ w'.cell? ⟨wB, k * 3 + 1, none⟩ = some (.slice (some ⟨g, 0, none⟩) (e + 1) cap) ∧ w'.cell? ⟨g, e, none⟩ = some (.int .i64 p.1)) (go_keep) ((go_at_call 25; refine hcm.mono ?_; clear hcm; rintro e w7 ⟨rfl, H7⟩; obtain ⟨H8, hH8⟩ : ∃ H8 : Aside0 (Mid w2 w7 b h x cB kB sB wB (2 * i + 1) A (T.abort p.1).2 who com kept q K vs vw G), True := ⟨⟨hnx.out _ H7⟩, trivial⟩; have r0 := H8.out.sg.wr.c1; obtain ⟨r1, r2⟩ := hnx2.out _ H7; clear H7 hH8))
    have H8 : Aside0 (Mid w2 w7 b h x cB kB sB wB (2 * i + 1) A (T.abort p.1).2 who com kept q K vs vw G) := by assumption
    clear y0 y1 y2 z1 x1 r0 r1 r2 hnx2 hnx
    obtain ⟨o2, o3, hP, hQ, hv, he, hb, hn⟩ := HO.out
    obtain ⟨g2, cap2, hv2, hcl⟩ : ∃ g2 cap2, vw k = .slice (some ⟨g2, 0, none⟩) (e + 1) cap2 ∧ e + 1 ≤ cap2 := by
      have hml : (Tr.maps (who k)).length = e + 1 := by rw [Tr.maps_len, he]
      obtain ⟨g2, cap2, _, hv2, hcl, _, _, _, _⟩ := (H8.out.mem.maps k HK.out).elem (j := e) (by omega)
      rw [hml] at hv2 hcl
      exact ⟨g2, cap2, hv2, hcl⟩
    obtain ⟨y0, y1, y2⟩ := H8.out.mem.cwho HK.out
    rw [hv] at y1
    rw [hv2] at y2
    have fw := fun j => blk_frozen H8.out.mem.wb j
    have hcl2 : (e : Int) ≤ (cap2 : Int) := by omega
    have n1 : ¬ k * 3 + 1 = k * 3 + 2 := by omega
    have n2 : ¬ k * 3 + 2 = k * 3 + 1 := by omega
    have HE := Aside0.mk hv2
    clear o2 o3 hP hQ hv he hb hn hv2 hcl
    go_wp2
    go_region
    go_wp2
    have hc9 : Chg w7 ((w7.setCell ⟨wB, k * 3 + 1, none⟩ (.slice (some ⟨g, 0, none⟩) e cap)).setCell ⟨wB, k * 3 + 2, none⟩ (.slice (some ⟨g2, 0, none⟩) e cap2)).drew (fun g => g = wB) :=
      (((Chg.refl w7 (fun g => g = wB)).setCell (p := ⟨wB, k * 3 + 1, none⟩) (.inl rfl) _).setCell (p := ⟨wB, k * 3 + 2, none⟩) (.inl rfl) _).drew
    have hb9 := set2 (set1 H8.out.mem.wb HK.out (.slice (some ⟨g, 0, none⟩) e cap)) HK.out (.slice (some ⟨g2, 0, none⟩) e cap2)
    have hb10 : ((w7.setCell ⟨wB, k * 3 + 1, none⟩ (.slice (some ⟨g, 0, none⟩) e cap)).setCell ⟨wB, k * 3 + 2, none⟩ (.slice (some ⟨g2, 0, none⟩) e cap2)).drew.heap[wB]? = _ := hb9
    generalize ((w7.setCell ⟨wB, k * 3 + 1, none⟩ (.slice (some ⟨g, 0, none⟩) e cap)).setCell ⟨wB, k * 3 + 2, none⟩ (.slice (some ⟨g2, 0, none⟩) e cap2)).drew = w9 at hc9 hb10 ⊢
    obtain ⟨o2, o3, hP, hQ, hv, he, hb, hn⟩ := HO.out
    have hs1 := H8.out.mem.subs k HK.out
    have hs2 := H8.out.mem.maps k HK.out
    rw [hv] at hs1
    rw [HE.out] at hs2
    have hq1 : Tr.ids Q = (Tr.ids (who k)).take e := by rw [hP, Tr.ids_app, ← hQ, ← Tr.ids_len Q, List.take_left]
    have hq2 : Tr.maps Q = (Tr.maps (who k)).take e := by
      have h1 : Tr.maps (who k) = Tr.maps Q ++ [p.2] := by rw [hP]; simp [Tr.maps]
      rw [h1, ← hQ, ← Tr.maps_len Q, List.take_left]
    have hs1' := Kd.R_take hs1 (m := e) (by rw [Tr.ids_len]; omega)
    have hs2' := hs2.take (m := e) (by rw [Tr.maps_len]; omega)
    rw [← hq1] at hs1'
    rw [← hq2] at hs2'
    obtain ⟨hc10, M10⟩ := H8.out.mem.cut HK.out hc9 hb10 hs1' hs2'
    have htop : Tr.top Q = Tr.top (who k) := by
      have : Q ≠ [] := fun e0 => by rw [e0] at hQ; simp at hQ; have := of_decide_eq_true d0b; omega
      rw [hP]
      cases Q with
      | nil => exact absurd rfl this
      | cons _ _ => rfl
    have M11 := HS.out.next H8.out.sg (by omega) hc10 (P := Q) (by
      rw [htop, setN_id (f := fun j => Tr.top (who j)) rfl]
      exact M10) o2 (fun ht => o3 _ _ (HS.out.snap ht)) (by omega)
    exact Met.intro (hJ _ _ ⟨⟨rfl, rfl, rfl, rfl, rfl, rfl, rfl, rfl, rfl, rfl, rfl, rfl⟩, _, _, _, _, _, _, _, _, M11⟩)
end
end Go.Proofs.Ytljahhgankcalaa

/-! SightOne: the acts: a row is written. -/
namespace Go.Proofs.Ytljahhgankcalaa
open Go.RowKit Go.Maps Go.MapKept Go.WideMaps Go.Shelf
open Go.Proofs.YtljahhgankcalaaW.PrintWords Go.Proofs.YtljahhgankcalaaW.PrintLast Go.Proofs.YtljahhgankcalaaW.PrintMore
set_option linter.unusedVariables false
set_option linter.unusedSimpArgs false

section
variable {w2 wr w w' : World} {b h x cB kB sB wB m : Nat} {A : AH} {T : TT} {who : Nat → Tr} {com kept : Int → Int} {q : Int} {K : Nat → Prop} {vs vw : Nat → Value} {G : Nat → Nat → Prop} {wh : Value} {tk : Bool} {i k j n c0 e : Nat} {a : Act} {ad : Addr}
/-- A row is written down. -/
theorem OneAt.note {tops : Nat → Int} {ids : Nat → List Int} {fs : Nat → List (Int → Option Int)} (H : OneAt w K cB kB sB wB tops ids fs com kept q vs vw G) (hk : k < 3) {mb : Nat} (hm : G (2 * k + 1) mb) (hc : Chg w w' (fun g => g = mb)) {f : List (Int → Option Int)} (h2 : MapsAre w' (G (2 * k + 1)) (vw k) f) :
    Chg w w' K ∧ OneAt w' (ext K w w') cB kB sB wB tops ids (setN fs k f) com kept q vs vw G := by
  refine ⟨hc.mono (fun g _ hg => by rw [hg]; exact (H.own _ _ hm).1), ?_⟩
  refine H.upd (fun j => j = 2 * k + 1) (hc.mono (fun g _ hg => .inl ⟨_, rfl, by rw [hg]; exact hm⟩)) (hc.obj H.wb (fun e => (H.own _ _ hm).2.2.2.2 e.symm)) (fun _ _ => rfl) (fun j g _ hg => .inl hg) (fun j j' g _ _ h1 h2 => H.dis j j' g h1 h2) (fun j hj => ?_) (fun j hj => ?_)
  · exact .inl ⟨by omega, rfl, rfl⟩
  · by_cases e : j = k
    · subst e
      rw [setN_same]
      exact .inr ⟨rfl, h2⟩
    · rw [setN_other _ _ e]
      exact .inl ⟨by omega, rfl, rfl⟩
theorem note_store (H : OneAt w K cB kB sB wB (fun k => Tr.top (who k)) (fun k => Tr.ids (who k)) (fun k => Tr.maps (who k)) com kept q vs vw G) (hk : k < 3) {P0 : Tr} {sub : Int} {f : Int → Option Int} (hP : who k = P0 ++ [(sub, f)]) (he : (who k).length = e + 1) {r : Nat} (hr : r < 4) (n : Int) :
    ∃ g2 cap2 mb, vw k = .slice (some ⟨g2, 0, none⟩) (e + 1) cap2 ∧ e + 1 ≤ cap2 ∧ w.cell? ⟨g2, e, none⟩ = some (.map (some mb)) ∧ ∃ w', (Instr.mapUpdate 65 (.map (some mb)) (.int .i64 r) (.int .i64 n)).run Try.prog w.drew = .ok () w' ∧ Chg w w' K ∧
      OneAt w' (ext K w w') cB kB sB wB (fun k => Tr.top (who k)) (fun k => Tr.ids (who k)) (setN (fun k => Tr.maps (who k)) k (Tr.maps (P0 ++ [(sub, upd f r (some n))]))) com kept q vs vw G := by
  have hml : (Tr.maps (who k)).length = e + 1 := by rw [Tr.maps_len, he]
  obtain ⟨g2, cap2, mb, hv2, hcl, hcell2, hG, hmap, hup⟩ := (H.maps k hk).elem (j := e) (by omega)
  rw [hml] at hv2 hcl
  have hpe : P0.length = e := by rw [hP] at he; simp at he; omega
  have hfe : (Tr.maps (who k))[e]'(by omega) = f := by
    have h1 : Tr.maps (who k) = Tr.maps P0 ++ [f] := by rw [hP]; simp [Tr.maps]
    have h2 : (Tr.maps P0).length = e := by rw [Tr.maps_len, hpe]
    have h3 : (Tr.maps (who k))[e]? = some f := by rw [h1, List.getElem?_append_right (by omega), h2, Nat.sub_self]; rfl
    rw [List.getElem?_eq_getElem (by omega)] at h3
    exact Option.some.inj h3
  rw [hfe] at hmap
  obtain ⟨w', hrun, hm', hc, hz⟩ := hmap.drew.store keyInt Try.underlying65 (a := (r : Int)) (okI_of (by omega) (by omega)) n
  have hc2 : Chg w w' (fun g => g = mb) := ((Chg.refl w (fun g => g = mb)).drew).then_ hc (fun _ _ h => h)
  obtain ⟨h1, h2⟩ := H.note hk hG hc2 (hup w' _ hc2 hm')
  refine ⟨g2, cap2, mb, hv2, hcl, hcell2, w', hrun, h1, ?_⟩
  have h3 : Tr.maps (P0 ++ [(sub, upd f r (some n))]) = (Tr.maps (who k)).set e (upd f r (some n)) := by
    have h1 : Tr.maps (who k) = Tr.maps P0 ++ [f] := by rw [hP]; simp [Tr.maps]
    have h2 : (Tr.maps P0).length = e := by rw [Tr.maps_len, hpe]
    rw [h1, List.set_append_right _ _ (by omega), h2, Nat.sub_self]
    simp [Tr.maps]
  rw [h3]
  exact h2
set_option maxRecDepth 100000 in
set_option maxHeartbeats 4000000 in
theorem act_write (hk : k < 3) (hi : i < n) (hn : n ≤ 80) (HF : FrA a (.slice (some ad) n c0) wh b cB kB sB wB tk i k) (hw : who k ≠ []) {s1 n3 nn : Int} {r2 : Nat}
    (x1 : wr.cell? ⟨(ad.add (i * 4)).block, (ad.add (i * 4)).off + 1, none⟩ = some (.int .u8 s1)) (x2 : wr.cell? ⟨(ad.add (i * 4)).block, (ad.add (i * 4)).off + 2, none⟩ = some (.int .u8 r2)) (x3 : wr.cell? ⟨(ad.add (i * 4)).block, (ad.add (i * 4)).off + 3, none⟩ = some (.int .i8 n3))
    (k0 : (s1 == 0) = false) (k1 : (s1 == 1) = false) (k2 : (s1 == 2) = false) (k3 : (s1 == 3) = false) (hr2 : r2 < 256) (hn3 : -128 ≤ n3 ∧ n3 ≤ 127) (hnn : (n3 < 0 ∧ nn = -1) ∨ (0 ≤ n3 ∧ nn = n3))
    (HS : OneSt w2 wr b h x cB kB sB wB i tk A T who com kept q K vs vw G) : Cuts (blk 2) (ActR w2 (.slice (some ad) n c0) wh b h x cB kB sB wB i tk kept q) a wr := by
  intro J K' hJ hK
  obtain ⟨u, hu, ha⟩ := HF.fr.open
  have u12 := (hu 12).trans HF.e12
  subst ha
  rw [u12]
  clear hu HF u12
  conv => arg 2; whnf
  obtain ⟨y0, y1, y2⟩ := HS.mem.cwho hk
  have z1 := HS.sg.wr.c1
  have d2 : (0 : Int) ≤ (i : Int) := by omega
  have d3 : (i : Int) < (n : Int) := by omega
  obtain ⟨e, he⟩ : ∃ e, (who k).length = e + 1 := by
    cases hP : who k with
    | nil => exact absurd hP hw
    | cons p R => exact ⟨R.length, rfl⟩
  obtain ⟨g, cap, hv, hcap, hcell⟩ := last_sub HS.mem hk he
  rw [hv] at y1
  have hb := HS.len k
  have hpos := HS.one.tp.pos (k := k) (a := Tr.top (who k)) (Tr.top_mem hw)
  have t3 : (Tr.top (who k) == 0) = false := beq_eq_false_iff_ne.2 (by omega)
  have i1 : IntKind.i64.wrap ((e : Int) + 1 - 1) = (e : Int) := by rw [show (e : Int) + 1 - 1 = (e : Int) from by omega]; exact IntWalk.i64_in _ (by omega)
  have i4 : IntKind.i64.wrap (e : Int) = (e : Int) := IntWalk.i64_in _ (by omega)
  have i2 : (0 : Int) ≤ (e : Int) := by omega
  have i3 : (e : Int) < (e : Int) + 1 := by omega
  have hcap2 : (e : Int) + 1 ≤ (cap : Int) := by omega
  have i5 : (e : Int) < 1000 := by omega
  have r0 : (r2 : Int) < 256 := by omega
  obtain ⟨n3a, n3b⟩ := hn3
  have HO := Aside0.mk (And.intro hk (And.intro hi (And.intro hn (And.intro hw (And.intro hv (And.intro he (And.intro hb hnn)))))))
  replace HS := Aside0.mk HS
  clear hk hi hn hw hv hb hnn hpos hr2 hcap he
  go_upto_if 85 with (fail)
  obtain ⟨r, hr⟩ : ∃ r : Nat, (r2 : Int) % 4 = (r : Int) := ⟨r2 % 4, by omega⟩
  rw [hr]
  have hr4 : r < 4 := by omega
  have HR4 := Aside0.mk hr4
  clear hr x2 r0 k0 k1 k2 k3 x1
  refine wp_cut (fun a' w' => FrA a' (.slice (some ad) n c0) wh b cB kB sB wB tk i k ∧ a'.tmps.getD 22 undef = .int .i64 r ∧ a'.tmps.getD 23 undef = .int .i64 nn ∧ w' = wr) ?rest ?first
  case first =>
    intro J2 K2 hJ2 hK2
    rcases HO.out.2.2.2.2.2.2.2 with ⟨h1, rfl⟩ | ⟨h1, rfl⟩
    · have t4 : decide (n3 < 0) = true := decide_eq_true h1
      go_wp2
      exact Met.intro (hJ2 _ _ ⟨⟨⟨rfl, rfl, rfl, rfl, rfl, rfl, rfl, rfl, rfl, rfl, rfl, rfl⟩, rfl⟩, rfl, rfl, rfl⟩)
    · have t4 : decide (nn < 0) = false := decide_eq_false (by omega)
      go_wp2
      exact Met.intro (hJ2 _ _ ⟨⟨⟨rfl, rfl, rfl, rfl, rfl, rfl, rfl, rfl, rfl, rfl, rfl, rfl⟩, rfl⟩, rfl, rfl, rfl⟩)
  case rest =>
    rintro a' w' ⟨HF, e22, e23, rfl⟩
    obtain ⟨u, hu, ha⟩ := HF.fr.open
    have u12 := (hu 12).trans HF.e12
    have u22 := (hu 22).trans e22
    have u23 := (hu 23).trans e23
    subst ha
    rw [u12, u22, u23]
    clear hu HF u12 u22 u23 e22 e23
    have hnb : -128 ≤ nn ∧ nn ≤ 127 := by have := HO.out.2.2.2.2.2.2.2; omega
    obtain ⟨hnb1, hnb2⟩ := hnb
    have i6 : IntKind.i64.wrap ((r : Int) + 1) = (r : Int) + 1 := IntWalk.i64_in _ (by omega)
    have hwc := write_calls w2 w'.drew b h x (Tr.top (who k)) (Tr.sub (who k)) ((r : Int) + 1) nn A T (2 * i) HS.out.sg.drew (by have := HO.out; omega) (okI_of (by omega) (by omega))
    have hnx : ∀ A' W, SgW w2 W b h x A' T (2 * i + 2) K w' → W.cell? ⟨wB, k * 3, none⟩ = some (.int .i64 (Tr.top (who k))) ∧ W.cell? ⟨wB, k * 3 + 1, none⟩ = some (.slice (some ⟨g, 0, none⟩) (e + 1) cap) ∧ W.cell? ⟨g, e, none⟩ = some (.int .i64 (Tr.sub (who k))) ∧ Mid w2 W b h x cB kB sB wB (2 * i + 2) A' T who com kept q K vs vw G := fun A' W hW => by
      have M := HS.out.mem.next hW
      obtain ⟨h1, h2, h3, h4, hv, he, h5, h6⟩ := HO.out
      obtain ⟨g', cap', hv', _, hc'⟩ := last_sub M h1 he
      rw [hv] at hv'
      cases hv'
      obtain ⟨c0, c1, c2⟩ := M.cwho h1
      rw [hv] at c1
      exact ⟨c0, c1, hc', hW.base, M⟩
    replace hnx := Aside0.mk hnx
    obtain ⟨P0, sub, f, hP⟩ : ∃ P0 sub f, who k = P0 ++ [(sub, f)] := by
      rcases List.eq_nil_or_concat (who k) with h | ⟨Q, p, h⟩
      · exact absurd h HO.out.2.2.2.1
      · rw [List.concat_eq_append] at h
        exact ⟨Q, p.1, p.2, h⟩
    have hsub : Tr.sub (who k) = sub := by
      unfold Tr.sub
      rw [hP, Tr.ids_app]
      simp [Tr.ids]
    have hwr := HS.out.one.write (r := (r : Int)) (n := nn) hP (by omega) (by omega) (by have := HO.out.2.2.2.2.2.2.2; omega)
    rw [← hsub] at hwr
    have HP := Aside0.mk (And.intro hP hsub)
    replace hr4 := Aside0.mk hr4
    clear x3 hP hsub
    rcases hwr with hW | ⟨A', hW, O1, O2⟩
    · rw [hW] at hwc
      clear hW
      go_upto_region 21 with (fail)
      go_region_held3 (fun w1 => w1.cell? ⟨wB, k * 3, none⟩ = some (.int .i64 (Tr.top (who k))) ∧ w1.cell? ⟨wB, k * 3 + 1, none⟩ = some (.slice (some ⟨g, 0, none⟩) (e + 1) cap) ∧ w1.cell? ⟨g, e, none⟩ = some (.int .i64 (Tr.sub (who k)))) (go_keep) ((go_at_call 26; refine hwc.mono ?_; clear hwc; rintro e w7 ⟨rfl, H7⟩; obtain ⟨s0, s1, s2, H8⟩ := hnx.out _ _ H7; replace H8 := Aside0.mk H8; clear H7))
      have H8 : Aside0 (Mid w2 w7 b h x cB kB sB wB (2 * i + 2) A T who com kept q K vs vw G) := by assumption
      go_wp2
      exact Met.intro (hJ _ _ ⟨⟨rfl, rfl, rfl, rfl, rfl, rfl, rfl, rfl, rfl, rfl, rfl, rfl⟩, _, _, _, _, _, _, _, _, H8.out.sg, H8.out.mem, HS.out.one, HS.out.snap, fun j => by have := HS.out.len j; omega⟩)
    · rw [hW] at hwc
      clear hW
      have HW := Aside0.mk (And.intro O1 O2)
      clear O1 O2
      go_upto_region 21 with (fail)
      go_region_held3 (fun w1 => w1.cell? ⟨wB, k * 3, none⟩ = some (.int .i64 (Tr.top (who k))) ∧ w1.cell? ⟨wB, k * 3 + 1, none⟩ = some (.slice (some ⟨g, 0, none⟩) (e + 1) cap) ∧ w1.cell? ⟨g, e, none⟩ = some (.int .i64 (Tr.sub (who k)))) (go_keep) ((go_at_call 26; refine hwc.mono ?_; clear hwc; rintro e w7 ⟨rfl, H7⟩; obtain ⟨s0, s1, s2, H8⟩ := hnx.out _ _ H7; replace H8 := Aside0.mk H8; clear H7))
      have H8 : Aside0 (Mid w2 w7 b h x cB kB sB wB (2 * i + 2) A' T who com kept q K vs vw G) := by assumption
      obtain ⟨g2, cap2, mb, hv2, hcl, hc2, w8, hrun, hch, M8⟩ := note_store H8.out.mem HO.out.1 HP.out.1 HO.out.2.2.2.2.2.1 hr4.out nn
      obtain ⟨y0, y1, y2⟩ := H8.out.mem.cwho HO.out.1
      rw [hv2] at y2
      have hcl2 : (e : Int) + 1 ≤ (cap2 : Int) := by omega
      have HM := Aside0.mk (And.intro hch M8)
      clear hnx hch M8 hv2 hcl
      go_wp2
      go_region
      go_wp2
      obtain ⟨O1, O2⟩ := HW.out
      obtain ⟨hP, hsub⟩ := HP.out
      rw [hsub] at O1
      have p1 : Tr.ids (P0 ++ [(sub, upd f (r : Int) (some nn))]) = Tr.ids (who k) := by rw [hP, Tr.ids_app, Tr.ids_app]; rfl
      have p2 : Tr.top (P0 ++ [(sub, upd f (r : Int) (some nn))]) = Tr.top (who k) := by unfold Tr.top; rw [p1]
      have hlk := HS.out.len k
      have M11 := HS.out.next H8.out.sg (by omega) HM.out.1 (P := P0 ++ [(sub, upd f (r : Int) (some nn))]) (by
        rw [p1, p2, setN_id (f := fun j => Tr.top (who j)) rfl, setN_id (f := fun j => Tr.ids (who j)) rfl]
        exact HM.out.2) O1 (fun ht => O2 _ _ (HS.out.snap ht)) (by rw [hP] at hlk; simp at hlk ⊢; omega)
      exact Met.intro (hJ _ _ ⟨⟨rfl, rfl, rfl, rfl, rfl, rfl, rfl, rfl, rfl, rfl, rfl, rfl⟩, _, _, _, _, _, _, _, _, M11⟩)
end
end Go.Proofs.Ytljahhgankcalaa

/-! SightOne: what each is told, behind an act: row by row, for who looks now, for the snapshot, for each who acts. -/
namespace Go.Proofs.Ytljahhgankcalaa
open Go.RowKit Go.Maps Go.MapKept Go.WideMaps Go.Shelf
open Go.Proofs.YtljahhgankcalaaW.PrintWords Go.Proofs.YtljahhgankcalaaW.PrintLast Go.Proofs.YtljahhgankcalaaW.PrintMore
set_option linter.unusedVariables false
set_option linter.unusedSimpArgs false

section
variable {w2 wr w w' : World} {b h x cB kB sB wB m : Nat} {A : AH} {T : TT} {who : Nat → Tr} {com kept : Int → Int} {q : Int} {K : Nat → Prop} {vs vw : Nat → Value} {G : Nat → Nat → Prop} {L wh : Value} {tk : Bool} {i k r : Nat} {a : Act}
set_option maxRecDepth 100000 in
set_option maxHeartbeats 4000000 in
/-- What is wanted of one who acts. -/
theorem check_maps (hk : k < 3) (hr : r < 4) (hi : m ≤ 1000) (HF : Fr a L wh b cB kB sB wB tk i) (e24 : a.tmps.getD 24 undef = .int .i64 r) (e25 : a.tmps.getD 25 undef = .int .i64 k) (e26 : a.tmps.getD 26 undef = .int .i64 (com r)) (e27 : a.tmps.getD 27 undef = .int .i64 0)
    (HS : OneSt w2 wr b h x cB kB sB wB m tk A T who com kept q K vs vw G) :
    Cuts (blk 11) (fun a' w' => Fr a' L wh b cB kB sB wB tk i ∧ a'.tmps.getD 24 undef = .int .i64 r ∧ a'.tmps.getD 25 undef = .int .i64 k ∧ a'.tmps.getD 26 undef = .int .i64 ((lw (who k) r).getD (com r)) ∧ w' = wr) a wr := by
  intro J K' hJ hK
  obtain ⟨u, hu, ha⟩ := HF.open
  have u24 := (hu 24).trans e24
  have u25 := (hu 25).trans e25
  have u26 := (hu 26).trans e26
  have u27 := (hu 27).trans e27
  subst ha
  rw [u24, u25, u26, u27]
  clear hu HF e24 e25 e26 e27 u24 u25 u26 u27
  conv => arg 2; whnf
  go_wp2
  refine wp_loop_ghost_k (fun n a' w' => ∃ j, n + j = (who k).length ∧ Fr a' L wh b cB kB sB wB tk i ∧ a'.tmps.getD 24 undef = .int .i64 r ∧ a'.tmps.getD 25 undef = .int .i64 k ∧ a'.tmps.getD 26 undef = .int .i64 ((lw ((who k).take j) r).getD (com r)) ∧ a'.tmps.getD 27 undef = .int .i64 j ∧ w' = wr) (who k).length ⟨0, by omega, ⟨rfl, rfl, rfl, rfl, rfl, rfl, rfl, rfl, rfl, rfl, rfl, rfl⟩, rfl, rfl, rfl, rfl, rfl⟩ ?_
  rintro gk a' wr' ⟨j, hn, HF, e24, e25, e26, e27, rfl⟩
  obtain ⟨u, hu, ha⟩ := HF.open
  have u24 := (hu 24).trans e24
  have u25 := (hu 25).trans e25
  have u26 := (hu 26).trans e26
  have u27 := (hu 27).trans e27
  subst ha
  rw [u24, u25, u26, u27]
  clear hu HF e24 e25 e26 e27 u24 u25 u26 u27
  intro J2 K2 hJ2 hK2
  have hlk := HS.len k
  have HM : Mid w2 wr' b h x cB kB sB wB (2 * m) A T who com kept q K vs vw G := ⟨HS.sg, HS.mem⟩
  have k1 : (0 : Int) ≤ (k : Int) := by omega
  have k2 : (k : Int) < 3 := by omega
  by_cases hlt : j < (who k).length
  · obtain ⟨g, cap, mb, y2, hcap, y3, hmap⟩ := HM.elem hk hlt
    have hlk2 := map_look (r := (r : Int)) hmap (okI_of (by omega) (by omega))
    have hstep := lw_take hlt (r : Int)
    have d1 : decide (j < (who k).length) = true := decide_eq_true hlt
    have d2 : decide ((j : Int) < ((who k).length : Int)) = true := decide_eq_true (by omega)
    have i1 : (0 : Int) ≤ (j : Int) := by omega
    have i2 : (j : Int) < ((who k).length : Int) := by omega
    have i3 : ((who k).length : Int) ≤ (cap : Int) := by omega
    have i4 : (j : Int) < 1000 := by omega
    replace hn := Aside0.mk hn
    have HLT := Aside0.mk hlt
    replace hstep := Aside0.mk hstep
    clear hmap HS hlk HM
    cases hf : (who k)[j].2 (r : Int) with
    | none =>
      rw [hf] at hlk2
      replace hf := Aside0.mk hf
      go_wp2
      refine Handed.intro (gk - 1) (by have := hn.out; have := HLT.out; omega) (hJ2 _ _ _ ⟨j + 1, by have := hn.out; have := HLT.out; omega, ⟨rfl, rfl, rfl, rfl, rfl, rfl, rfl, rfl, rfl, rfl, rfl, rfl⟩, rfl, rfl, ?_, congrArg (Value.int .i64) (by omega), rfl⟩)
      have h1 := hstep.out
      rw [hf.out] at h1
      rw [h1]
      rfl
    | some v =>
      rw [hf] at hlk2
      replace hf := Aside0.mk hf
      go_wp2
      refine Handed.intro (gk - 1) (by have := hn.out; have := HLT.out; omega) (hJ2 _ _ _ ⟨j + 1, by have := hn.out; have := HLT.out; omega, ⟨rfl, rfl, rfl, rfl, rfl, rfl, rfl, rfl, rfl, rfl, rfl, rfl⟩, rfl, rfl, ?_, congrArg (Value.int .i64) (by omega), rfl⟩)
      have h1 := hstep.out
      rw [hf.out] at h1
      rw [h1]
      rfl
  · have d1 : decide (j < (who k).length) = false := decide_eq_false hlt
    have d2 : decide ((j : Int) < ((who k).length : Int)) = false := decide_eq_false (by omega)
    obtain ⟨a0, c0, y3⟩ := HM.len hk
    replace hlt := Aside0.mk hlt
    replace hn := Aside0.mk hn
    clear HS hlk HM
    go_wp2
    obtain rfl : j = (who k).length := by have := hn.out; have := hlt.out; omega
    rw [List.take_length]
    exact Met.intro (hJ _ _ ⟨⟨rfl, rfl, rfl, rfl, rfl, rfl, rfl, rfl, rfl, rfl, rfl, rfl⟩, rfl, rfl, rfl, rfl⟩)
/-- What who looks is told. -/
theorem OneSt.seen (HS : OneSt w2 wr b h x cB kB sB wB m tk A T who com kept q K vs vw G) (hi : m ≤ 1000) (hr : r < 4) {at' me v : Int} (hv : A.says T at' me ((r : Int) + 1) = v) :
    ∀ W, Below wr.heap.size wr W → Calls Try.prog 27 #[.pointer (some ⟨b, 0, none⟩), .agg #[.int .i64 at', .int .i64 me], .int .i64 ((r : Int) + 1)] W fun e w' => e = .returned (.int .i64 v) ∧ Below W.heap.size W w' := fun W hb => by
  obtain ⟨F, Fx, L⟩ := (HS.sg.below hb).look (by omega)
  rw [← hv]
  exact wseen_calls b h x at' me _ A T F Fx W L (HS.sg.below hb).wr (okI_of (by omega) (by omega))
theorem OneSt.now (HS : OneSt w2 wr b h x cB kB sB wB m tk A T who com kept q K vs vw G) (hi : m ≤ 1000) (me : Int) :
    ∀ W, Below wr.heap.size wr W → Calls Try.prog 22 #[.pointer (some ⟨x, 0, none⟩), .int .i64 me] W fun e w' => e = .returned (.agg #[.int .i64 T.last, .int .i64 me]) ∧ Below W.heap.size W w' := fun W hb => (HS.sg.below hb).now (by omega) me
set_option maxRecDepth 100000 in
set_option maxHeartbeats 4000000 in
/-- Each who acts is told what it wrote. -/
theorem check_who (hr : r < 4) (hi : m ≤ 1000) (HF : Fr a L wh b cB kB sB wB tk i) (e24 : a.tmps.getD 24 undef = .int .i64 r) (e25 : a.tmps.getD 25 undef = .int .i64 0)
    (HS : OneSt w2 wr b h x cB kB sB wB m tk A T who com kept q K vs vw G) :
    Cuts (blk 9) (fun a' w' => Fr a' L wh b cB kB sB wB tk i ∧ a'.tmps.getD 24 undef = .int .i64 r ∧ OneSt w2 w' b h x cB kB sB wB m tk A T who com kept q K vs vw G) a wr := by
  intro J K' hJ hK
  obtain ⟨u, hu, ha⟩ := HF.open
  have u24 := (hu 24).trans e24
  have u25 := (hu 25).trans e25
  subst ha
  rw [u24, u25]
  clear hu HF e24 e25 u24 u25
  conv => arg 2; whnf
  go_wp2
  refine wp_loop_ghost_k (fun n a' w' => ∃ k, n + k = 3 ∧ Fr a' L wh b cB kB sB wB tk i ∧ a'.tmps.getD 24 undef = .int .i64 r ∧ a'.tmps.getD 25 undef = .int .i64 k ∧ OneSt w2 w' b h x cB kB sB wB m tk A T who com kept q K vs vw G) 3 ⟨0, by omega, ⟨rfl, rfl, rfl, rfl, rfl, rfl, rfl, rfl, rfl, rfl, rfl, rfl⟩, rfl, rfl, HS⟩ ?_
  clear HS
  rintro gk a' wr ⟨k, hn, HF, e24, e25, HS⟩
  obtain ⟨u, hu, ha⟩ := HF.open
  have u24 := (hu 24).trans e24
  have u25 := (hu 25).trans e25
  subst ha
  rw [u24, u25]
  clear hu HF e24 e25 u24 u25
  intro J2 K2 hJ2 hK2
  by_cases hk : k < 3
  · obtain ⟨y0, y1, y2⟩ := HS.mem.cwho hk
    have d1 : decide ((k : Int) < 3) = true := decide_eq_true (by omega)
    have i1 : (0 : Int) ≤ (k : Int) := by omega
    have i2 : (k : Int) < 3 := by omega
    have HN := Aside0.mk (And.intro hn hk)
    by_cases hw : who k = []
    · rw [hw] at y0
      have y0' : wr.cell? ⟨wB, k * 3, none⟩ = some (.int .i64 0) := y0
      replace HS := Aside0.mk HS
      clear y0 hw hn hk
      go_wp2
      refine Handed.intro (gk - 1) (by have := HN.out; omega) (hJ2 _ _ _ ⟨k + 1, by have := HN.out; omega, ⟨rfl, rfl, rfl, rfl, rfl, rfl, rfl, rfl, rfl, rfl, rfl, rfl⟩, rfl, congrArg (Value.int .i64) (by omega), HS.out⟩)
    · have htp : Tr.top (who k) ≠ 0 := by have := HS.one.tp.pos (Tr.top_mem hw); omega
      have t1 : (Tr.top (who k) == 0) = false := beq_eq_false_iff_ne.2 htp
      have cc := HS.mem.ccom hr
      have i3 : (0 : Int) ≤ (r : Int) := by omega
      have i4 : (r : Int) < 4 := by omega
      have hsay := HS.one.saysOwn (r := (r : Int)) hw (by omega) (by omega)
      have hseen := HS.seen hi hr hsay
      have hnow := HS.now hi (Tr.top (who k))
      have z1 := HS.sg.wr.c1
      replace hseen := Aside0.mk hseen
      replace hnow := Aside0.mk hnow
      have HR := Aside0.mk hr
      have HI := Aside0.mk hi
      replace HS := Aside0.mk HS
      clear hsay htp hw hn hk hr hi
      go_upto_block 11 with (fail)
      refine Cuts.use (c := blk 11) (check_maps (L := L) (wh := wh) (tk := tk) (i := i) (k := k) (r := r) HN.out.2 HR.out HI.out ?f1 ?f2 ?f3 ?f4 ?f5 HS.out) ?rest
      case f1 => exact ⟨rfl, rfl, rfl, rfl, rfl, rfl, rfl, rfl, rfl, rfl, rfl, rfl⟩
      case f2 => rfl
      case f3 => rfl
      case f4 => rfl
      case f5 => rfl
      rintro a' w' ⟨HF, e24, e25, e26, rfl⟩
      obtain ⟨u, hu, ha⟩ := HF.open
      have u24 := (hu 24).trans e24
      have u25 := (hu 25).trans e25
      have u26 := (hu 26).trans e26
      subst ha
      rw [u24, u25, u26]
      clear hu HF e24 e25 e26 u24 u25 u26
      generalize (lw (who k) (r : Int)).getD (com (r : Int)) = v at hseen ⊢
      have i6 : IntKind.i64.wrap ((r : Int) + 1) = (r : Int) + 1 := IntWalk.i64_in _ (by omega)
      have hb0 : Aside0 (Below w'.heap.size w' w'.drew) := ⟨(Below.refl _ _).drew⟩
      have v1 : (v == v) = true := beq_self_eq_true v
      have v2 : (v != v) = false := bne_self_eq_false v
      have hcells : ∀ W, Below w'.heap.size w' W → W.cell? ⟨b, 1, none⟩ = some (.pointer (some ⟨x, 0, none⟩)) ∧ W.cell? ⟨wB, k * 3, none⟩ = some (.int .i64 (Tr.top (who k))) := fun W hb => ⟨(HS.out.sg.below hb).wr.c1, ((HS.out.mem.below hb).cwho HN.out.2).1⟩
      replace hcells := Aside0.mk hcells
      clear y1 y2 cc
      go_upto_region 73 with (fail)
      go_region_held3 (fun W => W.cell? ⟨b, 1, none⟩ = some (.pointer (some ⟨x, 0, none⟩)) ∧ W.cell? ⟨wB, k * 3, none⟩ = some (.int .i64 (Tr.top (who k)))) (go_keep) ((first
        | (go_at_call 22; refine (hnow.out _ hb0.out).mono ?_; rintro e W1 ⟨rfl, hb1⟩; obtain ⟨hbb, hbb'⟩ : ∃ h : Aside0 (Below w'.heap.size w' W1), True := ⟨⟨hb0.out.trans hb1⟩, trivial⟩; obtain ⟨s0, s1⟩ := hcells.out _ hbb.out; clear hb1 hbb')
        | (go_at_call 27; refine (hseen.out _ hbb.out).mono ?_; rintro e W2 ⟨rfl, hb2⟩; obtain ⟨hbc, hbc'⟩ : ∃ h : Aside0 (Below w'.heap.size w' W2), True := ⟨⟨hbb.out.trans (hb2.mono hbb.out.size)⟩, trivial⟩; obtain ⟨s2, s3⟩ := hcells.out _ hbc.out; clear hb2 hbc')))
      have HS2 := Aside0.mk (HS.out.below hbc.out)
      go_wp2
      refine Handed.intro (gk - 1) (by have := HN.out; omega) (hJ2 _ _ _ ⟨k + 1, by have := HN.out; omega, ⟨rfl, rfl, rfl, rfl, rfl, rfl, rfl, rfl, rfl, rfl, rfl, rfl⟩, rfl, congrArg (Value.int .i64) (by omega), HS2.out⟩)
  · have d1 : decide ((k : Int) < 3) = false := decide_eq_false (by omega)
    replace HS := Aside0.mk HS
    go_wp2
    exact Met.intro (hJ _ _ ⟨⟨rfl, rfl, rfl, rfl, rfl, rfl, rfl, rfl, rfl, rfl, rfl, rfl⟩, rfl, HS.out⟩)
end
end Go.Proofs.Ytljahhgankcalaa

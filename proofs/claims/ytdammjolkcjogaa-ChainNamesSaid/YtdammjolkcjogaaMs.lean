import Derived.Test.YtdammjolkcjogaaRw
import Derived.OrdersHeld
/-! Map operations as steps of a walk: in a plain list of operations ('wpList_..'), in a region that draws ('step_..'). -/
namespace Go.Proofs.Ytdammjolkcjogaa
open Go.RowKit Go.Maps Go.MapKept
open Go.Proofs.YtdammjolkcjogaaW.PrintWords
set_option linter.unusedVariables false

section
variable {α β : Type} [DecidableEq α] {P : Program} {k t e : TypeId} {kv : α → Value} {ev : β → Value} {ok : α → Prop} {W : World} {b : Nat} {g : α → Option β}
variable {ops : Array Oper} {rest : List Oper} {o : Oper} {a : Act} {Q : Exit → Act → World → Prop} {K : Act → World → Prop} {E : Prop}

/-- What an entry that was taken leaves: it can be stored into. -/
def Storable (P : Program) (t : TypeId) (kv : α → Value) (ev : β → Value) (ok : α → Prop) (b : Nat) (g : α → Option β) (x : α) (st : Int) (w1 : World) : Prop :=
  ∀ (w2 : World) (v : β), w2.heap[b]? = w1.heap[b]? → ∃ w3, (Instr.entryStore t (.map (some b)) (goInt st) (ev v)).run P w2 = .ok () w3 ∧ MapOf kv ev ok w3 b (upd g x (some v)) ∧ Chg w2 w3 (fun k => k = b) ∧ w3.heap.size = w2.heap.size

theorem wp_mapEntry (m x : Operand) (hop : o.op = Op.mapEntry t m x) (KE : KeyEnc P k kv ok) (ht : P.underlying t = some (.map k e)) {z : β} (hz : ∀ u : World, (zeroValue e).run P u = .ok (ev z) u) (hm : a.eval m = .map (some b)) {y : α} (hx : a.eval x = kv y) (hy : ok y)
    (H : MapOf kv ev ok W b g) (h : ∀ st w1, MapOf kv ev ok w1 b (upd g y (some ((g y).getD z))) → Chg W w1 (fun k => k = b) → w1.heap.size = W.heap.size → Storable P t kv ev ok b g y st w1 → K (a.put o.dst (.tuple #[ev ((g y).getD z), goInt st])) w1) : Oper.wp P o a W K Q := by
  obtain ⟨st, w1, hrun, h1, h2, h3, h4⟩ := H.entry KE ht hz hy
  have hk := h st w1 h1 h2 h3 h4
  unfold Oper.wp
  simp [execOp, hop, hm, hx, hrun, Result.andThen]
  exact hk
theorem step_mapEntry (hgd : o.guard = none) (m x : Operand) (hop : o.op = Op.mapEntry t m x) (KE : KeyEnc P k kv ok) (ht : P.underlying t = some (.map k e)) {z : β} (hz : ∀ u : World, (zeroValue e).run P u = .ok (ev z) u) (hm : a.eval m = .map (some b)) {y : α} (hx : a.eval x = kv y) (hy : ok y)
    (H : MapOf kv ev ok W b g) (h : ∀ st w1, MapOf kv ev ok w1 b (upd g y (some ((g y).getD z))) → Chg W w1 (fun k => k = b) → w1.heap.size = W.heap.size → Storable P t kv ev ok b g y st w1 → K (a.put o.dst (.tuple #[ev ((g y).getD z), goInt st])) w1) :
    if Region.wanted o (yielded ops a.tmps) = true then Oper.wp P o a W K Q else E := by
  rw [if_pos (by simp [Region.wanted, hgd])]
  exact wp_mapEntry m x hop KE ht hz hm hx hy H h
theorem wpList_mapEntry (hgd : o.guard = none) (m x : Operand) (hop : o.op = Op.mapEntry t m x) (KE : KeyEnc P k kv ok) (ht : P.underlying t = some (.map k e)) {z : β} (hz : ∀ u : World, (zeroValue e).run P u = .ok (ev z) u) (hm : a.eval m = .map (some b)) {y : α} (hx : a.eval x = kv y) (hy : ok y)
    (H : MapOf kv ev ok W b g) (h : ∀ st w1, MapOf kv ev ok w1 b (upd g y (some ((g y).getD z))) → Chg W w1 (fun k => k = b) → w1.heap.size = W.heap.size → Storable P t kv ev ok b g y st w1 → wpList P ops Q rest (a.put o.dst (.tuple #[ev ((g y).getD z), goInt st])) w1) :
    wpList P ops Q (o :: rest) a W :=
  wpList_plain hgd fun K' hK' => wp_mapEntry m x hop KE ht hz hm hx hy H (fun st w1 h1 h2 h3 h4 => hK' _ _ (h st w1 h1 h2 h3 h4))

theorem wp_entryStore {st : Int} {y : α} {w1 : World} (m s x : Operand) (hop : o.op = Op.entryStore t m s x) (hm : a.eval m = .map (some b)) (hs : a.eval s = goInt st) {v : β} (hx : a.eval x = ev v) (S : Storable P t kv ev ok b g y st w1) (hb : W.heap[b]? = w1.heap[b]?)
    (h : ∀ w3, MapOf kv ev ok w3 b (upd g y (some v)) → Chg W w3 (fun k => k = b) → w3.heap.size = W.heap.size → K (a.put o.dst undef) w3) : Oper.wp P o a W K Q := by
  obtain ⟨w3, hrun, h1, h2, h3⟩ := S W v hb
  have hk := h w3 h1 h2 h3
  unfold Oper.wp
  simp [execOp, hop, hm, hs, hx, hrun, Result.andThen]
  exact hk
theorem step_entryStore {st : Int} {y : α} {w1 : World} (hgd : o.guard = none) (m s x : Operand) (hop : o.op = Op.entryStore t m s x) (hm : a.eval m = .map (some b)) (hs : a.eval s = goInt st) {v : β} (hx : a.eval x = ev v) (S : Storable P t kv ev ok b g y st w1) (hb : W.heap[b]? = w1.heap[b]?)
    (h : ∀ w3, MapOf kv ev ok w3 b (upd g y (some v)) → Chg W w3 (fun k => k = b) → w3.heap.size = W.heap.size → K (a.put o.dst undef) w3) :
    if Region.wanted o (yielded ops a.tmps) = true then Oper.wp P o a W K Q else E := by
  rw [if_pos (by simp [Region.wanted, hgd])]
  exact wp_entryStore m s x hop hm hs hx S hb h
theorem wpList_entryStore {st : Int} {y : α} {w1 : World} (hgd : o.guard = none) (m s x : Operand) (hop : o.op = Op.entryStore t m s x) (hm : a.eval m = .map (some b)) (hs : a.eval s = goInt st) {v : β} (hx : a.eval x = ev v) (S : Storable P t kv ev ok b g y st w1) (hb : W.heap[b]? = w1.heap[b]?)
    (h : ∀ w3, MapOf kv ev ok w3 b (upd g y (some v)) → Chg W w3 (fun k => k = b) → w3.heap.size = W.heap.size → wpList P ops Q rest (a.put o.dst undef) w3) : wpList P ops Q (o :: rest) a W :=
  wpList_plain hgd fun K' hK' => wp_entryStore m s x hop hm hs hx S hb (fun w3 h1 h2 h3 => hK' _ _ (h w3 h1 h2 h3))
theorem wp_mapStore (m x v : Operand) (hop : o.op = Op.mapUpdate t m x v) (KE : KeyEnc P k kv ok) (ht : P.underlying t = some (.map k e)) (hm : a.eval m = .map (some b)) {y : α} (hx : a.eval x = kv y) (hy : ok y) {u : β} (hv : a.eval v = ev u) (H : MapOf kv ev ok W b g)
    (h : ∀ w3, MapOf kv ev ok w3 b (upd g y (some u)) → Chg W w3 (fun k => k = b) → w3.heap.size = W.heap.size → K (a.put o.dst undef) w3) : Oper.wp P o a W K Q := by
  obtain ⟨w3, hrun, h1, h2, h3⟩ := H.store KE ht hy u
  have hk := h w3 h1 h2 h3
  unfold Oper.wp
  simp [execOp, hop, hm, hx, hv, hrun, Result.andThen]
  exact hk
theorem step_mapStore (hgd : o.guard = none) (m x v : Operand) (hop : o.op = Op.mapUpdate t m x v) (KE : KeyEnc P k kv ok) (ht : P.underlying t = some (.map k e)) (hm : a.eval m = .map (some b)) {y : α} (hx : a.eval x = kv y) (hy : ok y) {u : β} (hv : a.eval v = ev u) (H : MapOf kv ev ok W b g)
    (h : ∀ w3, MapOf kv ev ok w3 b (upd g y (some u)) → Chg W w3 (fun k => k = b) → w3.heap.size = W.heap.size → K (a.put o.dst undef) w3) :
    if Region.wanted o (yielded ops a.tmps) = true then Oper.wp P o a W K Q else E := by
  rw [if_pos (by simp [Region.wanted, hgd])]
  exact wp_mapStore m x v hop KE ht hm hx hy hv H h
theorem wpList_mapStore (hgd : o.guard = none) (m x v : Operand) (hop : o.op = Op.mapUpdate t m x v) (KE : KeyEnc P k kv ok) (ht : P.underlying t = some (.map k e)) (hm : a.eval m = .map (some b)) {y : α} (hx : a.eval x = kv y) (hy : ok y) {u : β} (hv : a.eval v = ev u) (H : MapOf kv ev ok W b g)
    (h : ∀ w3, MapOf kv ev ok w3 b (upd g y (some u)) → Chg W w3 (fun k => k = b) → w3.heap.size = W.heap.size → wpList P ops Q rest (a.put o.dst undef) w3) : wpList P ops Q (o :: rest) a W :=
  wpList_plain hgd fun K' hK' => wp_mapStore m x v hop KE ht hm hx hy hv H (fun w3 h1 h2 h3 => hK' _ _ (h w3 h1 h2 h3))
end
end Go.Proofs.Ytdammjolkcjogaa

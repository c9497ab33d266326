/-
  No cell of these rows narrows 'for every input' (looked for: loops, veiled, ifaces, maps, wideKeys, modest, calm, conditions, laid).
  DERIVED. THE GIVEN ROWS OF THIS SEAT. 7 by the template 'for every input the law returns true; each argument reads behind the call as it read before'; 0 by the template 'total and deterministic' (their statements: YteejeakbagbcoaaTotals.lean).
  GIVEN WITH THE SEED: the statements are not yours to turn. If you find one false, say at which input.
  Laid BY PROGRAM, IN A SANDBOX (cutbox-rows.mjs): the forced cells as the released guide's own fill.sh prints them over the translation edf218a0579237bd… (all of the seat's roots in one cut). By AI agents, Wed Nov 11 2026. No macro, syntax, notation, axiom, sorry.
-/
import Derived.Test.YteejeakbagbcoaaChecked
import GoSem.Claim
import GoSem.ClaimJoined
import GoSem.ClaimMapViews
import Derived.JoinedTies
import Derived.KernelRfl
namespace Go.Proofs.Yteejeakbagbcoaa
/- THE CELL 'sum', in the pinned program and in every row, IS THE sha256 OF THE DUMP (.gsa) THAT YteejeakbagbcoaaProg.lean LOADS. Nothing in Lean hashes anything: it is a label: what it is worth is what the hold of that sum in a sandbox is worth. -/
noncomputable def Try.pinned : Pinned := { name := "yteejeakbagbcoaa", sum := "edf218a0579237bda7ec0c8ab8888b7baa9915eee6c4500209ec1a73a33b80a0", checked := Try.checked }
namespace Rows
def none {H : Type} : Left H := { results := [], args := [] }

/-- 'covenantlaw15.WaitsNames': WHATEVER THE INPUT: true; the input reads as it did. -/
def waitsNamesSpec : ChangeSpec := { name := "waitsNames", fn := fun _ => fun
  | [] => { results := [.lit (.bool true)], args := [] }
  | _ => none }
def waitsNamesRow : OpenClaim := { program := "yteejeakbagbcoaa", sum := "edf218a0579237bda7ec0c8ab8888b7baa9915eee6c4500209ec1a73a33b80a0", func := "covenant/covenantlaw15.WaitsNames", spec := "waitsNames", unfollowed := true, recurses := true, apart := false }
def WaitsNamesSaid : Prop := waitsNamesRow.holds Try.pinned (OpenSpec.ofChange waitsNamesSpec)

/-- ITS FALSE NEIGHBOUR: 'it returns false'. Refute it at one input. -/
def waitsNamesWrong : ChangeSpec := { name := "waitsNames", fn := fun _ => fun
  | [] => { results := [.lit (.bool false)], args := [] }
  | _ => none }
def WaitsNamesWrongFalsely : Prop := waitsNamesRow.holds Try.pinned (OpenSpec.ofChange waitsNamesWrong)

/-- 'covenantlaw15.WaitsTell': WHATEVER THE INPUT: true; the input reads as it did. -/
def waitsTellSpec : ChangeSpec := { name := "waitsTell", fn := fun _ => fun
  | [d1, d2, d3] => { results := [.lit (.bool true)], args := [d1, d2, d3] }
  | _ => none }
def waitsTellRow : OpenClaim := { program := "yteejeakbagbcoaa", sum := "edf218a0579237bda7ec0c8ab8888b7baa9915eee6c4500209ec1a73a33b80a0", func := "covenant/covenantlaw15.WaitsTell", spec := "waitsTell", unfollowed := true, recurses := true, apart := false }
def WaitsTellSaid : Prop := waitsTellRow.holds Try.pinned (OpenSpec.ofChange waitsTellSpec)

/-- ITS FALSE NEIGHBOUR: 'it returns false'. Refute it at one input. -/
def waitsTellWrong : ChangeSpec := { name := "waitsTell", fn := fun _ => fun
  | [d1, d2, d3] => { results := [.lit (.bool false)], args := [d1, d2, d3] }
  | _ => none }
def WaitsTellWrongFalsely : Prop := waitsTellRow.holds Try.pinned (OpenSpec.ofChange waitsTellWrong)

/-- 'covenantlaw15.WaitsBoth': WHATEVER THE INPUT: true; the input reads as it did. -/
def waitsBothSpec : ChangeSpec := { name := "waitsBoth", fn := fun _ => fun
  | [d1, d2] => { results := [.lit (.bool true)], args := [d1, d2] }
  | _ => none }
def waitsBothRow : OpenClaim := { program := "yteejeakbagbcoaa", sum := "edf218a0579237bda7ec0c8ab8888b7baa9915eee6c4500209ec1a73a33b80a0", func := "covenant/covenantlaw15.WaitsBoth", spec := "waitsBoth", unfollowed := true, recurses := true, apart := false }
def WaitsBothSaid : Prop := waitsBothRow.holds Try.pinned (OpenSpec.ofChange waitsBothSpec)

/-- ITS FALSE NEIGHBOUR: 'it returns false'. Refute it at one input. -/
def waitsBothWrong : ChangeSpec := { name := "waitsBoth", fn := fun _ => fun
  | [d1, d2] => { results := [.lit (.bool false)], args := [d1, d2] }
  | _ => none }
def WaitsBothWrongFalsely : Prop := waitsBothRow.holds Try.pinned (OpenSpec.ofChange waitsBothWrong)

/-- 'covenantlaw15.WaitsStill': WHATEVER THE INPUT: true; the input reads as it did. -/
def waitsStillSpec : ChangeSpec := { name := "waitsStill", fn := fun _ => fun
  | [d1, d2] => { results := [.lit (.bool true)], args := [d1, d2] }
  | _ => none }
def waitsStillRow : OpenClaim := { program := "yteejeakbagbcoaa", sum := "edf218a0579237bda7ec0c8ab8888b7baa9915eee6c4500209ec1a73a33b80a0", func := "covenant/covenantlaw15.WaitsStill", spec := "waitsStill", unfollowed := true, recurses := true, apart := false }
def WaitsStillSaid : Prop := waitsStillRow.holds Try.pinned (OpenSpec.ofChange waitsStillSpec)

/-- ITS FALSE NEIGHBOUR: 'it returns false'. Refute it at one input. -/
def waitsStillWrong : ChangeSpec := { name := "waitsStill", fn := fun _ => fun
  | [d1, d2] => { results := [.lit (.bool false)], args := [d1, d2] }
  | _ => none }
def WaitsStillWrongFalsely : Prop := waitsStillRow.holds Try.pinned (OpenSpec.ofChange waitsStillWrong)

/-- 'covenantlaw15.WaitsLess': WHATEVER THE INPUT: true; the input reads as it did. -/
def waitsLessSpec : ChangeSpec := { name := "waitsLess", fn := fun _ => fun
  | [d1, d2, d3] => { results := [.lit (.bool true)], args := [d1, d2, d3] }
  | _ => none }
def waitsLessRow : OpenClaim := { program := "yteejeakbagbcoaa", sum := "edf218a0579237bda7ec0c8ab8888b7baa9915eee6c4500209ec1a73a33b80a0", func := "covenant/covenantlaw15.WaitsLess", spec := "waitsLess", unfollowed := true, recurses := true, apart := false }
def WaitsLessSaid : Prop := waitsLessRow.holds Try.pinned (OpenSpec.ofChange waitsLessSpec)

/-- ITS FALSE NEIGHBOUR: 'it returns false'. Refute it at one input. -/
def waitsLessWrong : ChangeSpec := { name := "waitsLess", fn := fun _ => fun
  | [d1, d2, d3] => { results := [.lit (.bool false)], args := [d1, d2, d3] }
  | _ => none }
def WaitsLessWrongFalsely : Prop := waitsLessRow.holds Try.pinned (OpenSpec.ofChange waitsLessWrong)

/-- 'covenantlaw15.WaitsNone': WHATEVER THE INPUT: true; the input reads as it did. -/
def waitsNoneSpec : ChangeSpec := { name := "waitsNone", fn := fun _ => fun
  | [d1, d2] => { results := [.lit (.bool true)], args := [d1, d2] }
  | _ => none }
def waitsNoneRow : OpenClaim := { program := "yteejeakbagbcoaa", sum := "edf218a0579237bda7ec0c8ab8888b7baa9915eee6c4500209ec1a73a33b80a0", func := "covenant/covenantlaw15.WaitsNone", spec := "waitsNone", unfollowed := true, recurses := true, apart := false }
def WaitsNoneSaid : Prop := waitsNoneRow.holds Try.pinned (OpenSpec.ofChange waitsNoneSpec)

/-- ITS FALSE NEIGHBOUR: 'it returns false'. Refute it at one input. -/
def waitsNoneWrong : ChangeSpec := { name := "waitsNone", fn := fun _ => fun
  | [d1, d2] => { results := [.lit (.bool false)], args := [d1, d2] }
  | _ => none }
def WaitsNoneWrongFalsely : Prop := waitsNoneRow.holds Try.pinned (OpenSpec.ofChange waitsNoneWrong)

/-- 'covenantlaw15.WaitsRows': WHATEVER THE INPUT: true; the input reads as it did. -/
def waitsRowsSpec : ChangeSpec := { name := "waitsRows", fn := fun _ => fun
  | [d1, d2] => { results := [.lit (.bool true)], args := [d1, d2] }
  | _ => none }
def waitsRowsRow : OpenClaim := { program := "yteejeakbagbcoaa", sum := "edf218a0579237bda7ec0c8ab8888b7baa9915eee6c4500209ec1a73a33b80a0", func := "covenant/covenantlaw15.WaitsRows", spec := "waitsRows", unfollowed := true, recurses := true, apart := false }
def WaitsRowsSaid : Prop := waitsRowsRow.holds Try.pinned (OpenSpec.ofChange waitsRowsSpec)

/-- ITS FALSE NEIGHBOUR: 'it returns false'. Refute it at one input. -/
def waitsRowsWrong : ChangeSpec := { name := "waitsRows", fn := fun _ => fun
  | [d1, d2] => { results := [.lit (.bool false)], args := [d1, d2] }
  | _ => none }
def WaitsRowsWrongFalsely : Prop := waitsRowsRow.holds Try.pinned (OpenSpec.ofChange waitsRowsWrong)

/- THE SECOND FORM. 'bulk': how many values and letters a reading holds, each counted each time it is reached (what is shared counts as often as it is met; a slice's spare places count too). A statement '..UptoSaid' is the law's where the arguments, and the package variables that the reading takes, are together of bulk at most 1048576: NARROWER than '..Said'. Prove '..Said' where nothing that the law and all that it calls make is longer than what came in: it says more and counts as full. Else prove '..UptoSaid'. A law counts once. -/
mutual
def uptoBulk {H : Type} : DataW H → Nat
  | .lit (.string bytes) => bytes.length + 1
  | .lit _ => 1
  | .nil => 1
  | .ptr d => uptoBulk d + 1
  | .slice elems spare => uptoBulkAll elems + uptoBulkAll spare + 1
  | .agg parts => uptoBulkAll parts + 1
  | .iface _ d => uptoBulk d + 1
  | .map entries => uptoBulkEntries entries + 1
  | .held _ => 1
def uptoBulkAll {H : Type} : List (DataW H) → Nat
  | [] => 0
  | d :: r => uptoBulk d + uptoBulkAll r
def uptoBulkEntries {H : Type} : List (Lit × DataW H) → Nat
  | [] => 0
  | x :: r => uptoBulkEntry x + uptoBulkEntries r
def uptoBulkEntry {H : Type} : Lit × DataW H → Nat
  | (.string bytes, d) => bytes.length + uptoBulk d + 1
  | (_, d) => uptoBulk d + 1
 end
def uptoSmall : (H : Type) → List (DataW H) → Bool := fun _ ds => decide (uptoBulkAll ds ≤ 1048576)
def OpenSpec.upto (s : _root_.Go.ChangeSpec) : _root_.Go.OpenSpec := { _root_.Go.OpenSpec.ofChange s with cond := some uptoSmall }

/-- 'covenantlaw15.WaitsNames', WHERE WHAT IT READS IS OF BULK AT MOST 1048576: true; the input reads as it did. -/
def waitsNamesUptoRow : OpenClaim := { program := "yteejeakbagbcoaa", sum := "edf218a0579237bda7ec0c8ab8888b7baa9915eee6c4500209ec1a73a33b80a0", func := "covenant/covenantlaw15.WaitsNames", spec := "waitsNames", unfollowed := true, recurses := true, apart := false, narrowed := true }
def WaitsNamesUptoSaid : Prop := waitsNamesUptoRow.holds Try.pinned (OpenSpec.upto waitsNamesSpec)

/-- 'covenantlaw15.WaitsTell', WHERE WHAT IT READS IS OF BULK AT MOST 1048576: true; the input reads as it did. -/
def waitsTellUptoRow : OpenClaim := { program := "yteejeakbagbcoaa", sum := "edf218a0579237bda7ec0c8ab8888b7baa9915eee6c4500209ec1a73a33b80a0", func := "covenant/covenantlaw15.WaitsTell", spec := "waitsTell", unfollowed := true, recurses := true, apart := false, narrowed := true }
def WaitsTellUptoSaid : Prop := waitsTellUptoRow.holds Try.pinned (OpenSpec.upto waitsTellSpec)

/-- 'covenantlaw15.WaitsBoth', WHERE WHAT IT READS IS OF BULK AT MOST 1048576: true; the input reads as it did. -/
def waitsBothUptoRow : OpenClaim := { program := "yteejeakbagbcoaa", sum := "edf218a0579237bda7ec0c8ab8888b7baa9915eee6c4500209ec1a73a33b80a0", func := "covenant/covenantlaw15.WaitsBoth", spec := "waitsBoth", unfollowed := true, recurses := true, apart := false, narrowed := true }
def WaitsBothUptoSaid : Prop := waitsBothUptoRow.holds Try.pinned (OpenSpec.upto waitsBothSpec)

/-- 'covenantlaw15.WaitsStill', WHERE WHAT IT READS IS OF BULK AT MOST 1048576: true; the input reads as it did. -/
def waitsStillUptoRow : OpenClaim := { program := "yteejeakbagbcoaa", sum := "edf218a0579237bda7ec0c8ab8888b7baa9915eee6c4500209ec1a73a33b80a0", func := "covenant/covenantlaw15.WaitsStill", spec := "waitsStill", unfollowed := true, recurses := true, apart := false, narrowed := true }
def WaitsStillUptoSaid : Prop := waitsStillUptoRow.holds Try.pinned (OpenSpec.upto waitsStillSpec)

/-- 'covenantlaw15.WaitsLess', WHERE WHAT IT READS IS OF BULK AT MOST 1048576: true; the input reads as it did. -/
def waitsLessUptoRow : OpenClaim := { program := "yteejeakbagbcoaa", sum := "edf218a0579237bda7ec0c8ab8888b7baa9915eee6c4500209ec1a73a33b80a0", func := "covenant/covenantlaw15.WaitsLess", spec := "waitsLess", unfollowed := true, recurses := true, apart := false, narrowed := true }
def WaitsLessUptoSaid : Prop := waitsLessUptoRow.holds Try.pinned (OpenSpec.upto waitsLessSpec)

/-- 'covenantlaw15.WaitsNone', WHERE WHAT IT READS IS OF BULK AT MOST 1048576: true; the input reads as it did. -/
def waitsNoneUptoRow : OpenClaim := { program := "yteejeakbagbcoaa", sum := "edf218a0579237bda7ec0c8ab8888b7baa9915eee6c4500209ec1a73a33b80a0", func := "covenant/covenantlaw15.WaitsNone", spec := "waitsNone", unfollowed := true, recurses := true, apart := false, narrowed := true }
def WaitsNoneUptoSaid : Prop := waitsNoneUptoRow.holds Try.pinned (OpenSpec.upto waitsNoneSpec)

/-- 'covenantlaw15.WaitsRows', WHERE WHAT IT READS IS OF BULK AT MOST 1048576: true; the input reads as it did. -/
def waitsRowsUptoRow : OpenClaim := { program := "yteejeakbagbcoaa", sum := "edf218a0579237bda7ec0c8ab8888b7baa9915eee6c4500209ec1a73a33b80a0", func := "covenant/covenantlaw15.WaitsRows", spec := "waitsRows", unfollowed := true, recurses := true, apart := false, narrowed := true }
def WaitsRowsUptoSaid : Prop := waitsRowsUptoRow.holds Try.pinned (OpenSpec.upto waitsRowsSpec)

end Rows
end Go.Proofs.Yteejeakbagbcoaa

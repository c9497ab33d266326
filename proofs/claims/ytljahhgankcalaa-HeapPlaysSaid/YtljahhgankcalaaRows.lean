/-
  No cell of these rows narrows 'for every input' (looked for: loops, veiled, ifaces, maps, wideKeys, modest, calm, conditions, laid).
  DERIVED. THE GIVEN ROWS OF THIS SEAT. 10 by the template 'for every input the law returns true; each argument reads behind the call as it read before'; 0 by the template 'total and deterministic' (their statements: YtljahhgankcalaaTotals.lean).
  GIVEN WITH THE SEED: the statements are not yours to turn. If you find one false, say at which input.
  Laid BY PROGRAM, IN A SANDBOX (cutbox-rows.mjs): the forced cells as the released guide's own fill.sh prints them over the translation 933c41fc4bf7fab5… (all of the seat's roots in one cut). By AI agents, Wed Nov 11 2026. No macro, syntax, notation, axiom, sorry.
-/
import Derived.Test.YtljahhgankcalaaChecked
import GoSem.Claim
import GoSem.ClaimJoined
import GoSem.ClaimMapViews
import Derived.JoinedTies
import Derived.KernelRfl
namespace Go.Proofs.Ytljahhgankcalaa
/- THE CELL 'sum', in the pinned program and in every row, IS THE sha256 OF THE DUMP (.gsa) THAT YtljahhgankcalaaProg.lean LOADS. Nothing in Lean hashes anything: it is a label: what it is worth is what the hold of that sum in a sandbox is worth. -/
noncomputable def Try.pinned : Pinned := { name := "ytljahhgankcalaa", sum := "933c41fc4bf7fab543494f3b6a9c654c266a2fb06601e803cafdfb3e655e11b4", checked := Try.checked }
namespace Rows
def none {H : Type} : Left H := { results := [], args := [] }

/-- 'covenantlaw11.HeapIDs': WHATEVER THE INPUT: true; the input reads as it did. -/
def heapIDsSpec : ChangeSpec := { name := "heapIDs", fn := fun _ => fun
  | [d] => { results := [.lit (.bool true)], args := [d] }
  | _ => none }
def heapIDsRow : OpenClaim := { program := "ytljahhgankcalaa", sum := "933c41fc4bf7fab543494f3b6a9c654c266a2fb06601e803cafdfb3e655e11b4", func := "covenant/covenantlaw11.HeapIDs", spec := "heapIDs", unfollowed := true, recurses := true, plainKeys := false, apart := false }
def HeapIDsSaid : Prop := heapIDsRow.holds Try.pinned (OpenSpec.ofChange heapIDsSpec)

/-- ITS FALSE NEIGHBOUR: 'it returns false'. Refute it at one input. -/
def heapIDsWrong : ChangeSpec := { name := "heapIDs", fn := fun _ => fun
  | [d] => { results := [.lit (.bool false)], args := [d] }
  | _ => none }
def HeapIDsWrongFalsely : Prop := heapIDsRow.holds Try.pinned (OpenSpec.ofChange heapIDsWrong)

/-- 'covenantlaw11.HeapThere': WHATEVER THE INPUT: true; the input reads as it did. -/
def heapThereSpec : ChangeSpec := { name := "heapThere", fn := fun _ => fun
  | [d] => { results := [.lit (.bool true)], args := [d] }
  | _ => none }
def heapThereRow : OpenClaim := { program := "ytljahhgankcalaa", sum := "933c41fc4bf7fab543494f3b6a9c654c266a2fb06601e803cafdfb3e655e11b4", func := "covenant/covenantlaw11.HeapThere", spec := "heapThere", unfollowed := true, recurses := true, plainKeys := false, apart := false }
def HeapThereSaid : Prop := heapThereRow.holds Try.pinned (OpenSpec.ofChange heapThereSpec)

/-- ITS FALSE NEIGHBOUR: 'it returns false'. Refute it at one input. -/
def heapThereWrong : ChangeSpec := { name := "heapThere", fn := fun _ => fun
  | [d] => { results := [.lit (.bool false)], args := [d] }
  | _ => none }
def HeapThereWrongFalsely : Prop := heapThereRow.holds Try.pinned (OpenSpec.ofChange heapThereWrong)

/-- 'covenantlaw11.HeapLeast': WHATEVER THE INPUT: true; the input reads as it did. -/
def heapLeastSpec : ChangeSpec := { name := "heapLeast", fn := fun _ => fun
  | [d] => { results := [.lit (.bool true)], args := [d] }
  | _ => none }
def heapLeastRow : OpenClaim := { program := "ytljahhgankcalaa", sum := "933c41fc4bf7fab543494f3b6a9c654c266a2fb06601e803cafdfb3e655e11b4", func := "covenant/covenantlaw11.HeapLeast", spec := "heapLeast", unfollowed := true, recurses := true, plainKeys := false, apart := false }
def HeapLeastSaid : Prop := heapLeastRow.holds Try.pinned (OpenSpec.ofChange heapLeastSpec)

/-- ITS FALSE NEIGHBOUR: 'it returns false'. Refute it at one input. -/
def heapLeastWrong : ChangeSpec := { name := "heapLeast", fn := fun _ => fun
  | [d] => { results := [.lit (.bool false)], args := [d] }
  | _ => none }
def HeapLeastWrongFalsely : Prop := heapLeastRow.holds Try.pinned (OpenSpec.ofChange heapLeastWrong)

/-- 'covenantlaw12.SightOne': WHATEVER THE INPUT: true; the input reads as it did. -/
def sightOneSpec : ChangeSpec := { name := "sightOne", fn := fun _ => fun
  | [d1, d2] => { results := [.lit (.bool true)], args := [d1, d2] }
  | _ => none }
def sightOneRow : OpenClaim := { program := "ytljahhgankcalaa", sum := "933c41fc4bf7fab543494f3b6a9c654c266a2fb06601e803cafdfb3e655e11b4", func := "covenant/covenantlaw12.SightOne", spec := "sightOne", unfollowed := true, recurses := true, plainKeys := false, apart := false }
def SightOneSaid : Prop := sightOneRow.holds Try.pinned (OpenSpec.ofChange sightOneSpec)

/-- ITS FALSE NEIGHBOUR: 'it returns false'. Refute it at one input. -/
def sightOneWrong : ChangeSpec := { name := "sightOne", fn := fun _ => fun
  | [d1, d2] => { results := [.lit (.bool false)], args := [d1, d2] }
  | _ => none }
def SightOneWrongFalsely : Prop := sightOneRow.holds Try.pinned (OpenSpec.ofChange sightOneWrong)

/-- 'covenantlaw12.SightFresh': WHATEVER THE INPUT: true; the input reads as it did. -/
def sightFreshSpec : ChangeSpec := { name := "sightFresh", fn := fun _ => fun
  | [d1, d2, d3, d4, d5] => { results := [.lit (.bool true)], args := [d1, d2, d3, d4, d5] }
  | _ => none }
def sightFreshRow : OpenClaim := { program := "ytljahhgankcalaa", sum := "933c41fc4bf7fab543494f3b6a9c654c266a2fb06601e803cafdfb3e655e11b4", func := "covenant/covenantlaw12.SightFresh", spec := "sightFresh", unfollowed := true, recurses := true, plainKeys := false, apart := false }
def SightFreshSaid : Prop := sightFreshRow.holds Try.pinned (OpenSpec.ofChange sightFreshSpec)

/-- ITS FALSE NEIGHBOUR: 'it returns false'. Refute it at one input. -/
def sightFreshWrong : ChangeSpec := { name := "sightFresh", fn := fun _ => fun
  | [d1, d2, d3, d4, d5] => { results := [.lit (.bool false)], args := [d1, d2, d3, d4, d5] }
  | _ => none }
def SightFreshWrongFalsely : Prop := sightFreshRow.holds Try.pinned (OpenSpec.ofChange sightFreshWrong)

/-- 'covenantlaw12.SightDead': WHATEVER THE INPUT: true; the input reads as it did. -/
def sightDeadSpec : ChangeSpec := { name := "sightDead", fn := fun _ => fun
  | [d1, d2, d3, d4] => { results := [.lit (.bool true)], args := [d1, d2, d3, d4] }
  | _ => none }
def sightDeadRow : OpenClaim := { program := "ytljahhgankcalaa", sum := "933c41fc4bf7fab543494f3b6a9c654c266a2fb06601e803cafdfb3e655e11b4", func := "covenant/covenantlaw12.SightDead", spec := "sightDead", unfollowed := true, recurses := true, plainKeys := false, apart := false }
def SightDeadSaid : Prop := sightDeadRow.holds Try.pinned (OpenSpec.ofChange sightDeadSpec)

/-- ITS FALSE NEIGHBOUR: 'it returns false'. Refute it at one input. -/
def sightDeadWrong : ChangeSpec := { name := "sightDead", fn := fun _ => fun
  | [d1, d2, d3, d4] => { results := [.lit (.bool false)], args := [d1, d2, d3, d4] }
  | _ => none }
def SightDeadWrongFalsely : Prop := sightDeadRow.holds Try.pinned (OpenSpec.ofChange sightDeadWrong)

/-- 'covenantlaw11.HeapRows': WHATEVER THE INPUT: true; the input reads as it did. -/
def heapRowsSpec : ChangeSpec := { name := "heapRows", fn := fun _ => fun
  | [d] => { results := [.lit (.bool true)], args := [d] }
  | _ => none }
def heapRowsRow : OpenClaim := { program := "ytljahhgankcalaa", sum := "933c41fc4bf7fab543494f3b6a9c654c266a2fb06601e803cafdfb3e655e11b4", func := "covenant/covenantlaw11.HeapRows", spec := "heapRows", unfollowed := true, recurses := true, plainKeys := false, apart := false }
def HeapRowsSaid : Prop := heapRowsRow.holds Try.pinned (OpenSpec.ofChange heapRowsSpec)

/-- ITS FALSE NEIGHBOUR: 'it returns false'. Refute it at one input. -/
def heapRowsWrong : ChangeSpec := { name := "heapRows", fn := fun _ => fun
  | [d] => { results := [.lit (.bool false)], args := [d] }
  | _ => none }
def HeapRowsWrongFalsely : Prop := heapRowsRow.holds Try.pinned (OpenSpec.ofChange heapRowsWrong)

/-- 'covenantlaw11.HeapNames': WHATEVER THE INPUT: true; the input reads as it did. -/
def heapNamesSpec : ChangeSpec := { name := "heapNames", fn := fun _ => fun
  | [] => { results := [.lit (.bool true)], args := [] }
  | _ => none }
def heapNamesRow : OpenClaim := { program := "ytljahhgankcalaa", sum := "933c41fc4bf7fab543494f3b6a9c654c266a2fb06601e803cafdfb3e655e11b4", func := "covenant/covenantlaw11.HeapNames", spec := "heapNames", unfollowed := true, recurses := true, plainKeys := false, apart := false }
def HeapNamesSaid : Prop := heapNamesRow.holds Try.pinned (OpenSpec.ofChange heapNamesSpec)

/-- ITS FALSE NEIGHBOUR: 'it returns false'. Refute it at one input. -/
def heapNamesWrong : ChangeSpec := { name := "heapNames", fn := fun _ => fun
  | [] => { results := [.lit (.bool false)], args := [] }
  | _ => none }
def HeapNamesWrongFalsely : Prop := heapNamesRow.holds Try.pinned (OpenSpec.ofChange heapNamesWrong)

/-- 'covenantlaw11.HeapPlays': WHATEVER THE INPUT: true; the input reads as it did. -/
def heapPlaysSpec : ChangeSpec := { name := "heapPlays", fn := fun _ => fun
  | [d] => { results := [.lit (.bool true)], args := [d] }
  | _ => none }
def heapPlaysRow : OpenClaim := { program := "ytljahhgankcalaa", sum := "933c41fc4bf7fab543494f3b6a9c654c266a2fb06601e803cafdfb3e655e11b4", func := "covenant/covenantlaw11.HeapPlays", spec := "heapPlays", unfollowed := true, recurses := true, plainKeys := false, apart := false }
def HeapPlaysSaid : Prop := heapPlaysRow.holds Try.pinned (OpenSpec.ofChange heapPlaysSpec)

/-- ITS FALSE NEIGHBOUR: 'it returns false'. Refute it at one input. -/
def heapPlaysWrong : ChangeSpec := { name := "heapPlays", fn := fun _ => fun
  | [d] => { results := [.lit (.bool false)], args := [d] }
  | _ => none }
def HeapPlaysWrongFalsely : Prop := heapPlaysRow.holds Try.pinned (OpenSpec.ofChange heapPlaysWrong)

/-- 'covenantlaw11.HeapCopies': WHATEVER THE INPUT: true; the input reads as it did. -/
def heapCopiesSpec : ChangeSpec := { name := "heapCopies", fn := fun _ => fun
  | [d1, d2] => { results := [.lit (.bool true)], args := [d1, d2] }
  | _ => none }
def heapCopiesRow : OpenClaim := { program := "ytljahhgankcalaa", sum := "933c41fc4bf7fab543494f3b6a9c654c266a2fb06601e803cafdfb3e655e11b4", func := "covenant/covenantlaw11.HeapCopies", spec := "heapCopies", unfollowed := true, recurses := true, plainKeys := false, apart := false }
def HeapCopiesSaid : Prop := heapCopiesRow.holds Try.pinned (OpenSpec.ofChange heapCopiesSpec)

/-- ITS FALSE NEIGHBOUR: 'it returns false'. Refute it at one input. -/
def heapCopiesWrong : ChangeSpec := { name := "heapCopies", fn := fun _ => fun
  | [d1, d2] => { results := [.lit (.bool false)], args := [d1, d2] }
  | _ => none }
def HeapCopiesWrongFalsely : Prop := heapCopiesRow.holds Try.pinned (OpenSpec.ofChange heapCopiesWrong)

/- THE SECOND FORM. 'bulk': how many values and letters a reading holds, each counted each time it is reached (what is shared counts as often as it is met; a slice's spare places count too). A statement '..UptoSaid' is the law's where the arguments, and the package variables that the reading takes, are together of bulk at most 1048576: NARROWER than '..Said'. Prove '..Said' where nothing that the law and all that it calls make is longer than what came in: it says more and counts as full. Else prove '..UptoSaid'. A law counts once. -/
mutual
def uptoBulk {H : Type} : DataW H → Nat
  | .lit (.string bytes) => bytes.length + 1
  | .lit _ => 1
  | .nil => 1
  | .ptr d => uptoBulk d + 1
  | .slice elems spare => uptoBulkAll elems + uptoBulkAll spare + 1
  | .agg parts => uptoBulkAll parts + 1
  | .iface _ d => uptoBulk d + 1
  | .map entries => uptoBulkEntries entries + 1
  | .held _ => 1
def uptoBulkAll {H : Type} : List (DataW H) → Nat
  | [] => 0
  | d :: r => uptoBulk d + uptoBulkAll r
def uptoBulkEntries {H : Type} : List (Lit × DataW H) → Nat
  | [] => 0
  | x :: r => uptoBulkEntry x + uptoBulkEntries r
def uptoBulkEntry {H : Type} : Lit × DataW H → Nat
  | (.string bytes, d) => bytes.length + uptoBulk d + 1
  | (_, d) => uptoBulk d + 1
 end
def uptoSmall : (H : Type) → List (DataW H) → Bool := fun _ ds => decide (uptoBulkAll ds ≤ 1048576)
def OpenSpec.upto (s : _root_.Go.ChangeSpec) : _root_.Go.OpenSpec := { _root_.Go.OpenSpec.ofChange s with cond := some uptoSmall }

/-- 'covenantlaw11.HeapIDs', WHERE WHAT IT READS IS OF BULK AT MOST 1048576: true; the input reads as it did. -/
def heapIDsUptoRow : OpenClaim := { program := "ytljahhgankcalaa", sum := "933c41fc4bf7fab543494f3b6a9c654c266a2fb06601e803cafdfb3e655e11b4", func := "covenant/covenantlaw11.HeapIDs", spec := "heapIDs", unfollowed := true, recurses := true, plainKeys := false, apart := false, narrowed := true }
def HeapIDsUptoSaid : Prop := heapIDsUptoRow.holds Try.pinned (OpenSpec.upto heapIDsSpec)

/-- 'covenantlaw11.HeapThere', WHERE WHAT IT READS IS OF BULK AT MOST 1048576: true; the input reads as it did. -/
def heapThereUptoRow : OpenClaim := { program := "ytljahhgankcalaa", sum := "933c41fc4bf7fab543494f3b6a9c654c266a2fb06601e803cafdfb3e655e11b4", func := "covenant/covenantlaw11.HeapThere", spec := "heapThere", unfollowed := true, recurses := true, plainKeys := false, apart := false, narrowed := true }
def HeapThereUptoSaid : Prop := heapThereUptoRow.holds Try.pinned (OpenSpec.upto heapThereSpec)

/-- 'covenantlaw11.HeapLeast', WHERE WHAT IT READS IS OF BULK AT MOST 1048576: true; the input reads as it did. -/
def heapLeastUptoRow : OpenClaim := { program := "ytljahhgankcalaa", sum := "933c41fc4bf7fab543494f3b6a9c654c266a2fb06601e803cafdfb3e655e11b4", func := "covenant/covenantlaw11.HeapLeast", spec := "heapLeast", unfollowed := true, recurses := true, plainKeys := false, apart := false, narrowed := true }
def HeapLeastUptoSaid : Prop := heapLeastUptoRow.holds Try.pinned (OpenSpec.upto heapLeastSpec)

/-- 'covenantlaw12.SightOne', WHERE WHAT IT READS IS OF BULK AT MOST 1048576: true; the input reads as it did. -/
def sightOneUptoRow : OpenClaim := { program := "ytljahhgankcalaa", sum := "933c41fc4bf7fab543494f3b6a9c654c266a2fb06601e803cafdfb3e655e11b4", func := "covenant/covenantlaw12.SightOne", spec := "sightOne", unfollowed := true, recurses := true, plainKeys := false, apart := false, narrowed := true }
def SightOneUptoSaid : Prop := sightOneUptoRow.holds Try.pinned (OpenSpec.upto sightOneSpec)

/-- 'covenantlaw12.SightFresh', WHERE WHAT IT READS IS OF BULK AT MOST 1048576: true; the input reads as it did. -/
def sightFreshUptoRow : OpenClaim := { program := "ytljahhgankcalaa", sum := "933c41fc4bf7fab543494f3b6a9c654c266a2fb06601e803cafdfb3e655e11b4", func := "covenant/covenantlaw12.SightFresh", spec := "sightFresh", unfollowed := true, recurses := true, plainKeys := false, apart := false, narrowed := true }
def SightFreshUptoSaid : Prop := sightFreshUptoRow.holds Try.pinned (OpenSpec.upto sightFreshSpec)

/-- 'covenantlaw12.SightDead', WHERE WHAT IT READS IS OF BULK AT MOST 1048576: true; the input reads as it did. -/
def sightDeadUptoRow : OpenClaim := { program := "ytljahhgankcalaa", sum := "933c41fc4bf7fab543494f3b6a9c654c266a2fb06601e803cafdfb3e655e11b4", func := "covenant/covenantlaw12.SightDead", spec := "sightDead", unfollowed := true, recurses := true, plainKeys := false, apart := false, narrowed := true }
def SightDeadUptoSaid : Prop := sightDeadUptoRow.holds Try.pinned (OpenSpec.upto sightDeadSpec)

/-- 'covenantlaw11.HeapRows', WHERE WHAT IT READS IS OF BULK AT MOST 1048576: true; the input reads as it did. -/
def heapRowsUptoRow : OpenClaim := { program := "ytljahhgankcalaa", sum := "933c41fc4bf7fab543494f3b6a9c654c266a2fb06601e803cafdfb3e655e11b4", func := "covenant/covenantlaw11.HeapRows", spec := "heapRows", unfollowed := true, recurses := true, plainKeys := false, apart := false, narrowed := true }
def HeapRowsUptoSaid : Prop := heapRowsUptoRow.holds Try.pinned (OpenSpec.upto heapRowsSpec)

/-- 'covenantlaw11.HeapNames', WHERE WHAT IT READS IS OF BULK AT MOST 1048576: true; the input reads as it did. -/
def heapNamesUptoRow : OpenClaim := { program := "ytljahhgankcalaa", sum := "933c41fc4bf7fab543494f3b6a9c654c266a2fb06601e803cafdfb3e655e11b4", func := "covenant/covenantlaw11.HeapNames", spec := "heapNames", unfollowed := true, recurses := true, plainKeys := false, apart := false, narrowed := true }
def HeapNamesUptoSaid : Prop := heapNamesUptoRow.holds Try.pinned (OpenSpec.upto heapNamesSpec)

/-- 'covenantlaw11.HeapPlays', WHERE WHAT IT READS IS OF BULK AT MOST 1048576: true; the input reads as it did. -/
def heapPlaysUptoRow : OpenClaim := { program := "ytljahhgankcalaa", sum := "933c41fc4bf7fab543494f3b6a9c654c266a2fb06601e803cafdfb3e655e11b4", func := "covenant/covenantlaw11.HeapPlays", spec := "heapPlays", unfollowed := true, recurses := true, plainKeys := false, apart := false, narrowed := true }
def HeapPlaysUptoSaid : Prop := heapPlaysUptoRow.holds Try.pinned (OpenSpec.upto heapPlaysSpec)

/-- 'covenantlaw11.HeapCopies', WHERE WHAT IT READS IS OF BULK AT MOST 1048576: true; the input reads as it did. -/
def heapCopiesUptoRow : OpenClaim := { program := "ytljahhgankcalaa", sum := "933c41fc4bf7fab543494f3b6a9c654c266a2fb06601e803cafdfb3e655e11b4", func := "covenant/covenantlaw11.HeapCopies", spec := "heapCopies", unfollowed := true, recurses := true, plainKeys := false, apart := false, narrowed := true }
def HeapCopiesUptoSaid : Prop := heapCopiesUptoRow.holds Try.pinned (OpenSpec.upto heapCopiesSpec)

end Rows
end Go.Proofs.Ytljahhgankcalaa

/-
  No cell of these rows narrows 'for every input' (looked for: loops, veiled, ifaces, maps, wideKeys, modest, calm, conditions, laid).
  DERIVED. THE GIVEN ROWS OF THIS SEAT. 9 by the template 'for every input the law returns true; each argument reads behind the call as it read before'; 0 by the template 'total and deterministic' (their statements: YtnedmmopkhmejaaTotals.lean).
  GIVEN WITH THE SEED: the statements are not yours to turn. If you find one false, say at which input.
  Laid BY PROGRAM, IN A SANDBOX (cutbox-rows.mjs): the forced cells as the released guide's own fill.sh prints them over the translation 1081d43729bcbc54… (all of the seat's roots in one cut). By AI agents, Wed Nov 11 2026. No macro, syntax, notation, axiom, sorry.
-/
import Derived.Test.YtnedmmopkhmejaaChecked
import GoSem.Claim
import GoSem.ClaimJoined
import GoSem.ClaimMapViews
import Derived.JoinedTies
import Derived.KernelRfl
namespace Go.Proofs.Ytnedmmopkhmejaa
/- THE CELL 'sum', in the pinned program and in every row, IS THE sha256 OF THE DUMP (.gsa) THAT YtnedmmopkhmejaaProg.lean LOADS. Nothing in Lean hashes anything: it is a label: what it is worth is what the hold of that sum in a sandbox is worth. -/
noncomputable def Try.pinned : Pinned := { name := "ytnedmmopkhmejaa", sum := "1081d43729bcbc544d6a6561a1b4e745d26b9048afbe46140d6312c9b4a1e389", checked := Try.checked }
namespace Rows
def none {H : Type} : Left H := { results := [], args := [] }

/-- 'cosignerlaw19.HeapCalls': WHATEVER THE INPUT: true; the input reads as it did. -/
def heapCallsSpec : ChangeSpec := { name := "heapCalls", fn := fun _ => fun
  | [d1, d2, d3, d4] => { results := [.lit (.bool true)], args := [d1, d2, d3, d4] }
  | _ => none }
def heapCallsRow : OpenClaim := { program := "ytnedmmopkhmejaa", sum := "1081d43729bcbc544d6a6561a1b4e745d26b9048afbe46140d6312c9b4a1e389", func := "cosigner/cosignerlaw19.HeapCalls", spec := "heapCalls", unfollowed := true, recurses := true, apart := false }
def HeapCallsSaid : Prop := heapCallsRow.holds Try.pinned (OpenSpec.ofChange heapCallsSpec)

/-- ITS FALSE NEIGHBOUR: 'it returns false'. Refute it at one input. -/
def heapCallsWrong : ChangeSpec := { name := "heapCalls", fn := fun _ => fun
  | [d1, d2, d3, d4] => { results := [.lit (.bool false)], args := [d1, d2, d3, d4] }
  | _ => none }
def HeapCallsWrongFalsely : Prop := heapCallsRow.holds Try.pinned (OpenSpec.ofChange heapCallsWrong)

/-- 'cosignerlaw19.HeapNil': WHATEVER THE INPUT: true; the input reads as it did. -/
def heapNilSpec : ChangeSpec := { name := "heapNil", fn := fun _ => fun
  | [d] => { results := [.lit (.bool true)], args := [d] }
  | _ => none }
def heapNilRow : OpenClaim := { program := "ytnedmmopkhmejaa", sum := "1081d43729bcbc544d6a6561a1b4e745d26b9048afbe46140d6312c9b4a1e389", func := "cosigner/cosignerlaw19.HeapNil", spec := "heapNil", unfollowed := true, recurses := true, apart := false }
def HeapNilSaid : Prop := heapNilRow.holds Try.pinned (OpenSpec.ofChange heapNilSpec)

/-- ITS FALSE NEIGHBOUR: 'it returns false'. Refute it at one input. -/
def heapNilWrong : ChangeSpec := { name := "heapNil", fn := fun _ => fun
  | [d] => { results := [.lit (.bool false)], args := [d] }
  | _ => none }
def HeapNilWrongFalsely : Prop := heapNilRow.holds Try.pinned (OpenSpec.ofChange heapNilWrong)

/-- 'cosignerlaw19.HeapRoom': WHATEVER THE INPUT: true; the input reads as it did. -/
def heapRoomSpec : ChangeSpec := { name := "heapRoom", fn := fun _ => fun
  | [d1, d2, d3, d4, d5, d6] => { results := [.lit (.bool true)], args := [d1, d2, d3, d4, d5, d6] }
  | _ => none }
def heapRoomRow : OpenClaim := { program := "ytnedmmopkhmejaa", sum := "1081d43729bcbc544d6a6561a1b4e745d26b9048afbe46140d6312c9b4a1e389", func := "cosigner/cosignerlaw19.HeapRoom", spec := "heapRoom", unfollowed := true, recurses := true, apart := false }
def HeapRoomSaid : Prop := heapRoomRow.holds Try.pinned (OpenSpec.ofChange heapRoomSpec)

/-- ITS FALSE NEIGHBOUR: 'it returns false'. Refute it at one input. -/
def heapRoomWrong : ChangeSpec := { name := "heapRoom", fn := fun _ => fun
  | [d1, d2, d3, d4, d5, d6] => { results := [.lit (.bool false)], args := [d1, d2, d3, d4, d5, d6] }
  | _ => none }
def HeapRoomWrongFalsely : Prop := heapRoomRow.holds Try.pinned (OpenSpec.ofChange heapRoomWrong)

/-- 'cosignerlaw19.HeapSameByAnySteps': WHATEVER THE INPUT: true; the input reads as it did. -/
def heapSameByAnyStepsSpec : ChangeSpec := { name := "heapSameByAnySteps", fn := fun _ => fun
  | [d1, d2, d3, d4, d5] => { results := [.lit (.bool true)], args := [d1, d2, d3, d4, d5] }
  | _ => none }
def heapSameByAnyStepsRow : OpenClaim := { program := "ytnedmmopkhmejaa", sum := "1081d43729bcbc544d6a6561a1b4e745d26b9048afbe46140d6312c9b4a1e389", func := "cosigner/cosignerlaw19.HeapSameByAnySteps", spec := "heapSameByAnySteps", unfollowed := true, recurses := true, apart := false }
def HeapSameByAnyStepsSaid : Prop := heapSameByAnyStepsRow.holds Try.pinned (OpenSpec.ofChange heapSameByAnyStepsSpec)

/-- ITS FALSE NEIGHBOUR: 'it returns false'. Refute it at one input. -/
def heapSameByAnyStepsWrong : ChangeSpec := { name := "heapSameByAnySteps", fn := fun _ => fun
  | [d1, d2, d3, d4, d5] => { results := [.lit (.bool false)], args := [d1, d2, d3, d4, d5] }
  | _ => none }
def HeapSameByAnyStepsWrongFalsely : Prop := heapSameByAnyStepsRow.holds Try.pinned (OpenSpec.ofChange heapSameByAnyStepsWrong)

/-- 'cosignerlaw19.HeapSweeps': WHATEVER THE INPUT: true; the input reads as it did. -/
def heapSweepsSpec : ChangeSpec := { name := "heapSweeps", fn := fun _ => fun
  | [d1, d2, d3, d4, d5, d6] => { results := [.lit (.bool true)], args := [d1, d2, d3, d4, d5, d6] }
  | _ => none }
def heapSweepsRow : OpenClaim := { program := "ytnedmmopkhmejaa", sum := "1081d43729bcbc544d6a6561a1b4e745d26b9048afbe46140d6312c9b4a1e389", func := "cosigner/cosignerlaw19.HeapSweeps", spec := "heapSweeps", unfollowed := true, recurses := true, apart := false }
def HeapSweepsSaid : Prop := heapSweepsRow.holds Try.pinned (OpenSpec.ofChange heapSweepsSpec)

/-- ITS FALSE NEIGHBOUR: 'it returns false'. Refute it at one input. -/
def heapSweepsWrong : ChangeSpec := { name := "heapSweeps", fn := fun _ => fun
  | [d1, d2, d3, d4, d5, d6] => { results := [.lit (.bool false)], args := [d1, d2, d3, d4, d5, d6] }
  | _ => none }
def HeapSweepsWrongFalsely : Prop := heapSweepsRow.holds Try.pinned (OpenSpec.ofChange heapSweepsWrong)

/-- 'cosignerlaw19.HeapModels': WHATEVER THE INPUT: true; the input reads as it did. -/
def heapModelsSpec : ChangeSpec := { name := "heapModels", fn := fun _ => fun
  | [d1, d2, d3] => { results := [.lit (.bool true)], args := [d1, d2, d3] }
  | _ => none }
def heapModelsRow : OpenClaim := { program := "ytnedmmopkhmejaa", sum := "1081d43729bcbc544d6a6561a1b4e745d26b9048afbe46140d6312c9b4a1e389", func := "cosigner/cosignerlaw19.HeapModels", spec := "heapModels", unfollowed := true, recurses := true, apart := false }
def HeapModelsSaid : Prop := heapModelsRow.holds Try.pinned (OpenSpec.ofChange heapModelsSpec)

/-- ITS FALSE NEIGHBOUR: 'it returns false'. Refute it at one input. -/
def heapModelsWrong : ChangeSpec := { name := "heapModels", fn := fun _ => fun
  | [d1, d2, d3] => { results := [.lit (.bool false)], args := [d1, d2, d3] }
  | _ => none }
def HeapModelsWrongFalsely : Prop := heapModelsRow.holds Try.pinned (OpenSpec.ofChange heapModelsWrong)

/-- 'cosignerlaw19.HeapSmallSteps': WHATEVER THE INPUT: true; the input reads as it did. -/
def heapSmallStepsSpec : ChangeSpec := { name := "heapSmallSteps", fn := fun _ => fun
  | [d1, d2, d3, d4, d5, d6, d7] => { results := [.lit (.bool true)], args := [d1, d2, d3, d4, d5, d6, d7] }
  | _ => none }
def heapSmallStepsRow : OpenClaim := { program := "ytnedmmopkhmejaa", sum := "1081d43729bcbc544d6a6561a1b4e745d26b9048afbe46140d6312c9b4a1e389", func := "cosigner/cosignerlaw19.HeapSmallSteps", spec := "heapSmallSteps", unfollowed := true, recurses := true, apart := false }
def HeapSmallStepsSaid : Prop := heapSmallStepsRow.holds Try.pinned (OpenSpec.ofChange heapSmallStepsSpec)

/-- ITS FALSE NEIGHBOUR: 'it returns false'. Refute it at one input. -/
def heapSmallStepsWrong : ChangeSpec := { name := "heapSmallSteps", fn := fun _ => fun
  | [d1, d2, d3, d4, d5, d6, d7] => { results := [.lit (.bool false)], args := [d1, d2, d3, d4, d5, d6, d7] }
  | _ => none }
def HeapSmallStepsWrongFalsely : Prop := heapSmallStepsRow.holds Try.pinned (OpenSpec.ofChange heapSmallStepsWrong)

/-- 'cosignerlaw19.HeapCopies': WHATEVER THE INPUT: true; the input reads as it did. -/
def heapCopiesSpec : ChangeSpec := { name := "heapCopies", fn := fun _ => fun
  | [d1, d2, d3, d4, d5, d6] => { results := [.lit (.bool true)], args := [d1, d2, d3, d4, d5, d6] }
  | _ => none }
def heapCopiesRow : OpenClaim := { program := "ytnedmmopkhmejaa", sum := "1081d43729bcbc544d6a6561a1b4e745d26b9048afbe46140d6312c9b4a1e389", func := "cosigner/cosignerlaw19.HeapCopies", spec := "heapCopies", unfollowed := true, recurses := true, apart := false }
def HeapCopiesSaid : Prop := heapCopiesRow.holds Try.pinned (OpenSpec.ofChange heapCopiesSpec)

/-- ITS FALSE NEIGHBOUR: 'it returns false'. Refute it at one input. -/
def heapCopiesWrong : ChangeSpec := { name := "heapCopies", fn := fun _ => fun
  | [d1, d2, d3, d4, d5, d6] => { results := [.lit (.bool false)], args := [d1, d2, d3, d4, d5, d6] }
  | _ => none }
def HeapCopiesWrongFalsely : Prop := heapCopiesRow.holds Try.pinned (OpenSpec.ofChange heapCopiesWrong)

/-- 'cosignerlaw19.HeapLosesNothing': WHATEVER THE INPUT: true; the input reads as it did. -/
def heapLosesNothingSpec : ChangeSpec := { name := "heapLosesNothing", fn := fun _ => fun
  | [d1, d2, d3, d4, d5] => { results := [.lit (.bool true)], args := [d1, d2, d3, d4, d5] }
  | _ => none }
def heapLosesNothingRow : OpenClaim := { program := "ytnedmmopkhmejaa", sum := "1081d43729bcbc544d6a6561a1b4e745d26b9048afbe46140d6312c9b4a1e389", func := "cosigner/cosignerlaw19.HeapLosesNothing", spec := "heapLosesNothing", unfollowed := true, recurses := true, apart := false }
def HeapLosesNothingSaid : Prop := heapLosesNothingRow.holds Try.pinned (OpenSpec.ofChange heapLosesNothingSpec)

/-- ITS FALSE NEIGHBOUR: 'it returns false'. Refute it at one input. -/
def heapLosesNothingWrong : ChangeSpec := { name := "heapLosesNothing", fn := fun _ => fun
  | [d1, d2, d3, d4, d5] => { results := [.lit (.bool false)], args := [d1, d2, d3, d4, d5] }
  | _ => none }
def HeapLosesNothingWrongFalsely : Prop := heapLosesNothingRow.holds Try.pinned (OpenSpec.ofChange heapLosesNothingWrong)

/- THE SECOND FORM. 'bulk': how many values and letters a reading holds, each counted each time it is reached (what is shared counts as often as it is met; a slice's spare places count too). A statement '..UptoSaid' is the law's where the arguments, and the package variables that the reading takes, are together of bulk at most 1048576: NARROWER than '..Said'. Prove '..Said' where nothing that the law and all that it calls make is longer than what came in: it says more and counts as full. Else prove '..UptoSaid'. A law counts once. -/
mutual
def uptoBulk {H : Type} : DataW H → Nat
  | .lit (.string bytes) => bytes.length + 1
  | .lit _ => 1
  | .nil => 1
  | .ptr d => uptoBulk d + 1
  | .slice elems spare => uptoBulkAll elems + uptoBulkAll spare + 1
  | .agg parts => uptoBulkAll parts + 1
  | .iface _ d => uptoBulk d + 1
  | .map entries => uptoBulkEntries entries + 1
  | .held _ => 1
def uptoBulkAll {H : Type} : List (DataW H) → Nat
  | [] => 0
  | d :: r => uptoBulk d + uptoBulkAll r
def uptoBulkEntries {H : Type} : List (Lit × DataW H) → Nat
  | [] => 0
  | x :: r => uptoBulkEntry x + uptoBulkEntries r
def uptoBulkEntry {H : Type} : Lit × DataW H → Nat
  | (.string bytes, d) => bytes.length + uptoBulk d + 1
  | (_, d) => uptoBulk d + 1
 end
def uptoSmall : (H : Type) → List (DataW H) → Bool := fun _ ds => decide (uptoBulkAll ds ≤ 1048576)
def OpenSpec.upto (s : _root_.Go.ChangeSpec) : _root_.Go.OpenSpec := { _root_.Go.OpenSpec.ofChange s with cond := some uptoSmall }

/-- 'cosignerlaw19.HeapCalls', WHERE WHAT IT READS IS OF BULK AT MOST 1048576: true; the input reads as it did. -/
def heapCallsUptoRow : OpenClaim := { program := "ytnedmmopkhmejaa", sum := "1081d43729bcbc544d6a6561a1b4e745d26b9048afbe46140d6312c9b4a1e389", func := "cosigner/cosignerlaw19.HeapCalls", spec := "heapCalls", unfollowed := true, recurses := true, apart := false, narrowed := true }
def HeapCallsUptoSaid : Prop := heapCallsUptoRow.holds Try.pinned (OpenSpec.upto heapCallsSpec)

/-- 'cosignerlaw19.HeapNil', WHERE WHAT IT READS IS OF BULK AT MOST 1048576: true; the input reads as it did. -/
def heapNilUptoRow : OpenClaim := { program := "ytnedmmopkhmejaa", sum := "1081d43729bcbc544d6a6561a1b4e745d26b9048afbe46140d6312c9b4a1e389", func := "cosigner/cosignerlaw19.HeapNil", spec := "heapNil", unfollowed := true, recurses := true, apart := false, narrowed := true }
def HeapNilUptoSaid : Prop := heapNilUptoRow.holds Try.pinned (OpenSpec.upto heapNilSpec)

/-- 'cosignerlaw19.HeapRoom', WHERE WHAT IT READS IS OF BULK AT MOST 1048576: true; the input reads as it did. -/
def heapRoomUptoRow : OpenClaim := { program := "ytnedmmopkhmejaa", sum := "1081d43729bcbc544d6a6561a1b4e745d26b9048afbe46140d6312c9b4a1e389", func := "cosigner/cosignerlaw19.HeapRoom", spec := "heapRoom", unfollowed := true, recurses := true, apart := false, narrowed := true }
def HeapRoomUptoSaid : Prop := heapRoomUptoRow.holds Try.pinned (OpenSpec.upto heapRoomSpec)

/-- 'cosignerlaw19.HeapSameByAnySteps', WHERE WHAT IT READS IS OF BULK AT MOST 1048576: true; the input reads as it did. -/
def heapSameByAnyStepsUptoRow : OpenClaim := { program := "ytnedmmopkhmejaa", sum := "1081d43729bcbc544d6a6561a1b4e745d26b9048afbe46140d6312c9b4a1e389", func := "cosigner/cosignerlaw19.HeapSameByAnySteps", spec := "heapSameByAnySteps", unfollowed := true, recurses := true, apart := false, narrowed := true }
def HeapSameByAnyStepsUptoSaid : Prop := heapSameByAnyStepsUptoRow.holds Try.pinned (OpenSpec.upto heapSameByAnyStepsSpec)

/-- 'cosignerlaw19.HeapSweeps', WHERE WHAT IT READS IS OF BULK AT MOST 1048576: true; the input reads as it did. -/
def heapSweepsUptoRow : OpenClaim := { program := "ytnedmmopkhmejaa", sum := "1081d43729bcbc544d6a6561a1b4e745d26b9048afbe46140d6312c9b4a1e389", func := "cosigner/cosignerlaw19.HeapSweeps", spec := "heapSweeps", unfollowed := true, recurses := true, apart := false, narrowed := true }
def HeapSweepsUptoSaid : Prop := heapSweepsUptoRow.holds Try.pinned (OpenSpec.upto heapSweepsSpec)

/-- 'cosignerlaw19.HeapModels', WHERE WHAT IT READS IS OF BULK AT MOST 1048576: true; the input reads as it did. -/
def heapModelsUptoRow : OpenClaim := { program := "ytnedmmopkhmejaa", sum := "1081d43729bcbc544d6a6561a1b4e745d26b9048afbe46140d6312c9b4a1e389", func := "cosigner/cosignerlaw19.HeapModels", spec := "heapModels", unfollowed := true, recurses := true, apart := false, narrowed := true }
def HeapModelsUptoSaid : Prop := heapModelsUptoRow.holds Try.pinned (OpenSpec.upto heapModelsSpec)

/-- 'cosignerlaw19.HeapSmallSteps', WHERE WHAT IT READS IS OF BULK AT MOST 1048576: true; the input reads as it did. -/
def heapSmallStepsUptoRow : OpenClaim := { program := "ytnedmmopkhmejaa", sum := "1081d43729bcbc544d6a6561a1b4e745d26b9048afbe46140d6312c9b4a1e389", func := "cosigner/cosignerlaw19.HeapSmallSteps", spec := "heapSmallSteps", unfollowed := true, recurses := true, apart := false, narrowed := true }
def HeapSmallStepsUptoSaid : Prop := heapSmallStepsUptoRow.holds Try.pinned (OpenSpec.upto heapSmallStepsSpec)

/-- 'cosignerlaw19.HeapCopies', WHERE WHAT IT READS IS OF BULK AT MOST 1048576: true; the input reads as it did. -/
def heapCopiesUptoRow : OpenClaim := { program := "ytnedmmopkhmejaa", sum := "1081d43729bcbc544d6a6561a1b4e745d26b9048afbe46140d6312c9b4a1e389", func := "cosigner/cosignerlaw19.HeapCopies", spec := "heapCopies", unfollowed := true, recurses := true, apart := false, narrowed := true }
def HeapCopiesUptoSaid : Prop := heapCopiesUptoRow.holds Try.pinned (OpenSpec.upto heapCopiesSpec)

/-- 'cosignerlaw19.HeapLosesNothing', WHERE WHAT IT READS IS OF BULK AT MOST 1048576: true; the input reads as it did. -/
def heapLosesNothingUptoRow : OpenClaim := { program := "ytnedmmopkhmejaa", sum := "1081d43729bcbc544d6a6561a1b4e745d26b9048afbe46140d6312c9b4a1e389", func := "cosigner/cosignerlaw19.HeapLosesNothing", spec := "heapLosesNothing", unfollowed := true, recurses := true, apart := false, narrowed := true }
def HeapLosesNothingUptoSaid : Prop := heapLosesNothingUptoRow.holds Try.pinned (OpenSpec.upto heapLosesNothingSpec)

end Rows
end Go.Proofs.Ytnedmmopkhmejaa

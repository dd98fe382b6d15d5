/-
  No cell of these rows narrows 'for every input' (looked for: loops, veiled, ifaces, maps, wideKeys, modest, calm, conditions, laid).
  DERIVED. THE GIVEN ROWS OF THIS SEAT. 11 by the template 'for every input the law returns true; each argument reads behind the call as it read before'; 0 by the template 'total and deterministic' (their statements: YtoeigifmghfpgaaTotals.lean).
  GIVEN WITH THE SEED: the statements are not yours to turn. If you find one false, say at which input.
  Laid BY PROGRAM, IN A SANDBOX (cutbox-rows.mjs): the forced cells as the released guide's own fill.sh prints them over the translation d60a8c431d20b732… (all of the seat's roots in one cut). By AI agents, Wed Nov 11 2026. No macro, syntax, notation, axiom, sorry.
-/
import Derived.Test.YtoeigifmghfpgaaChecked
import GoSem.Claim
import GoSem.ClaimJoined
import GoSem.ClaimMapViews
import Derived.JoinedTies
import Derived.KernelRfl
namespace Go.Proofs.Ytoeigifmghfpgaa
/- THE CELL 'sum', in the pinned program and in every row, IS THE sha256 OF THE DUMP (.gsa) THAT YtoeigifmghfpgaaProg.lean LOADS. Nothing in Lean hashes anything: it is a label: what it is worth is what the hold of that sum in a sandbox is worth. -/
noncomputable def Try.pinned : Pinned := { name := "ytoeigifmghfpgaa", sum := "d60a8c431d20b7320c63dc8523bdbd1012f50b5e1c98ac81d7b5ba6586d9952c", checked := Try.checked }
namespace Rows
def none {H : Type} : Left H := { results := [], args := [] }

/-- 'laws.FnExactValidOpenings': WHATEVER THE INPUT: true; the input reads as it did. -/
def fnExactValidOpeningsSpec : ChangeSpec := { name := "fnExactValidOpenings", fn := fun _ => fun
  | [d] => { results := [.lit (.bool true)], args := [d] }
  | _ => none }
def fnExactValidOpeningsRow : OpenClaim := { program := "ytoeigifmghfpgaa", sum := "d60a8c431d20b7320c63dc8523bdbd1012f50b5e1c98ac81d7b5ba6586d9952c", func := "loop.example/g01046/laws.FnExactValidOpenings", spec := "fnExactValidOpenings", unfollowed := true, recurses := true, apart := false }
def FnExactValidOpeningsSaid : Prop := fnExactValidOpeningsRow.holds Try.pinned (OpenSpec.ofChange fnExactValidOpeningsSpec)

/-- ITS FALSE NEIGHBOUR: 'it returns false'. Refute it at one input. -/
def fnExactValidOpeningsWrong : ChangeSpec := { name := "fnExactValidOpenings", fn := fun _ => fun
  | [d] => { results := [.lit (.bool false)], args := [d] }
  | _ => none }
def FnExactValidOpeningsWrongFalsely : Prop := fnExactValidOpeningsRow.holds Try.pinned (OpenSpec.ofChange fnExactValidOpeningsWrong)

/-- 'laws.FnSearches': WHATEVER THE INPUT: true; the input reads as it did. -/
def fnSearchesSpec : ChangeSpec := { name := "fnSearches", fn := fun _ => fun
  | [d] => { results := [.lit (.bool true)], args := [d] }
  | _ => none }
def fnSearchesRow : OpenClaim := { program := "ytoeigifmghfpgaa", sum := "d60a8c431d20b7320c63dc8523bdbd1012f50b5e1c98ac81d7b5ba6586d9952c", func := "loop.example/g01046/laws.FnSearches", spec := "fnSearches", unfollowed := true, recurses := true, apart := false }
def FnSearchesSaid : Prop := fnSearchesRow.holds Try.pinned (OpenSpec.ofChange fnSearchesSpec)

/-- ITS FALSE NEIGHBOUR: 'it returns false'. Refute it at one input. -/
def fnSearchesWrong : ChangeSpec := { name := "fnSearches", fn := fun _ => fun
  | [d] => { results := [.lit (.bool false)], args := [d] }
  | _ => none }
def FnSearchesWrongFalsely : Prop := fnSearchesRow.holds Try.pinned (OpenSpec.ofChange fnSearchesWrong)

/-- 'laws.FnExactStepSearch': WHATEVER THE INPUT: true; the input reads as it did. -/
def fnExactStepSearchSpec : ChangeSpec := { name := "fnExactStepSearch", fn := fun _ => fun
  | [d1, d2] => { results := [.lit (.bool true)], args := [d1, d2] }
  | _ => none }
def fnExactStepSearchRow : OpenClaim := { program := "ytoeigifmghfpgaa", sum := "d60a8c431d20b7320c63dc8523bdbd1012f50b5e1c98ac81d7b5ba6586d9952c", func := "loop.example/g01046/laws.FnExactStepSearch", spec := "fnExactStepSearch", unfollowed := true, recurses := true, apart := false }
def FnExactStepSearchSaid : Prop := fnExactStepSearchRow.holds Try.pinned (OpenSpec.ofChange fnExactStepSearchSpec)

/-- ITS FALSE NEIGHBOUR: 'it returns false'. Refute it at one input. -/
def fnExactStepSearchWrong : ChangeSpec := { name := "fnExactStepSearch", fn := fun _ => fun
  | [d1, d2] => { results := [.lit (.bool false)], args := [d1, d2] }
  | _ => none }
def FnExactStepSearchWrongFalsely : Prop := fnExactStepSearchRow.holds Try.pinned (OpenSpec.ofChange fnExactStepSearchWrong)

/-- 'laws.FnExactNarrowTo': WHATEVER THE INPUT: true; the input reads as it did. -/
def fnExactNarrowToSpec : ChangeSpec := { name := "fnExactNarrowTo", fn := fun _ => fun
  | [d1, d2] => { results := [.lit (.bool true)], args := [d1, d2] }
  | _ => none }
def fnExactNarrowToRow : OpenClaim := { program := "ytoeigifmghfpgaa", sum := "d60a8c431d20b7320c63dc8523bdbd1012f50b5e1c98ac81d7b5ba6586d9952c", func := "loop.example/g01046/laws.FnExactNarrowTo", spec := "fnExactNarrowTo", unfollowed := true, recurses := true, apart := false }
def FnExactNarrowToSaid : Prop := fnExactNarrowToRow.holds Try.pinned (OpenSpec.ofChange fnExactNarrowToSpec)

/-- ITS FALSE NEIGHBOUR: 'it returns false'. Refute it at one input. -/
def fnExactNarrowToWrong : ChangeSpec := { name := "fnExactNarrowTo", fn := fun _ => fun
  | [d1, d2] => { results := [.lit (.bool false)], args := [d1, d2] }
  | _ => none }
def FnExactNarrowToWrongFalsely : Prop := fnExactNarrowToRow.holds Try.pinned (OpenSpec.ofChange fnExactNarrowToWrong)

/-- 'laws.FnExactMeanSearch': WHATEVER THE INPUT: true; the input reads as it did. -/
def fnExactMeanSearchSpec : ChangeSpec := { name := "fnExactMeanSearch", fn := fun _ => fun
  | [d1, d2] => { results := [.lit (.bool true)], args := [d1, d2] }
  | _ => none }
def fnExactMeanSearchRow : OpenClaim := { program := "ytoeigifmghfpgaa", sum := "d60a8c431d20b7320c63dc8523bdbd1012f50b5e1c98ac81d7b5ba6586d9952c", func := "loop.example/g01046/laws.FnExactMeanSearch", spec := "fnExactMeanSearch", unfollowed := true, recurses := true, apart := false }
def FnExactMeanSearchSaid : Prop := fnExactMeanSearchRow.holds Try.pinned (OpenSpec.ofChange fnExactMeanSearchSpec)

/-- ITS FALSE NEIGHBOUR: 'it returns false'. Refute it at one input. -/
def fnExactMeanSearchWrong : ChangeSpec := { name := "fnExactMeanSearch", fn := fun _ => fun
  | [d1, d2] => { results := [.lit (.bool false)], args := [d1, d2] }
  | _ => none }
def FnExactMeanSearchWrongFalsely : Prop := fnExactMeanSearchRow.holds Try.pinned (OpenSpec.ofChange fnExactMeanSearchWrong)

/-- 'laws.FnExactMeanOpening': WHATEVER THE INPUT: true; the input reads as it did. -/
def fnExactMeanOpeningSpec : ChangeSpec := { name := "fnExactMeanOpening", fn := fun _ => fun
  | [d1, d2] => { results := [.lit (.bool true)], args := [d1, d2] }
  | _ => none }
def fnExactMeanOpeningRow : OpenClaim := { program := "ytoeigifmghfpgaa", sum := "d60a8c431d20b7320c63dc8523bdbd1012f50b5e1c98ac81d7b5ba6586d9952c", func := "loop.example/g01046/laws.FnExactMeanOpening", spec := "fnExactMeanOpening", unfollowed := true, recurses := true, apart := false }
def FnExactMeanOpeningSaid : Prop := fnExactMeanOpeningRow.holds Try.pinned (OpenSpec.ofChange fnExactMeanOpeningSpec)

/-- ITS FALSE NEIGHBOUR: 'it returns false'. Refute it at one input. -/
def fnExactMeanOpeningWrong : ChangeSpec := { name := "fnExactMeanOpening", fn := fun _ => fun
  | [d1, d2] => { results := [.lit (.bool false)], args := [d1, d2] }
  | _ => none }
def FnExactMeanOpeningWrongFalsely : Prop := fnExactMeanOpeningRow.holds Try.pinned (OpenSpec.ofChange fnExactMeanOpeningWrong)

/-- 'laws.FnExactWorstSearch': WHATEVER THE INPUT: true; the input reads as it did. -/
def fnExactWorstSearchSpec : ChangeSpec := { name := "fnExactWorstSearch", fn := fun _ => fun
  | [d1, d2, d3] => { results := [.lit (.bool true)], args := [d1, d2, d3] }
  | _ => none }
def fnExactWorstSearchRow : OpenClaim := { program := "ytoeigifmghfpgaa", sum := "d60a8c431d20b7320c63dc8523bdbd1012f50b5e1c98ac81d7b5ba6586d9952c", func := "loop.example/g01046/laws.FnExactWorstSearch", spec := "fnExactWorstSearch", unfollowed := true, recurses := true, apart := false }
def FnExactWorstSearchSaid : Prop := fnExactWorstSearchRow.holds Try.pinned (OpenSpec.ofChange fnExactWorstSearchSpec)

/-- ITS FALSE NEIGHBOUR: 'it returns false'. Refute it at one input. -/
def fnExactWorstSearchWrong : ChangeSpec := { name := "fnExactWorstSearch", fn := fun _ => fun
  | [d1, d2, d3] => { results := [.lit (.bool false)], args := [d1, d2, d3] }
  | _ => none }
def FnExactWorstSearchWrongFalsely : Prop := fnExactWorstSearchRow.holds Try.pinned (OpenSpec.ofChange fnExactWorstSearchWrong)

/-- 'laws.FnExactNextOpening': WHATEVER THE INPUT: true; the input reads as it did. -/
def fnExactNextOpeningSpec : ChangeSpec := { name := "fnExactNextOpening", fn := fun _ => fun
  | [d1, d2, d3] => { results := [.lit (.bool true)], args := [d1, d2, d3] }
  | _ => none }
def fnExactNextOpeningRow : OpenClaim := { program := "ytoeigifmghfpgaa", sum := "d60a8c431d20b7320c63dc8523bdbd1012f50b5e1c98ac81d7b5ba6586d9952c", func := "loop.example/g01046/laws.FnExactNextOpening", spec := "fnExactNextOpening", unfollowed := true, recurses := true, apart := false }
def FnExactNextOpeningSaid : Prop := fnExactNextOpeningRow.holds Try.pinned (OpenSpec.ofChange fnExactNextOpeningSpec)

/-- ITS FALSE NEIGHBOUR: 'it returns false'. Refute it at one input. -/
def fnExactNextOpeningWrong : ChangeSpec := { name := "fnExactNextOpening", fn := fun _ => fun
  | [d1, d2, d3] => { results := [.lit (.bool false)], args := [d1, d2, d3] }
  | _ => none }
def FnExactNextOpeningWrongFalsely : Prop := fnExactNextOpeningRow.holds Try.pinned (OpenSpec.ofChange fnExactNextOpeningWrong)

/-- 'laws.FnExactSearchFor': WHATEVER THE INPUT: true; the input reads as it did. -/
def fnExactSearchForSpec : ChangeSpec := { name := "fnExactSearchFor", fn := fun _ => fun
  | [d1, d2] => { results := [.lit (.bool true)], args := [d1, d2] }
  | _ => none }
def fnExactSearchForRow : OpenClaim := { program := "ytoeigifmghfpgaa", sum := "d60a8c431d20b7320c63dc8523bdbd1012f50b5e1c98ac81d7b5ba6586d9952c", func := "loop.example/g01046/laws.FnExactSearchFor", spec := "fnExactSearchFor", unfollowed := true, recurses := true, apart := false }
def FnExactSearchForSaid : Prop := fnExactSearchForRow.holds Try.pinned (OpenSpec.ofChange fnExactSearchForSpec)

/-- ITS FALSE NEIGHBOUR: 'it returns false'. Refute it at one input. -/
def fnExactSearchForWrong : ChangeSpec := { name := "fnExactSearchFor", fn := fun _ => fun
  | [d1, d2] => { results := [.lit (.bool false)], args := [d1, d2] }
  | _ => none }
def FnExactSearchForWrongFalsely : Prop := fnExactSearchForRow.holds Try.pinned (OpenSpec.ofChange fnExactSearchForWrong)

/-- 'laws.FnExactMeanSearchFor': WHATEVER THE INPUT: true; the input reads as it did. -/
def fnExactMeanSearchForSpec : ChangeSpec := { name := "fnExactMeanSearchFor", fn := fun _ => fun
  | [d1, d2, d3] => { results := [.lit (.bool true)], args := [d1, d2, d3] }
  | _ => none }
def fnExactMeanSearchForRow : OpenClaim := { program := "ytoeigifmghfpgaa", sum := "d60a8c431d20b7320c63dc8523bdbd1012f50b5e1c98ac81d7b5ba6586d9952c", func := "loop.example/g01046/laws.FnExactMeanSearchFor", spec := "fnExactMeanSearchFor", unfollowed := true, recurses := true, apart := false }
def FnExactMeanSearchForSaid : Prop := fnExactMeanSearchForRow.holds Try.pinned (OpenSpec.ofChange fnExactMeanSearchForSpec)

/-- ITS FALSE NEIGHBOUR: 'it returns false'. Refute it at one input. -/
def fnExactMeanSearchForWrong : ChangeSpec := { name := "fnExactMeanSearchFor", fn := fun _ => fun
  | [d1, d2, d3] => { results := [.lit (.bool false)], args := [d1, d2, d3] }
  | _ => none }
def FnExactMeanSearchForWrongFalsely : Prop := fnExactMeanSearchForRow.holds Try.pinned (OpenSpec.ofChange fnExactMeanSearchForWrong)

/-- 'laws.FnMeans': WHATEVER THE INPUT: true; the input reads as it did. -/
def fnMeansSpec : ChangeSpec := { name := "fnMeans", fn := fun _ => fun
  | [d] => { results := [.lit (.bool true)], args := [d] }
  | _ => none }
def fnMeansRow : OpenClaim := { program := "ytoeigifmghfpgaa", sum := "d60a8c431d20b7320c63dc8523bdbd1012f50b5e1c98ac81d7b5ba6586d9952c", func := "loop.example/g01046/laws.FnMeans", spec := "fnMeans", unfollowed := true, recurses := true, apart := false }
def FnMeansSaid : Prop := fnMeansRow.holds Try.pinned (OpenSpec.ofChange fnMeansSpec)

/-- ITS FALSE NEIGHBOUR: 'it returns false'. Refute it at one input. -/
def fnMeansWrong : ChangeSpec := { name := "fnMeans", fn := fun _ => fun
  | [d] => { results := [.lit (.bool false)], args := [d] }
  | _ => none }
def FnMeansWrongFalsely : Prop := fnMeansRow.holds Try.pinned (OpenSpec.ofChange fnMeansWrong)

/- THE SECOND FORM. 'bulk': how many values and letters a reading holds, each counted each time it is reached (what is shared counts as often as it is met; a slice's spare places count too). A statement '..UptoSaid' is the law's where the arguments, and the package variables that the reading takes, are together of bulk at most 1048576: NARROWER than '..Said'. Prove '..Said' where nothing that the law and all that it calls make is longer than what came in: it says more and counts as full. Else prove '..UptoSaid'. A law counts once. -/
mutual
def uptoBulk {H : Type} : DataW H → Nat
  | .lit (.string bytes) => bytes.length + 1
  | .lit _ => 1
  | .nil => 1
  | .ptr d => uptoBulk d + 1
  | .slice elems spare => uptoBulkAll elems + uptoBulkAll spare + 1
  | .agg parts => uptoBulkAll parts + 1
  | .iface _ d => uptoBulk d + 1
  | .map entries => uptoBulkEntries entries + 1
  | .held _ => 1
def uptoBulkAll {H : Type} : List (DataW H) → Nat
  | [] => 0
  | d :: r => uptoBulk d + uptoBulkAll r
def uptoBulkEntries {H : Type} : List (Lit × DataW H) → Nat
  | [] => 0
  | x :: r => uptoBulkEntry x + uptoBulkEntries r
def uptoBulkEntry {H : Type} : Lit × DataW H → Nat
  | (.string bytes, d) => bytes.length + uptoBulk d + 1
  | (_, d) => uptoBulk d + 1
 end
def uptoSmall : (H : Type) → List (DataW H) → Bool := fun _ ds => decide (uptoBulkAll ds ≤ 1048576)
def OpenSpec.upto (s : _root_.Go.ChangeSpec) : _root_.Go.OpenSpec := { _root_.Go.OpenSpec.ofChange s with cond := some uptoSmall }

/-- 'laws.FnExactValidOpenings', WHERE WHAT IT READS IS OF BULK AT MOST 1048576: true; the input reads as it did. -/
def fnExactValidOpeningsUptoRow : OpenClaim := { program := "ytoeigifmghfpgaa", sum := "d60a8c431d20b7320c63dc8523bdbd1012f50b5e1c98ac81d7b5ba6586d9952c", func := "loop.example/g01046/laws.FnExactValidOpenings", spec := "fnExactValidOpenings", unfollowed := true, recurses := true, apart := false, narrowed := true }
def FnExactValidOpeningsUptoSaid : Prop := fnExactValidOpeningsUptoRow.holds Try.pinned (OpenSpec.upto fnExactValidOpeningsSpec)

/-- 'laws.FnSearches', WHERE WHAT IT READS IS OF BULK AT MOST 1048576: true; the input reads as it did. -/
def fnSearchesUptoRow : OpenClaim := { program := "ytoeigifmghfpgaa", sum := "d60a8c431d20b7320c63dc8523bdbd1012f50b5e1c98ac81d7b5ba6586d9952c", func := "loop.example/g01046/laws.FnSearches", spec := "fnSearches", unfollowed := true, recurses := true, apart := false, narrowed := true }
def FnSearchesUptoSaid : Prop := fnSearchesUptoRow.holds Try.pinned (OpenSpec.upto fnSearchesSpec)

/-- 'laws.FnExactStepSearch', WHERE WHAT IT READS IS OF BULK AT MOST 1048576: true; the input reads as it did. -/
def fnExactStepSearchUptoRow : OpenClaim := { program := "ytoeigifmghfpgaa", sum := "d60a8c431d20b7320c63dc8523bdbd1012f50b5e1c98ac81d7b5ba6586d9952c", func := "loop.example/g01046/laws.FnExactStepSearch", spec := "fnExactStepSearch", unfollowed := true, recurses := true, apart := false, narrowed := true }
def FnExactStepSearchUptoSaid : Prop := fnExactStepSearchUptoRow.holds Try.pinned (OpenSpec.upto fnExactStepSearchSpec)

/-- 'laws.FnExactNarrowTo', WHERE WHAT IT READS IS OF BULK AT MOST 1048576: true; the input reads as it did. -/
def fnExactNarrowToUptoRow : OpenClaim := { program := "ytoeigifmghfpgaa", sum := "d60a8c431d20b7320c63dc8523bdbd1012f50b5e1c98ac81d7b5ba6586d9952c", func := "loop.example/g01046/laws.FnExactNarrowTo", spec := "fnExactNarrowTo", unfollowed := true, recurses := true, apart := false, narrowed := true }
def FnExactNarrowToUptoSaid : Prop := fnExactNarrowToUptoRow.holds Try.pinned (OpenSpec.upto fnExactNarrowToSpec)

/-- 'laws.FnExactMeanSearch', WHERE WHAT IT READS IS OF BULK AT MOST 1048576: true; the input reads as it did. -/
def fnExactMeanSearchUptoRow : OpenClaim := { program := "ytoeigifmghfpgaa", sum := "d60a8c431d20b7320c63dc8523bdbd1012f50b5e1c98ac81d7b5ba6586d9952c", func := "loop.example/g01046/laws.FnExactMeanSearch", spec := "fnExactMeanSearch", unfollowed := true, recurses := true, apart := false, narrowed := true }
def FnExactMeanSearchUptoSaid : Prop := fnExactMeanSearchUptoRow.holds Try.pinned (OpenSpec.upto fnExactMeanSearchSpec)

/-- 'laws.FnExactMeanOpening', WHERE WHAT IT READS IS OF BULK AT MOST 1048576: true; the input reads as it did. -/
def fnExactMeanOpeningUptoRow : OpenClaim := { program := "ytoeigifmghfpgaa", sum := "d60a8c431d20b7320c63dc8523bdbd1012f50b5e1c98ac81d7b5ba6586d9952c", func := "loop.example/g01046/laws.FnExactMeanOpening", spec := "fnExactMeanOpening", unfollowed := true, recurses := true, apart := false, narrowed := true }
def FnExactMeanOpeningUptoSaid : Prop := fnExactMeanOpeningUptoRow.holds Try.pinned (OpenSpec.upto fnExactMeanOpeningSpec)

/-- 'laws.FnExactWorstSearch', WHERE WHAT IT READS IS OF BULK AT MOST 1048576: true; the input reads as it did. -/
def fnExactWorstSearchUptoRow : OpenClaim := { program := "ytoeigifmghfpgaa", sum := "d60a8c431d20b7320c63dc8523bdbd1012f50b5e1c98ac81d7b5ba6586d9952c", func := "loop.example/g01046/laws.FnExactWorstSearch", spec := "fnExactWorstSearch", unfollowed := true, recurses := true, apart := false, narrowed := true }
def FnExactWorstSearchUptoSaid : Prop := fnExactWorstSearchUptoRow.holds Try.pinned (OpenSpec.upto fnExactWorstSearchSpec)

/-- 'laws.FnExactNextOpening', WHERE WHAT IT READS IS OF BULK AT MOST 1048576: true; the input reads as it did. -/
def fnExactNextOpeningUptoRow : OpenClaim := { program := "ytoeigifmghfpgaa", sum := "d60a8c431d20b7320c63dc8523bdbd1012f50b5e1c98ac81d7b5ba6586d9952c", func := "loop.example/g01046/laws.FnExactNextOpening", spec := "fnExactNextOpening", unfollowed := true, recurses := true, apart := false, narrowed := true }
def FnExactNextOpeningUptoSaid : Prop := fnExactNextOpeningUptoRow.holds Try.pinned (OpenSpec.upto fnExactNextOpeningSpec)

/-- 'laws.FnExactSearchFor', WHERE WHAT IT READS IS OF BULK AT MOST 1048576: true; the input reads as it did. -/
def fnExactSearchForUptoRow : OpenClaim := { program := "ytoeigifmghfpgaa", sum := "d60a8c431d20b7320c63dc8523bdbd1012f50b5e1c98ac81d7b5ba6586d9952c", func := "loop.example/g01046/laws.FnExactSearchFor", spec := "fnExactSearchFor", unfollowed := true, recurses := true, apart := false, narrowed := true }
def FnExactSearchForUptoSaid : Prop := fnExactSearchForUptoRow.holds Try.pinned (OpenSpec.upto fnExactSearchForSpec)

/-- 'laws.FnExactMeanSearchFor', WHERE WHAT IT READS IS OF BULK AT MOST 1048576: true; the input reads as it did. -/
def fnExactMeanSearchForUptoRow : OpenClaim := { program := "ytoeigifmghfpgaa", sum := "d60a8c431d20b7320c63dc8523bdbd1012f50b5e1c98ac81d7b5ba6586d9952c", func := "loop.example/g01046/laws.FnExactMeanSearchFor", spec := "fnExactMeanSearchFor", unfollowed := true, recurses := true, apart := false, narrowed := true }
def FnExactMeanSearchForUptoSaid : Prop := fnExactMeanSearchForUptoRow.holds Try.pinned (OpenSpec.upto fnExactMeanSearchForSpec)

/-- 'laws.FnMeans', WHERE WHAT IT READS IS OF BULK AT MOST 1048576: true; the input reads as it did. -/
def fnMeansUptoRow : OpenClaim := { program := "ytoeigifmghfpgaa", sum := "d60a8c431d20b7320c63dc8523bdbd1012f50b5e1c98ac81d7b5ba6586d9952c", func := "loop.example/g01046/laws.FnMeans", spec := "fnMeans", unfollowed := true, recurses := true, apart := false, narrowed := true }
def FnMeansUptoSaid : Prop := fnMeansUptoRow.holds Try.pinned (OpenSpec.upto fnMeansSpec)

end Rows
end Go.Proofs.Ytoeigifmghfpgaa

/-
  No cell of these rows narrows 'for every input' (looked for: loops, veiled, ifaces, maps, wideKeys, modest, calm, conditions, laid).
  DERIVED. THE GIVEN ROWS OF THIS SEAT. 14 by the template 'for every input the law returns true; each argument reads behind the call as it read before'; 0 by the template 'total and deterministic' (their statements: YteohfokchimfeaaTotals.lean).
  GIVEN WITH THE SEED: the statements are not yours to turn. If you find one false, say at which input.
  Laid BY PROGRAM, IN A SANDBOX (cutbox-rows.mjs): the forced cells as the released guide's own fill.sh prints them over the translation 42887feab3fda042… (all of the seat's roots in one cut). By AI agents, Wed Nov 11 2026. No macro, syntax, notation, axiom, sorry.
-/
import Derived.Test.YteohfokchimfeaaChecked
import GoSem.Claim
import GoSem.ClaimJoined
import GoSem.ClaimMapViews
import Derived.JoinedTies
import Derived.KernelRfl
namespace Go.Proofs.Yteohfokchimfeaa
/- THE CELL 'sum', in the pinned program and in every row, IS THE sha256 OF THE DUMP (.gsa) THAT YteohfokchimfeaaProg.lean LOADS. Nothing in Lean hashes anything: it is a label: what it is worth is what the hold of that sum in a sandbox is worth. -/
noncomputable def Try.pinned : Pinned := { name := "yteohfokchimfeaa", sum := "42887feab3fda04221486a096469c8bd5a545da10ad5c70803abf7feabd76bef", checked := Try.checked }
namespace Rows
def none {H : Type} : Left H := { results := [], args := [] }

/-- 'laws.FnExactValidOrder': WHATEVER THE INPUT: true; the input reads as it did. -/
def fnExactValidOrderSpec : ChangeSpec := { name := "fnExactValidOrder", fn := fun _ => fun
  | [d] => { results := [.lit (.bool true)], args := [d] }
  | _ => none }
def fnExactValidOrderRow : OpenClaim := { program := "yteohfokchimfeaa", sum := "42887feab3fda04221486a096469c8bd5a545da10ad5c70803abf7feabd76bef", func := "loop.example/g01046/laws.FnExactValidOrder", spec := "fnExactValidOrder", apart := false }
def FnExactValidOrderSaid : Prop := fnExactValidOrderRow.holds Try.pinned (OpenSpec.ofChange fnExactValidOrderSpec)

/-- ITS FALSE NEIGHBOUR: 'it returns false'. Refute it at one input. -/
def fnExactValidOrderWrong : ChangeSpec := { name := "fnExactValidOrder", fn := fun _ => fun
  | [d] => { results := [.lit (.bool false)], args := [d] }
  | _ => none }
def FnExactValidOrderWrongFalsely : Prop := fnExactValidOrderRow.holds Try.pinned (OpenSpec.ofChange fnExactValidOrderWrong)

/-- 'laws.FnExactInversionsOf': WHATEVER THE INPUT: true; the input reads as it did. -/
def fnExactInversionsOfSpec : ChangeSpec := { name := "fnExactInversionsOf", fn := fun _ => fun
  | [d] => { results := [.lit (.bool true)], args := [d] }
  | _ => none }
def fnExactInversionsOfRow : OpenClaim := { program := "yteohfokchimfeaa", sum := "42887feab3fda04221486a096469c8bd5a545da10ad5c70803abf7feabd76bef", func := "loop.example/g01046/laws.FnExactInversionsOf", spec := "fnExactInversionsOf", apart := false }
def FnExactInversionsOfSaid : Prop := fnExactInversionsOfRow.holds Try.pinned (OpenSpec.ofChange fnExactInversionsOfSpec)

/-- ITS FALSE NEIGHBOUR: 'it returns false'. Refute it at one input. -/
def fnExactInversionsOfWrong : ChangeSpec := { name := "fnExactInversionsOf", fn := fun _ => fun
  | [d] => { results := [.lit (.bool false)], args := [d] }
  | _ => none }
def FnExactInversionsOfWrongFalsely : Prop := fnExactInversionsOfRow.holds Try.pinned (OpenSpec.ofChange fnExactInversionsOfWrong)

/-- 'laws.FnExactBranchCounts': WHATEVER THE INPUT: true; the input reads as it did. -/
def fnExactBranchCountsSpec : ChangeSpec := { name := "fnExactBranchCounts", fn := fun _ => fun
  | [d1, d2] => { results := [.lit (.bool true)], args := [d1, d2] }
  | _ => none }
def fnExactBranchCountsRow : OpenClaim := { program := "yteohfokchimfeaa", sum := "42887feab3fda04221486a096469c8bd5a545da10ad5c70803abf7feabd76bef", func := "loop.example/g01046/laws.FnExactBranchCounts", spec := "fnExactBranchCounts", unfollowed := true, recurses := true, apart := false }
def FnExactBranchCountsSaid : Prop := fnExactBranchCountsRow.holds Try.pinned (OpenSpec.ofChange fnExactBranchCountsSpec)

/-- ITS FALSE NEIGHBOUR: 'it returns false'. Refute it at one input. -/
def fnExactBranchCountsWrong : ChangeSpec := { name := "fnExactBranchCounts", fn := fun _ => fun
  | [d1, d2] => { results := [.lit (.bool false)], args := [d1, d2] }
  | _ => none }
def FnExactBranchCountsWrongFalsely : Prop := fnExactBranchCountsRow.holds Try.pinned (OpenSpec.ofChange fnExactBranchCountsWrong)

/-- 'laws.FnExactSwitchTurns': WHATEVER THE INPUT: true; the input reads as it did. -/
def fnExactSwitchTurnsSpec : ChangeSpec := { name := "fnExactSwitchTurns", fn := fun _ => fun
  | [d] => { results := [.lit (.bool true)], args := [d] }
  | _ => none }
def fnExactSwitchTurnsRow : OpenClaim := { program := "yteohfokchimfeaa", sum := "42887feab3fda04221486a096469c8bd5a545da10ad5c70803abf7feabd76bef", func := "loop.example/g01046/laws.FnExactSwitchTurns", spec := "fnExactSwitchTurns", unfollowed := true, recurses := true, apart := false }
def FnExactSwitchTurnsSaid : Prop := fnExactSwitchTurnsRow.holds Try.pinned (OpenSpec.ofChange fnExactSwitchTurnsSpec)

/-- ITS FALSE NEIGHBOUR: 'it returns false'. Refute it at one input. -/
def fnExactSwitchTurnsWrong : ChangeSpec := { name := "fnExactSwitchTurns", fn := fun _ => fun
  | [d] => { results := [.lit (.bool false)], args := [d] }
  | _ => none }
def FnExactSwitchTurnsWrongFalsely : Prop := fnExactSwitchTurnsRow.holds Try.pinned (OpenSpec.ofChange fnExactSwitchTurnsWrong)

/-- 'laws.FnExactRoundsOf': WHATEVER THE INPUT: true; the input reads as it did. -/
def fnExactRoundsOfSpec : ChangeSpec := { name := "fnExactRoundsOf", fn := fun _ => fun
  | [d] => { results := [.lit (.bool true)], args := [d] }
  | _ => none }
def fnExactRoundsOfRow : OpenClaim := { program := "yteohfokchimfeaa", sum := "42887feab3fda04221486a096469c8bd5a545da10ad5c70803abf7feabd76bef", func := "loop.example/g01046/laws.FnExactRoundsOf", spec := "fnExactRoundsOf", apart := false }
def FnExactRoundsOfSaid : Prop := fnExactRoundsOfRow.holds Try.pinned (OpenSpec.ofChange fnExactRoundsOfSpec)

/-- ITS FALSE NEIGHBOUR: 'it returns false'. Refute it at one input. -/
def fnExactRoundsOfWrong : ChangeSpec := { name := "fnExactRoundsOf", fn := fun _ => fun
  | [d] => { results := [.lit (.bool false)], args := [d] }
  | _ => none }
def FnExactRoundsOfWrongFalsely : Prop := fnExactRoundsOfRow.holds Try.pinned (OpenSpec.ofChange fnExactRoundsOfWrong)

/-- 'laws.FnExactFewestShifts': WHATEVER THE INPUT: true; the input reads as it did. -/
def fnExactFewestShiftsSpec : ChangeSpec := { name := "fnExactFewestShifts", fn := fun _ => fun
  | [d] => { results := [.lit (.bool true)], args := [d] }
  | _ => none }
def fnExactFewestShiftsRow : OpenClaim := { program := "yteohfokchimfeaa", sum := "42887feab3fda04221486a096469c8bd5a545da10ad5c70803abf7feabd76bef", func := "loop.example/g01046/laws.FnExactFewestShifts", spec := "fnExactFewestShifts", apart := false }
def FnExactFewestShiftsSaid : Prop := fnExactFewestShiftsRow.holds Try.pinned (OpenSpec.ofChange fnExactFewestShiftsSpec)

/-- ITS FALSE NEIGHBOUR: 'it returns false'. Refute it at one input. -/
def fnExactFewestShiftsWrong : ChangeSpec := { name := "fnExactFewestShifts", fn := fun _ => fun
  | [d] => { results := [.lit (.bool false)], args := [d] }
  | _ => none }
def FnExactFewestShiftsWrongFalsely : Prop := fnExactFewestShiftsRow.holds Try.pinned (OpenSpec.ofChange fnExactFewestShiftsWrong)

/-- 'laws.FnExactStacksNeeded': WHATEVER THE INPUT: true; the input reads as it did. -/
def fnExactStacksNeededSpec : ChangeSpec := { name := "fnExactStacksNeeded", fn := fun _ => fun
  | [d] => { results := [.lit (.bool true)], args := [d] }
  | _ => none }
def fnExactStacksNeededRow : OpenClaim := { program := "yteohfokchimfeaa", sum := "42887feab3fda04221486a096469c8bd5a545da10ad5c70803abf7feabd76bef", func := "loop.example/g01046/laws.FnExactStacksNeeded", spec := "fnExactStacksNeeded", apart := false }
def FnExactStacksNeededSaid : Prop := fnExactStacksNeededRow.holds Try.pinned (OpenSpec.ofChange fnExactStacksNeededSpec)

/-- ITS FALSE NEIGHBOUR: 'it returns false'. Refute it at one input. -/
def fnExactStacksNeededWrong : ChangeSpec := { name := "fnExactStacksNeeded", fn := fun _ => fun
  | [d] => { results := [.lit (.bool false)], args := [d] }
  | _ => none }
def FnExactStacksNeededWrongFalsely : Prop := fnExactStacksNeededRow.holds Try.pinned (OpenSpec.ofChange fnExactStacksNeededWrong)

/-- 'laws.FnExactAssignStacks': WHATEVER THE INPUT: true; the input reads as it did. -/
def fnExactAssignStacksSpec : ChangeSpec := { name := "fnExactAssignStacks", fn := fun _ => fun
  | [d] => { results := [.lit (.bool true)], args := [d] }
  | _ => none }
def fnExactAssignStacksRow : OpenClaim := { program := "yteohfokchimfeaa", sum := "42887feab3fda04221486a096469c8bd5a545da10ad5c70803abf7feabd76bef", func := "loop.example/g01046/laws.FnExactAssignStacks", spec := "fnExactAssignStacks", unfollowed := true, recurses := true, apart := false }
def FnExactAssignStacksSaid : Prop := fnExactAssignStacksRow.holds Try.pinned (OpenSpec.ofChange fnExactAssignStacksSpec)

/-- ITS FALSE NEIGHBOUR: 'it returns false'. Refute it at one input. -/
def fnExactAssignStacksWrong : ChangeSpec := { name := "fnExactAssignStacks", fn := fun _ => fun
  | [d] => { results := [.lit (.bool false)], args := [d] }
  | _ => none }
def FnExactAssignStacksWrongFalsely : Prop := fnExactAssignStacksRow.holds Try.pinned (OpenSpec.ofChange fnExactAssignStacksWrong)

/-- 'laws.FnExactIsSorted': WHATEVER THE INPUT: true; the input reads as it did. -/
def fnExactIsSortedSpec : ChangeSpec := { name := "fnExactIsSorted", fn := fun _ => fun
  | [d1, d2] => { results := [.lit (.bool true)], args := [d1, d2] }
  | _ => none }
def fnExactIsSortedRow : OpenClaim := { program := "yteohfokchimfeaa", sum := "42887feab3fda04221486a096469c8bd5a545da10ad5c70803abf7feabd76bef", func := "loop.example/g01046/laws.FnExactIsSorted", spec := "fnExactIsSorted", unfollowed := true, recurses := true, apart := false }
def FnExactIsSortedSaid : Prop := fnExactIsSortedRow.holds Try.pinned (OpenSpec.ofChange fnExactIsSortedSpec)

/-- ITS FALSE NEIGHBOUR: 'it returns false'. Refute it at one input. -/
def fnExactIsSortedWrong : ChangeSpec := { name := "fnExactIsSorted", fn := fun _ => fun
  | [d1, d2] => { results := [.lit (.bool false)], args := [d1, d2] }
  | _ => none }
def FnExactIsSortedWrongFalsely : Prop := fnExactIsSortedRow.holds Try.pinned (OpenSpec.ofChange fnExactIsSortedWrong)

/-- 'laws.FnExactRisingChain': WHATEVER THE INPUT: true; the input reads as it did. -/
def fnExactRisingChainSpec : ChangeSpec := { name := "fnExactRisingChain", fn := fun _ => fun
  | [d] => { results := [.lit (.bool true)], args := [d] }
  | _ => none }
def fnExactRisingChainRow : OpenClaim := { program := "yteohfokchimfeaa", sum := "42887feab3fda04221486a096469c8bd5a545da10ad5c70803abf7feabd76bef", func := "loop.example/g01046/laws.FnExactRisingChain", spec := "fnExactRisingChain", apart := false }
def FnExactRisingChainSaid : Prop := fnExactRisingChainRow.holds Try.pinned (OpenSpec.ofChange fnExactRisingChainSpec)

/-- ITS FALSE NEIGHBOUR: 'it returns false'. Refute it at one input. -/
def fnExactRisingChainWrong : ChangeSpec := { name := "fnExactRisingChain", fn := fun _ => fun
  | [d] => { results := [.lit (.bool false)], args := [d] }
  | _ => none }
def FnExactRisingChainWrongFalsely : Prop := fnExactRisingChainRow.holds Try.pinned (OpenSpec.ofChange fnExactRisingChainWrong)

/-- 'laws.FnExactPopOrder': WHATEVER THE INPUT: true; the input reads as it did. -/
def fnExactPopOrderSpec : ChangeSpec := { name := "fnExactPopOrder", fn := fun _ => fun
  | [d1, d2] => { results := [.lit (.bool true)], args := [d1, d2] }
  | _ => none }
def fnExactPopOrderRow : OpenClaim := { program := "yteohfokchimfeaa", sum := "42887feab3fda04221486a096469c8bd5a545da10ad5c70803abf7feabd76bef", func := "loop.example/g01046/laws.FnExactPopOrder", spec := "fnExactPopOrder", unfollowed := true, recurses := true, apart := false }
def FnExactPopOrderSaid : Prop := fnExactPopOrderRow.holds Try.pinned (OpenSpec.ofChange fnExactPopOrderSpec)

/-- ITS FALSE NEIGHBOUR: 'it returns false'. Refute it at one input. -/
def fnExactPopOrderWrong : ChangeSpec := { name := "fnExactPopOrder", fn := fun _ => fun
  | [d1, d2] => { results := [.lit (.bool false)], args := [d1, d2] }
  | _ => none }
def FnExactPopOrderWrongFalsely : Prop := fnExactPopOrderRow.holds Try.pinned (OpenSpec.ofChange fnExactPopOrderWrong)

/-- 'laws.FnExactFewestOutOf': WHATEVER THE INPUT: true; the input reads as it did. -/
def fnExactFewestOutOfSpec : ChangeSpec := { name := "fnExactFewestOutOf", fn := fun _ => fun
  | [d1, d2] => { results := [.lit (.bool true)], args := [d1, d2] }
  | _ => none }
def fnExactFewestOutOfRow : OpenClaim := { program := "yteohfokchimfeaa", sum := "42887feab3fda04221486a096469c8bd5a545da10ad5c70803abf7feabd76bef", func := "loop.example/g01046/laws.FnExactFewestOutOf", spec := "fnExactFewestOutOf", apart := false }
def FnExactFewestOutOfSaid : Prop := fnExactFewestOutOfRow.holds Try.pinned (OpenSpec.ofChange fnExactFewestOutOfSpec)

/-- ITS FALSE NEIGHBOUR: 'it returns false'. Refute it at one input. -/
def fnExactFewestOutOfWrong : ChangeSpec := { name := "fnExactFewestOutOf", fn := fun _ => fun
  | [d1, d2] => { results := [.lit (.bool false)], args := [d1, d2] }
  | _ => none }
def FnExactFewestOutOfWrongFalsely : Prop := fnExactFewestOutOfRow.holds Try.pinned (OpenSpec.ofChange fnExactFewestOutOfWrong)

/-- 'laws.FnStacks': WHATEVER THE INPUT: true; the input reads as it did. -/
def fnStacksSpec : ChangeSpec := { name := "fnStacks", fn := fun _ => fun
  | [d] => { results := [.lit (.bool true)], args := [d] }
  | _ => none }
def fnStacksRow : OpenClaim := { program := "yteohfokchimfeaa", sum := "42887feab3fda04221486a096469c8bd5a545da10ad5c70803abf7feabd76bef", func := "loop.example/g01046/laws.FnStacks", spec := "fnStacks", unfollowed := true, recurses := true, apart := false }
def FnStacksSaid : Prop := fnStacksRow.holds Try.pinned (OpenSpec.ofChange fnStacksSpec)

/-- ITS FALSE NEIGHBOUR: 'it returns false'. Refute it at one input. -/
def fnStacksWrong : ChangeSpec := { name := "fnStacks", fn := fun _ => fun
  | [d] => { results := [.lit (.bool false)], args := [d] }
  | _ => none }
def FnStacksWrongFalsely : Prop := fnStacksRow.holds Try.pinned (OpenSpec.ofChange fnStacksWrong)

/-- 'laws.FnSorting': WHATEVER THE INPUT: true; the input reads as it did. -/
def fnSortingSpec : ChangeSpec := { name := "fnSorting", fn := fun _ => fun
  | [d] => { results := [.lit (.bool true)], args := [d] }
  | _ => none }
def fnSortingRow : OpenClaim := { program := "yteohfokchimfeaa", sum := "42887feab3fda04221486a096469c8bd5a545da10ad5c70803abf7feabd76bef", func := "loop.example/g01046/laws.FnSorting", spec := "fnSorting", unfollowed := true, recurses := true, apart := false }
def FnSortingSaid : Prop := fnSortingRow.holds Try.pinned (OpenSpec.ofChange fnSortingSpec)

/-- ITS FALSE NEIGHBOUR: 'it returns false'. Refute it at one input. -/
def fnSortingWrong : ChangeSpec := { name := "fnSorting", fn := fun _ => fun
  | [d] => { results := [.lit (.bool false)], args := [d] }
  | _ => none }
def FnSortingWrongFalsely : Prop := fnSortingRow.holds Try.pinned (OpenSpec.ofChange fnSortingWrong)

/- THE SECOND FORM. 'bulk': how many values and letters a reading holds, each counted each time it is reached (what is shared counts as often as it is met; a slice's spare places count too). A statement '..UptoSaid' is the law's where the arguments, and the package variables that the reading takes, are together of bulk at most 1048576: NARROWER than '..Said'. Prove '..Said' where nothing that the law and all that it calls make is longer than what came in: it says more and counts as full. Else prove '..UptoSaid'. A law counts once. -/
mutual
def uptoBulk {H : Type} : DataW H → Nat
  | .lit (.string bytes) => bytes.length + 1
  | .lit _ => 1
  | .nil => 1
  | .ptr d => uptoBulk d + 1
  | .slice elems spare => uptoBulkAll elems + uptoBulkAll spare + 1
  | .agg parts => uptoBulkAll parts + 1
  | .iface _ d => uptoBulk d + 1
  | .map entries => uptoBulkEntries entries + 1
  | .held _ => 1
def uptoBulkAll {H : Type} : List (DataW H) → Nat
  | [] => 0
  | d :: r => uptoBulk d + uptoBulkAll r
def uptoBulkEntries {H : Type} : List (Lit × DataW H) → Nat
  | [] => 0
  | x :: r => uptoBulkEntry x + uptoBulkEntries r
def uptoBulkEntry {H : Type} : Lit × DataW H → Nat
  | (.string bytes, d) => bytes.length + uptoBulk d + 1
  | (_, d) => uptoBulk d + 1
 end
def uptoSmall : (H : Type) → List (DataW H) → Bool := fun _ ds => decide (uptoBulkAll ds ≤ 1048576)
def OpenSpec.upto (s : _root_.Go.ChangeSpec) : _root_.Go.OpenSpec := { _root_.Go.OpenSpec.ofChange s with cond := some uptoSmall }

/-- 'laws.FnExactValidOrder', WHERE WHAT IT READS IS OF BULK AT MOST 1048576: true; the input reads as it did. -/
def fnExactValidOrderUptoRow : OpenClaim := { program := "yteohfokchimfeaa", sum := "42887feab3fda04221486a096469c8bd5a545da10ad5c70803abf7feabd76bef", func := "loop.example/g01046/laws.FnExactValidOrder", spec := "fnExactValidOrder", apart := false, narrowed := true }
def FnExactValidOrderUptoSaid : Prop := fnExactValidOrderUptoRow.holds Try.pinned (OpenSpec.upto fnExactValidOrderSpec)

/-- 'laws.FnExactInversionsOf', WHERE WHAT IT READS IS OF BULK AT MOST 1048576: true; the input reads as it did. -/
def fnExactInversionsOfUptoRow : OpenClaim := { program := "yteohfokchimfeaa", sum := "42887feab3fda04221486a096469c8bd5a545da10ad5c70803abf7feabd76bef", func := "loop.example/g01046/laws.FnExactInversionsOf", spec := "fnExactInversionsOf", apart := false, narrowed := true }
def FnExactInversionsOfUptoSaid : Prop := fnExactInversionsOfUptoRow.holds Try.pinned (OpenSpec.upto fnExactInversionsOfSpec)

/-- 'laws.FnExactBranchCounts', WHERE WHAT IT READS IS OF BULK AT MOST 1048576: true; the input reads as it did. -/
def fnExactBranchCountsUptoRow : OpenClaim := { program := "yteohfokchimfeaa", sum := "42887feab3fda04221486a096469c8bd5a545da10ad5c70803abf7feabd76bef", func := "loop.example/g01046/laws.FnExactBranchCounts", spec := "fnExactBranchCounts", unfollowed := true, recurses := true, apart := false, narrowed := true }
def FnExactBranchCountsUptoSaid : Prop := fnExactBranchCountsUptoRow.holds Try.pinned (OpenSpec.upto fnExactBranchCountsSpec)

/-- 'laws.FnExactSwitchTurns', WHERE WHAT IT READS IS OF BULK AT MOST 1048576: true; the input reads as it did. -/
def fnExactSwitchTurnsUptoRow : OpenClaim := { program := "yteohfokchimfeaa", sum := "42887feab3fda04221486a096469c8bd5a545da10ad5c70803abf7feabd76bef", func := "loop.example/g01046/laws.FnExactSwitchTurns", spec := "fnExactSwitchTurns", unfollowed := true, recurses := true, apart := false, narrowed := true }
def FnExactSwitchTurnsUptoSaid : Prop := fnExactSwitchTurnsUptoRow.holds Try.pinned (OpenSpec.upto fnExactSwitchTurnsSpec)

/-- 'laws.FnExactRoundsOf', WHERE WHAT IT READS IS OF BULK AT MOST 1048576: true; the input reads as it did. -/
def fnExactRoundsOfUptoRow : OpenClaim := { program := "yteohfokchimfeaa", sum := "42887feab3fda04221486a096469c8bd5a545da10ad5c70803abf7feabd76bef", func := "loop.example/g01046/laws.FnExactRoundsOf", spec := "fnExactRoundsOf", apart := false, narrowed := true }
def FnExactRoundsOfUptoSaid : Prop := fnExactRoundsOfUptoRow.holds Try.pinned (OpenSpec.upto fnExactRoundsOfSpec)

/-- 'laws.FnExactFewestShifts', WHERE WHAT IT READS IS OF BULK AT MOST 1048576: true; the input reads as it did. -/
def fnExactFewestShiftsUptoRow : OpenClaim := { program := "yteohfokchimfeaa", sum := "42887feab3fda04221486a096469c8bd5a545da10ad5c70803abf7feabd76bef", func := "loop.example/g01046/laws.FnExactFewestShifts", spec := "fnExactFewestShifts", apart := false, narrowed := true }
def FnExactFewestShiftsUptoSaid : Prop := fnExactFewestShiftsUptoRow.holds Try.pinned (OpenSpec.upto fnExactFewestShiftsSpec)

/-- 'laws.FnExactStacksNeeded', WHERE WHAT IT READS IS OF BULK AT MOST 1048576: true; the input reads as it did. -/
def fnExactStacksNeededUptoRow : OpenClaim := { program := "yteohfokchimfeaa", sum := "42887feab3fda04221486a096469c8bd5a545da10ad5c70803abf7feabd76bef", func := "loop.example/g01046/laws.FnExactStacksNeeded", spec := "fnExactStacksNeeded", apart := false, narrowed := true }
def FnExactStacksNeededUptoSaid : Prop := fnExactStacksNeededUptoRow.holds Try.pinned (OpenSpec.upto fnExactStacksNeededSpec)

/-- 'laws.FnExactAssignStacks', WHERE WHAT IT READS IS OF BULK AT MOST 1048576: true; the input reads as it did. -/
def fnExactAssignStacksUptoRow : OpenClaim := { program := "yteohfokchimfeaa", sum := "42887feab3fda04221486a096469c8bd5a545da10ad5c70803abf7feabd76bef", func := "loop.example/g01046/laws.FnExactAssignStacks", spec := "fnExactAssignStacks", unfollowed := true, recurses := true, apart := false, narrowed := true }
def FnExactAssignStacksUptoSaid : Prop := fnExactAssignStacksUptoRow.holds Try.pinned (OpenSpec.upto fnExactAssignStacksSpec)

/-- 'laws.FnExactIsSorted', WHERE WHAT IT READS IS OF BULK AT MOST 1048576: true; the input reads as it did. -/
def fnExactIsSortedUptoRow : OpenClaim := { program := "yteohfokchimfeaa", sum := "42887feab3fda04221486a096469c8bd5a545da10ad5c70803abf7feabd76bef", func := "loop.example/g01046/laws.FnExactIsSorted", spec := "fnExactIsSorted", unfollowed := true, recurses := true, apart := false, narrowed := true }
def FnExactIsSortedUptoSaid : Prop := fnExactIsSortedUptoRow.holds Try.pinned (OpenSpec.upto fnExactIsSortedSpec)

/-- 'laws.FnExactRisingChain', WHERE WHAT IT READS IS OF BULK AT MOST 1048576: true; the input reads as it did. -/
def fnExactRisingChainUptoRow : OpenClaim := { program := "yteohfokchimfeaa", sum := "42887feab3fda04221486a096469c8bd5a545da10ad5c70803abf7feabd76bef", func := "loop.example/g01046/laws.FnExactRisingChain", spec := "fnExactRisingChain", apart := false, narrowed := true }
def FnExactRisingChainUptoSaid : Prop := fnExactRisingChainUptoRow.holds Try.pinned (OpenSpec.upto fnExactRisingChainSpec)

/-- 'laws.FnExactPopOrder', WHERE WHAT IT READS IS OF BULK AT MOST 1048576: true; the input reads as it did. -/
def fnExactPopOrderUptoRow : OpenClaim := { program := "yteohfokchimfeaa", sum := "42887feab3fda04221486a096469c8bd5a545da10ad5c70803abf7feabd76bef", func := "loop.example/g01046/laws.FnExactPopOrder", spec := "fnExactPopOrder", unfollowed := true, recurses := true, apart := false, narrowed := true }
def FnExactPopOrderUptoSaid : Prop := fnExactPopOrderUptoRow.holds Try.pinned (OpenSpec.upto fnExactPopOrderSpec)

/-- 'laws.FnExactFewestOutOf', WHERE WHAT IT READS IS OF BULK AT MOST 1048576: true; the input reads as it did. -/
def fnExactFewestOutOfUptoRow : OpenClaim := { program := "yteohfokchimfeaa", sum := "42887feab3fda04221486a096469c8bd5a545da10ad5c70803abf7feabd76bef", func := "loop.example/g01046/laws.FnExactFewestOutOf", spec := "fnExactFewestOutOf", apart := false, narrowed := true }
def FnExactFewestOutOfUptoSaid : Prop := fnExactFewestOutOfUptoRow.holds Try.pinned (OpenSpec.upto fnExactFewestOutOfSpec)

/-- 'laws.FnStacks', WHERE WHAT IT READS IS OF BULK AT MOST 1048576: true; the input reads as it did. -/
def fnStacksUptoRow : OpenClaim := { program := "yteohfokchimfeaa", sum := "42887feab3fda04221486a096469c8bd5a545da10ad5c70803abf7feabd76bef", func := "loop.example/g01046/laws.FnStacks", spec := "fnStacks", unfollowed := true, recurses := true, apart := false, narrowed := true }
def FnStacksUptoSaid : Prop := fnStacksUptoRow.holds Try.pinned (OpenSpec.upto fnStacksSpec)

/-- 'laws.FnSorting', WHERE WHAT IT READS IS OF BULK AT MOST 1048576: true; the input reads as it did. -/
def fnSortingUptoRow : OpenClaim := { program := "yteohfokchimfeaa", sum := "42887feab3fda04221486a096469c8bd5a545da10ad5c70803abf7feabd76bef", func := "loop.example/g01046/laws.FnSorting", spec := "fnSorting", unfollowed := true, recurses := true, apart := false, narrowed := true }
def FnSortingUptoSaid : Prop := fnSortingUptoRow.holds Try.pinned (OpenSpec.upto fnSortingSpec)

end Rows
end Go.Proofs.Yteohfokchimfeaa

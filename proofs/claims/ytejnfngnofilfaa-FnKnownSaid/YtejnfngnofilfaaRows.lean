/-
  No cell of these rows narrows 'for every input' (looked for: loops, veiled, ifaces, maps, wideKeys, modest, calm, conditions, laid).
  DERIVED. THE GIVEN ROWS OF THIS SEAT. 13 by the template 'for every input the law returns true; each argument reads behind the call as it read before'; 0 by the template 'total and deterministic' (their statements: YtejnfngnofilfaaTotals.lean).
  GIVEN WITH THE SEED: the statements are not yours to turn. If you find one false, say at which input.
  Laid BY PROGRAM, IN A SANDBOX (cutbox-rows.mjs): the forced cells as the released guide's own fill.sh prints them over the translation d0228943c51f79f1… (all of the seat's roots in one cut). By AI agents, Wed Nov 11 2026. No macro, syntax, notation, axiom, sorry.
-/
import Derived.Test.YtejnfngnofilfaaChecked
import GoSem.Claim
import GoSem.ClaimJoined
import GoSem.ClaimMapViews
import Derived.JoinedTies
import Derived.KernelRfl
namespace Go.Proofs.Ytejnfngnofilfaa
/- THE CELL 'sum', in the pinned program and in every row, IS THE sha256 OF THE DUMP (.gsa) THAT YtejnfngnofilfaaProg.lean LOADS. Nothing in Lean hashes anything: it is a label: what it is worth is what the hold of that sum in a sandbox is worth. -/
noncomputable def Try.pinned : Pinned := { name := "ytejnfngnofilfaa", sum := "d0228943c51f79f153acf6bbb6b1ee505021c3bb7da1925c17fcd63ea4a6a3e8", checked := Try.checked }
namespace Rows
def none {H : Type} : Left H := { results := [], args := [] }

/-- 'laws.FnExactValidStuck': WHATEVER THE INPUT: true; the input reads as it did. -/
def fnExactValidStuckSpec : ChangeSpec := { name := "fnExactValidStuck", fn := fun _ => fun
  | [d1, d2] => { results := [.lit (.bool true)], args := [d1, d2] }
  | _ => none }
def fnExactValidStuckRow : OpenClaim := { program := "ytejnfngnofilfaa", sum := "d0228943c51f79f153acf6bbb6b1ee505021c3bb7da1925c17fcd63ea4a6a3e8", func := "loop.example/g01046/laws.FnExactValidStuck", spec := "fnExactValidStuck", apart := false }
def FnExactValidStuckSaid : Prop := fnExactValidStuckRow.holds Try.pinned (OpenSpec.ofChange fnExactValidStuckSpec)

/-- ITS FALSE NEIGHBOUR: 'it returns false'. Refute it at one input. -/
def fnExactValidStuckWrong : ChangeSpec := { name := "fnExactValidStuck", fn := fun _ => fun
  | [d1, d2] => { results := [.lit (.bool false)], args := [d1, d2] }
  | _ => none }
def FnExactValidStuckWrongFalsely : Prop := fnExactValidStuckRow.holds Try.pinned (OpenSpec.ofChange fnExactValidStuckWrong)

/-- 'laws.FnExactSwitchesTo': WHATEVER THE INPUT: true; the input reads as it did. -/
def fnExactSwitchesToSpec : ChangeSpec := { name := "fnExactSwitchesTo", fn := fun _ => fun
  | [d1, d2] => { results := [.lit (.bool true)], args := [d1, d2] }
  | _ => none }
def fnExactSwitchesToRow : OpenClaim := { program := "ytejnfngnofilfaa", sum := "d0228943c51f79f153acf6bbb6b1ee505021c3bb7da1925c17fcd63ea4a6a3e8", func := "loop.example/g01046/laws.FnExactSwitchesTo", spec := "fnExactSwitchesTo", apart := false }
def FnExactSwitchesToSaid : Prop := fnExactSwitchesToRow.holds Try.pinned (OpenSpec.ofChange fnExactSwitchesToSpec)

/-- ITS FALSE NEIGHBOUR: 'it returns false'. Refute it at one input. -/
def fnExactSwitchesToWrong : ChangeSpec := { name := "fnExactSwitchesTo", fn := fun _ => fun
  | [d1, d2] => { results := [.lit (.bool false)], args := [d1, d2] }
  | _ => none }
def FnExactSwitchesToWrongFalsely : Prop := fnExactSwitchesToRow.holds Try.pinned (OpenSpec.ofChange fnExactSwitchesToWrong)

/-- 'laws.FnExactValidTrials': WHATEVER THE INPUT: true; the input reads as it did. -/
def fnExactValidTrialsSpec : ChangeSpec := { name := "fnExactValidTrials", fn := fun _ => fun
  | [d1, d2] => { results := [.lit (.bool true)], args := [d1, d2] }
  | _ => none }
def fnExactValidTrialsRow : OpenClaim := { program := "ytejnfngnofilfaa", sum := "d0228943c51f79f153acf6bbb6b1ee505021c3bb7da1925c17fcd63ea4a6a3e8", func := "loop.example/g01046/laws.FnExactValidTrials", spec := "fnExactValidTrials", unfollowed := true, recurses := true, apart := false }
def FnExactValidTrialsSaid : Prop := fnExactValidTrialsRow.holds Try.pinned (OpenSpec.ofChange fnExactValidTrialsSpec)

/-- ITS FALSE NEIGHBOUR: 'it returns false'. Refute it at one input. -/
def fnExactValidTrialsWrong : ChangeSpec := { name := "fnExactValidTrials", fn := fun _ => fun
  | [d1, d2] => { results := [.lit (.bool false)], args := [d1, d2] }
  | _ => none }
def FnExactValidTrialsWrongFalsely : Prop := fnExactValidTrialsRow.holds Try.pinned (OpenSpec.ofChange fnExactValidTrialsWrong)

/-- 'laws.FnKnown': WHATEVER THE INPUT: true; the input reads as it did. -/
def fnKnownSpec : ChangeSpec := { name := "fnKnown", fn := fun _ => fun
  | [d1, d2] => { results := [.lit (.bool true)], args := [d1, d2] }
  | _ => none }
def fnKnownRow : OpenClaim := { program := "ytejnfngnofilfaa", sum := "d0228943c51f79f153acf6bbb6b1ee505021c3bb7da1925c17fcd63ea4a6a3e8", func := "loop.example/g01046/laws.FnKnown", spec := "fnKnown", unfollowed := true, recurses := true, apart := false }
def FnKnownSaid : Prop := fnKnownRow.holds Try.pinned (OpenSpec.ofChange fnKnownSpec)

/-- ITS FALSE NEIGHBOUR: 'it returns false'. Refute it at one input. -/
def fnKnownWrong : ChangeSpec := { name := "fnKnown", fn := fun _ => fun
  | [d1, d2] => { results := [.lit (.bool false)], args := [d1, d2] }
  | _ => none }
def FnKnownWrongFalsely : Prop := fnKnownRow.holds Try.pinned (OpenSpec.ofChange fnKnownWrong)

/-- 'laws.FnExactExitOf': WHATEVER THE INPUT: true; the input reads as it did. -/
def fnExactExitOfSpec : ChangeSpec := { name := "fnExactExitOf", fn := fun _ => fun
  | [d1, d2, d3] => { results := [.lit (.bool true)], args := [d1, d2, d3] }
  | _ => none }
def fnExactExitOfRow : OpenClaim := { program := "ytejnfngnofilfaa", sum := "d0228943c51f79f153acf6bbb6b1ee505021c3bb7da1925c17fcd63ea4a6a3e8", func := "loop.example/g01046/laws.FnExactExitOf", spec := "fnExactExitOf", apart := false }
def FnExactExitOfSaid : Prop := fnExactExitOfRow.holds Try.pinned (OpenSpec.ofChange fnExactExitOfSpec)

/-- ITS FALSE NEIGHBOUR: 'it returns false'. Refute it at one input. -/
def fnExactExitOfWrong : ChangeSpec := { name := "fnExactExitOf", fn := fun _ => fun
  | [d1, d2, d3] => { results := [.lit (.bool false)], args := [d1, d2, d3] }
  | _ => none }
def FnExactExitOfWrongFalsely : Prop := fnExactExitOfRow.holds Try.pinned (OpenSpec.ofChange fnExactExitOfWrong)

/-- 'laws.FnSwitches': WHATEVER THE INPUT: true; the input reads as it did. -/
def fnSwitchesSpec : ChangeSpec := { name := "fnSwitches", fn := fun _ => fun
  | [d1, d2] => { results := [.lit (.bool true)], args := [d1, d2] }
  | _ => none }
def fnSwitchesRow : OpenClaim := { program := "ytejnfngnofilfaa", sum := "d0228943c51f79f153acf6bbb6b1ee505021c3bb7da1925c17fcd63ea4a6a3e8", func := "loop.example/g01046/laws.FnSwitches", spec := "fnSwitches", apart := false }
def FnSwitchesSaid : Prop := fnSwitchesRow.holds Try.pinned (OpenSpec.ofChange fnSwitchesSpec)

/-- ITS FALSE NEIGHBOUR: 'it returns false'. Refute it at one input. -/
def fnSwitchesWrong : ChangeSpec := { name := "fnSwitches", fn := fun _ => fun
  | [d1, d2] => { results := [.lit (.bool false)], args := [d1, d2] }
  | _ => none }
def FnSwitchesWrongFalsely : Prop := fnSwitchesRow.holds Try.pinned (OpenSpec.ofChange fnSwitchesWrong)

/-- 'laws.FnExactFirstContrary': WHATEVER THE INPUT: true; the input reads as it did. -/
def fnExactFirstContrarySpec : ChangeSpec := { name := "fnExactFirstContrary", fn := fun _ => fun
  | [d1, d2] => { results := [.lit (.bool true)], args := [d1, d2] }
  | _ => none }
def fnExactFirstContraryRow : OpenClaim := { program := "ytejnfngnofilfaa", sum := "d0228943c51f79f153acf6bbb6b1ee505021c3bb7da1925c17fcd63ea4a6a3e8", func := "loop.example/g01046/laws.FnExactFirstContrary", spec := "fnExactFirstContrary", unfollowed := true, recurses := true, apart := false }
def FnExactFirstContrarySaid : Prop := fnExactFirstContraryRow.holds Try.pinned (OpenSpec.ofChange fnExactFirstContrarySpec)

/-- ITS FALSE NEIGHBOUR: 'it returns false'. Refute it at one input. -/
def fnExactFirstContraryWrong : ChangeSpec := { name := "fnExactFirstContrary", fn := fun _ => fun
  | [d1, d2] => { results := [.lit (.bool false)], args := [d1, d2] }
  | _ => none }
def FnExactFirstContraryWrongFalsely : Prop := fnExactFirstContraryRow.holds Try.pinned (OpenSpec.ofChange fnExactFirstContraryWrong)

/-- 'laws.FnExactLostExits': WHATEVER THE INPUT: true; the input reads as it did. -/
def fnExactLostExitsSpec : ChangeSpec := { name := "fnExactLostExits", fn := fun _ => fun
  | [d1, d2] => { results := [.lit (.bool true)], args := [d1, d2] }
  | _ => none }
def fnExactLostExitsRow : OpenClaim := { program := "ytejnfngnofilfaa", sum := "d0228943c51f79f153acf6bbb6b1ee505021c3bb7da1925c17fcd63ea4a6a3e8", func := "loop.example/g01046/laws.FnExactLostExits", spec := "fnExactLostExits", apart := false }
def FnExactLostExitsSaid : Prop := fnExactLostExitsRow.holds Try.pinned (OpenSpec.ofChange fnExactLostExitsSpec)

/-- ITS FALSE NEIGHBOUR: 'it returns false'. Refute it at one input. -/
def fnExactLostExitsWrong : ChangeSpec := { name := "fnExactLostExits", fn := fun _ => fun
  | [d1, d2] => { results := [.lit (.bool false)], args := [d1, d2] }
  | _ => none }
def FnExactLostExitsWrongFalsely : Prop := fnExactLostExitsRow.holds Try.pinned (OpenSpec.ofChange fnExactLostExitsWrong)

/-- 'laws.FnExactExplains': WHATEVER THE INPUT: true; the input reads as it did. -/
def fnExactExplainsSpec : ChangeSpec := { name := "fnExactExplains", fn := fun _ => fun
  | [d1, d2, d3] => { results := [.lit (.bool true)], args := [d1, d2, d3] }
  | _ => none }
def fnExactExplainsRow : OpenClaim := { program := "ytejnfngnofilfaa", sum := "d0228943c51f79f153acf6bbb6b1ee505021c3bb7da1925c17fcd63ea4a6a3e8", func := "loop.example/g01046/laws.FnExactExplains", spec := "fnExactExplains", unfollowed := true, recurses := true, apart := false }
def FnExactExplainsSaid : Prop := fnExactExplainsRow.holds Try.pinned (OpenSpec.ofChange fnExactExplainsSpec)

/-- ITS FALSE NEIGHBOUR: 'it returns false'. Refute it at one input. -/
def fnExactExplainsWrong : ChangeSpec := { name := "fnExactExplains", fn := fun _ => fun
  | [d1, d2, d3] => { results := [.lit (.bool false)], args := [d1, d2, d3] }
  | _ => none }
def FnExactExplainsWrongFalsely : Prop := fnExactExplainsRow.holds Try.pinned (OpenSpec.ofChange fnExactExplainsWrong)

/-- 'laws.FnExactKnownSwitches': WHATEVER THE INPUT: true; the input reads as it did. -/
def fnExactKnownSwitchesSpec : ChangeSpec := { name := "fnExactKnownSwitches", fn := fun _ => fun
  | [d1, d2] => { results := [.lit (.bool true)], args := [d1, d2] }
  | _ => none }
def fnExactKnownSwitchesRow : OpenClaim := { program := "ytejnfngnofilfaa", sum := "d0228943c51f79f153acf6bbb6b1ee505021c3bb7da1925c17fcd63ea4a6a3e8", func := "loop.example/g01046/laws.FnExactKnownSwitches", spec := "fnExactKnownSwitches", unfollowed := true, recurses := true, apart := false }
def FnExactKnownSwitchesSaid : Prop := fnExactKnownSwitchesRow.holds Try.pinned (OpenSpec.ofChange fnExactKnownSwitchesSpec)

/-- ITS FALSE NEIGHBOUR: 'it returns false'. Refute it at one input. -/
def fnExactKnownSwitchesWrong : ChangeSpec := { name := "fnExactKnownSwitches", fn := fun _ => fun
  | [d1, d2] => { results := [.lit (.bool false)], args := [d1, d2] }
  | _ => none }
def FnExactKnownSwitchesWrongFalsely : Prop := fnExactKnownSwitchesRow.holds Try.pinned (OpenSpec.ofChange fnExactKnownSwitchesWrong)

/-- 'laws.FnExactRunTrials': WHATEVER THE INPUT: true; the input reads as it did. -/
def fnExactRunTrialsSpec : ChangeSpec := { name := "fnExactRunTrials", fn := fun _ => fun
  | [d1, d2, d3] => { results := [.lit (.bool true)], args := [d1, d2, d3] }
  | _ => none }
def fnExactRunTrialsRow : OpenClaim := { program := "ytejnfngnofilfaa", sum := "d0228943c51f79f153acf6bbb6b1ee505021c3bb7da1925c17fcd63ea4a6a3e8", func := "loop.example/g01046/laws.FnExactRunTrials", spec := "fnExactRunTrials", unfollowed := true, recurses := true, apart := false }
def FnExactRunTrialsSaid : Prop := fnExactRunTrialsRow.holds Try.pinned (OpenSpec.ofChange fnExactRunTrialsSpec)

/-- ITS FALSE NEIGHBOUR: 'it returns false'. Refute it at one input. -/
def fnExactRunTrialsWrong : ChangeSpec := { name := "fnExactRunTrials", fn := fun _ => fun
  | [d1, d2, d3] => { results := [.lit (.bool false)], args := [d1, d2, d3] }
  | _ => none }
def FnExactRunTrialsWrongFalsely : Prop := fnExactRunTrialsRow.holds Try.pinned (OpenSpec.ofChange fnExactRunTrialsWrong)

/-- 'laws.FnExactFewestStuck': WHATEVER THE INPUT: true; the input reads as it did. -/
def fnExactFewestStuckSpec : ChangeSpec := { name := "fnExactFewestStuck", fn := fun _ => fun
  | [d1, d2] => { results := [.lit (.bool true)], args := [d1, d2] }
  | _ => none }
def fnExactFewestStuckRow : OpenClaim := { program := "ytejnfngnofilfaa", sum := "d0228943c51f79f153acf6bbb6b1ee505021c3bb7da1925c17fcd63ea4a6a3e8", func := "loop.example/g01046/laws.FnExactFewestStuck", spec := "fnExactFewestStuck", unfollowed := true, recurses := true, apart := false }
def FnExactFewestStuckSaid : Prop := fnExactFewestStuckRow.holds Try.pinned (OpenSpec.ofChange fnExactFewestStuckSpec)

/-- ITS FALSE NEIGHBOUR: 'it returns false'. Refute it at one input. -/
def fnExactFewestStuckWrong : ChangeSpec := { name := "fnExactFewestStuck", fn := fun _ => fun
  | [d1, d2] => { results := [.lit (.bool false)], args := [d1, d2] }
  | _ => none }
def FnExactFewestStuckWrongFalsely : Prop := fnExactFewestStuckRow.holds Try.pinned (OpenSpec.ofChange fnExactFewestStuckWrong)

/-- 'laws.FnExactNextAddress': WHATEVER THE INPUT: true; the input reads as it did. -/
def fnExactNextAddressSpec : ChangeSpec := { name := "fnExactNextAddress", fn := fun _ => fun
  | [d1, d2] => { results := [.lit (.bool true)], args := [d1, d2] }
  | _ => none }
def fnExactNextAddressRow : OpenClaim := { program := "ytejnfngnofilfaa", sum := "d0228943c51f79f153acf6bbb6b1ee505021c3bb7da1925c17fcd63ea4a6a3e8", func := "loop.example/g01046/laws.FnExactNextAddress", spec := "fnExactNextAddress", unfollowed := true, recurses := true, apart := false }
def FnExactNextAddressSaid : Prop := fnExactNextAddressRow.holds Try.pinned (OpenSpec.ofChange fnExactNextAddressSpec)

/-- ITS FALSE NEIGHBOUR: 'it returns false'. Refute it at one input. -/
def fnExactNextAddressWrong : ChangeSpec := { name := "fnExactNextAddress", fn := fun _ => fun
  | [d1, d2] => { results := [.lit (.bool false)], args := [d1, d2] }
  | _ => none }
def FnExactNextAddressWrongFalsely : Prop := fnExactNextAddressRow.holds Try.pinned (OpenSpec.ofChange fnExactNextAddressWrong)

/- THE SECOND FORM. 'bulk': how many values and letters a reading holds, each counted each time it is reached (what is shared counts as often as it is met; a slice's spare places count too). A statement '..UptoSaid' is the law's where the arguments, and the package variables that the reading takes, are together of bulk at most 1048576: NARROWER than '..Said'. Prove '..Said' where nothing that the law and all that it calls make is longer than what came in: it says more and counts as full. Else prove '..UptoSaid'. A law counts once. -/
mutual
def uptoBulk {H : Type} : DataW H → Nat
  | .lit (.string bytes) => bytes.length + 1
  | .lit _ => 1
  | .nil => 1
  | .ptr d => uptoBulk d + 1
  | .slice elems spare => uptoBulkAll elems + uptoBulkAll spare + 1
  | .agg parts => uptoBulkAll parts + 1
  | .iface _ d => uptoBulk d + 1
  | .map entries => uptoBulkEntries entries + 1
  | .held _ => 1
def uptoBulkAll {H : Type} : List (DataW H) → Nat
  | [] => 0
  | d :: r => uptoBulk d + uptoBulkAll r
def uptoBulkEntries {H : Type} : List (Lit × DataW H) → Nat
  | [] => 0
  | x :: r => uptoBulkEntry x + uptoBulkEntries r
def uptoBulkEntry {H : Type} : Lit × DataW H → Nat
  | (.string bytes, d) => bytes.length + uptoBulk d + 1
  | (_, d) => uptoBulk d + 1
 end
def uptoSmall : (H : Type) → List (DataW H) → Bool := fun _ ds => decide (uptoBulkAll ds ≤ 1048576)
def OpenSpec.upto (s : _root_.Go.ChangeSpec) : _root_.Go.OpenSpec := { _root_.Go.OpenSpec.ofChange s with cond := some uptoSmall }

/-- 'laws.FnExactValidStuck', WHERE WHAT IT READS IS OF BULK AT MOST 1048576: true; the input reads as it did. -/
def fnExactValidStuckUptoRow : OpenClaim := { program := "ytejnfngnofilfaa", sum := "d0228943c51f79f153acf6bbb6b1ee505021c3bb7da1925c17fcd63ea4a6a3e8", func := "loop.example/g01046/laws.FnExactValidStuck", spec := "fnExactValidStuck", apart := false, narrowed := true }
def FnExactValidStuckUptoSaid : Prop := fnExactValidStuckUptoRow.holds Try.pinned (OpenSpec.upto fnExactValidStuckSpec)

/-- 'laws.FnExactSwitchesTo', WHERE WHAT IT READS IS OF BULK AT MOST 1048576: true; the input reads as it did. -/
def fnExactSwitchesToUptoRow : OpenClaim := { program := "ytejnfngnofilfaa", sum := "d0228943c51f79f153acf6bbb6b1ee505021c3bb7da1925c17fcd63ea4a6a3e8", func := "loop.example/g01046/laws.FnExactSwitchesTo", spec := "fnExactSwitchesTo", apart := false, narrowed := true }
def FnExactSwitchesToUptoSaid : Prop := fnExactSwitchesToUptoRow.holds Try.pinned (OpenSpec.upto fnExactSwitchesToSpec)

/-- 'laws.FnExactValidTrials', WHERE WHAT IT READS IS OF BULK AT MOST 1048576: true; the input reads as it did. -/
def fnExactValidTrialsUptoRow : OpenClaim := { program := "ytejnfngnofilfaa", sum := "d0228943c51f79f153acf6bbb6b1ee505021c3bb7da1925c17fcd63ea4a6a3e8", func := "loop.example/g01046/laws.FnExactValidTrials", spec := "fnExactValidTrials", unfollowed := true, recurses := true, apart := false, narrowed := true }
def FnExactValidTrialsUptoSaid : Prop := fnExactValidTrialsUptoRow.holds Try.pinned (OpenSpec.upto fnExactValidTrialsSpec)

/-- 'laws.FnKnown', WHERE WHAT IT READS IS OF BULK AT MOST 1048576: true; the input reads as it did. -/
def fnKnownUptoRow : OpenClaim := { program := "ytejnfngnofilfaa", sum := "d0228943c51f79f153acf6bbb6b1ee505021c3bb7da1925c17fcd63ea4a6a3e8", func := "loop.example/g01046/laws.FnKnown", spec := "fnKnown", unfollowed := true, recurses := true, apart := false, narrowed := true }
def FnKnownUptoSaid : Prop := fnKnownUptoRow.holds Try.pinned (OpenSpec.upto fnKnownSpec)

/-- 'laws.FnExactExitOf', WHERE WHAT IT READS IS OF BULK AT MOST 1048576: true; the input reads as it did. -/
def fnExactExitOfUptoRow : OpenClaim := { program := "ytejnfngnofilfaa", sum := "d0228943c51f79f153acf6bbb6b1ee505021c3bb7da1925c17fcd63ea4a6a3e8", func := "loop.example/g01046/laws.FnExactExitOf", spec := "fnExactExitOf", apart := false, narrowed := true }
def FnExactExitOfUptoSaid : Prop := fnExactExitOfUptoRow.holds Try.pinned (OpenSpec.upto fnExactExitOfSpec)

/-- 'laws.FnSwitches', WHERE WHAT IT READS IS OF BULK AT MOST 1048576: true; the input reads as it did. -/
def fnSwitchesUptoRow : OpenClaim := { program := "ytejnfngnofilfaa", sum := "d0228943c51f79f153acf6bbb6b1ee505021c3bb7da1925c17fcd63ea4a6a3e8", func := "loop.example/g01046/laws.FnSwitches", spec := "fnSwitches", apart := false, narrowed := true }
def FnSwitchesUptoSaid : Prop := fnSwitchesUptoRow.holds Try.pinned (OpenSpec.upto fnSwitchesSpec)

/-- 'laws.FnExactFirstContrary', WHERE WHAT IT READS IS OF BULK AT MOST 1048576: true; the input reads as it did. -/
def fnExactFirstContraryUptoRow : OpenClaim := { program := "ytejnfngnofilfaa", sum := "d0228943c51f79f153acf6bbb6b1ee505021c3bb7da1925c17fcd63ea4a6a3e8", func := "loop.example/g01046/laws.FnExactFirstContrary", spec := "fnExactFirstContrary", unfollowed := true, recurses := true, apart := false, narrowed := true }
def FnExactFirstContraryUptoSaid : Prop := fnExactFirstContraryUptoRow.holds Try.pinned (OpenSpec.upto fnExactFirstContrarySpec)

/-- 'laws.FnExactLostExits', WHERE WHAT IT READS IS OF BULK AT MOST 1048576: true; the input reads as it did. -/
def fnExactLostExitsUptoRow : OpenClaim := { program := "ytejnfngnofilfaa", sum := "d0228943c51f79f153acf6bbb6b1ee505021c3bb7da1925c17fcd63ea4a6a3e8", func := "loop.example/g01046/laws.FnExactLostExits", spec := "fnExactLostExits", apart := false, narrowed := true }
def FnExactLostExitsUptoSaid : Prop := fnExactLostExitsUptoRow.holds Try.pinned (OpenSpec.upto fnExactLostExitsSpec)

/-- 'laws.FnExactExplains', WHERE WHAT IT READS IS OF BULK AT MOST 1048576: true; the input reads as it did. -/
def fnExactExplainsUptoRow : OpenClaim := { program := "ytejnfngnofilfaa", sum := "d0228943c51f79f153acf6bbb6b1ee505021c3bb7da1925c17fcd63ea4a6a3e8", func := "loop.example/g01046/laws.FnExactExplains", spec := "fnExactExplains", unfollowed := true, recurses := true, apart := false, narrowed := true }
def FnExactExplainsUptoSaid : Prop := fnExactExplainsUptoRow.holds Try.pinned (OpenSpec.upto fnExactExplainsSpec)

/-- 'laws.FnExactKnownSwitches', WHERE WHAT IT READS IS OF BULK AT MOST 1048576: true; the input reads as it did. -/
def fnExactKnownSwitchesUptoRow : OpenClaim := { program := "ytejnfngnofilfaa", sum := "d0228943c51f79f153acf6bbb6b1ee505021c3bb7da1925c17fcd63ea4a6a3e8", func := "loop.example/g01046/laws.FnExactKnownSwitches", spec := "fnExactKnownSwitches", unfollowed := true, recurses := true, apart := false, narrowed := true }
def FnExactKnownSwitchesUptoSaid : Prop := fnExactKnownSwitchesUptoRow.holds Try.pinned (OpenSpec.upto fnExactKnownSwitchesSpec)

/-- 'laws.FnExactRunTrials', WHERE WHAT IT READS IS OF BULK AT MOST 1048576: true; the input reads as it did. -/
def fnExactRunTrialsUptoRow : OpenClaim := { program := "ytejnfngnofilfaa", sum := "d0228943c51f79f153acf6bbb6b1ee505021c3bb7da1925c17fcd63ea4a6a3e8", func := "loop.example/g01046/laws.FnExactRunTrials", spec := "fnExactRunTrials", unfollowed := true, recurses := true, apart := false, narrowed := true }
def FnExactRunTrialsUptoSaid : Prop := fnExactRunTrialsUptoRow.holds Try.pinned (OpenSpec.upto fnExactRunTrialsSpec)

/-- 'laws.FnExactFewestStuck', WHERE WHAT IT READS IS OF BULK AT MOST 1048576: true; the input reads as it did. -/
def fnExactFewestStuckUptoRow : OpenClaim := { program := "ytejnfngnofilfaa", sum := "d0228943c51f79f153acf6bbb6b1ee505021c3bb7da1925c17fcd63ea4a6a3e8", func := "loop.example/g01046/laws.FnExactFewestStuck", spec := "fnExactFewestStuck", unfollowed := true, recurses := true, apart := false, narrowed := true }
def FnExactFewestStuckUptoSaid : Prop := fnExactFewestStuckUptoRow.holds Try.pinned (OpenSpec.upto fnExactFewestStuckSpec)

/-- 'laws.FnExactNextAddress', WHERE WHAT IT READS IS OF BULK AT MOST 1048576: true; the input reads as it did. -/
def fnExactNextAddressUptoRow : OpenClaim := { program := "ytejnfngnofilfaa", sum := "d0228943c51f79f153acf6bbb6b1ee505021c3bb7da1925c17fcd63ea4a6a3e8", func := "loop.example/g01046/laws.FnExactNextAddress", spec := "fnExactNextAddress", unfollowed := true, recurses := true, apart := false, narrowed := true }
def FnExactNextAddressUptoSaid : Prop := fnExactNextAddressUptoRow.holds Try.pinned (OpenSpec.upto fnExactNextAddressSpec)

end Rows
end Go.Proofs.Ytejnfngnofilfaa

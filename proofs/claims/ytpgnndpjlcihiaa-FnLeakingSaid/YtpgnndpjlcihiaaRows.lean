/-
  No cell of these rows narrows 'for every input' (looked for: loops, veiled, ifaces, maps, wideKeys, modest, calm, conditions, laid).
  DERIVED. THE GIVEN ROWS OF THIS SEAT. 12 by the template 'for every input the law returns true; each argument reads behind the call as it read before'; 0 by the template 'total and deterministic' (their statements: YtpgnndpjlcihiaaTotals.lean).
  GIVEN WITH THE SEED: the statements are not yours to turn. If you find one false, say at which input.
  Laid BY PROGRAM, IN A SANDBOX (cutbox-rows.mjs): the forced cells as the released guide's own fill.sh prints them over the translation d741b9cb0e8cfbbc… (all of the seat's roots in one cut). By AI agents, Wed Nov 11 2026. No macro, syntax, notation, axiom, sorry.
-/
import Derived.Test.YtpgnndpjlcihiaaChecked
import GoSem.Claim
import GoSem.ClaimJoined
import GoSem.ClaimMapViews
import Derived.JoinedTies
import Derived.KernelRfl
namespace Go.Proofs.Ytpgnndpjlcihiaa
/- THE CELL 'sum', in the pinned program and in every row, IS THE sha256 OF THE DUMP (.gsa) THAT YtpgnndpjlcihiaaProg.lean LOADS. Nothing in Lean hashes anything: it is a label: what it is worth is what the hold of that sum in a sandbox is worth. -/
noncomputable def Try.pinned : Pinned := { name := "ytpgnndpjlcihiaa", sum := "d741b9cb0e8cfbbc86a84c7e2c930cf5032376bea945086e3887f35f0d3e2099", checked := Try.checked }
namespace Rows
def none {H : Type} : Left H := { results := [], args := [] }

/-- 'laws.FnExactSameLosses': WHATEVER THE INPUT: true; the input reads as it did. -/
def fnExactSameLossesSpec : ChangeSpec := { name := "fnExactSameLosses", fn := fun _ => fun
  | [d1, d2] => { results := [.lit (.bool true)], args := [d1, d2] }
  | _ => none }
def fnExactSameLossesRow : OpenClaim := { program := "ytpgnndpjlcihiaa", sum := "d741b9cb0e8cfbbc86a84c7e2c930cf5032376bea945086e3887f35f0d3e2099", func := "loop.example/g01046/laws.FnExactSameLosses", spec := "fnExactSameLosses", apart := false }
def FnExactSameLossesSaid : Prop := fnExactSameLossesRow.holds Try.pinned (OpenSpec.ofChange fnExactSameLossesSpec)

/-- ITS FALSE NEIGHBOUR: 'it returns false'. Refute it at one input. -/
def fnExactSameLossesWrong : ChangeSpec := { name := "fnExactSameLosses", fn := fun _ => fun
  | [d1, d2] => { results := [.lit (.bool false)], args := [d1, d2] }
  | _ => none }
def FnExactSameLossesWrongFalsely : Prop := fnExactSameLossesRow.holds Try.pinned (OpenSpec.ofChange fnExactSameLossesWrong)

/-- 'laws.FnExactValidLosses': WHATEVER THE INPUT: true; the input reads as it did. -/
def fnExactValidLossesSpec : ChangeSpec := { name := "fnExactValidLosses", fn := fun _ => fun
  | [d1, d2] => { results := [.lit (.bool true)], args := [d1, d2] }
  | _ => none }
def fnExactValidLossesRow : OpenClaim := { program := "ytpgnndpjlcihiaa", sum := "d741b9cb0e8cfbbc86a84c7e2c930cf5032376bea945086e3887f35f0d3e2099", func := "loop.example/g01046/laws.FnExactValidLosses", spec := "fnExactValidLosses", unfollowed := true, recurses := true, apart := false }
def FnExactValidLossesSaid : Prop := fnExactValidLossesRow.holds Try.pinned (OpenSpec.ofChange fnExactValidLossesSpec)

/-- ITS FALSE NEIGHBOUR: 'it returns false'. Refute it at one input. -/
def fnExactValidLossesWrong : ChangeSpec := { name := "fnExactValidLosses", fn := fun _ => fun
  | [d1, d2] => { results := [.lit (.bool false)], args := [d1, d2] }
  | _ => none }
def FnExactValidLossesWrongFalsely : Prop := fnExactValidLossesRow.holds Try.pinned (OpenSpec.ofChange fnExactValidLossesWrong)

/-- 'laws.FnExactLeaksExplain': WHATEVER THE INPUT: true; the input reads as it did. -/
def fnExactLeaksExplainSpec : ChangeSpec := { name := "fnExactLeaksExplain", fn := fun _ => fun
  | [d1, d2, d3] => { results := [.lit (.bool true)], args := [d1, d2, d3] }
  | _ => none }
def fnExactLeaksExplainRow : OpenClaim := { program := "ytpgnndpjlcihiaa", sum := "d741b9cb0e8cfbbc86a84c7e2c930cf5032376bea945086e3887f35f0d3e2099", func := "loop.example/g01046/laws.FnExactLeaksExplain", spec := "fnExactLeaksExplain", unfollowed := true, recurses := true, apart := false }
def FnExactLeaksExplainSaid : Prop := fnExactLeaksExplainRow.holds Try.pinned (OpenSpec.ofChange fnExactLeaksExplainSpec)

/-- ITS FALSE NEIGHBOUR: 'it returns false'. Refute it at one input. -/
def fnExactLeaksExplainWrong : ChangeSpec := { name := "fnExactLeaksExplain", fn := fun _ => fun
  | [d1, d2, d3] => { results := [.lit (.bool false)], args := [d1, d2, d3] }
  | _ => none }
def FnExactLeaksExplainWrongFalsely : Prop := fnExactLeaksExplainRow.holds Try.pinned (OpenSpec.ofChange fnExactLeaksExplainWrong)

/-- 'laws.FnExactLossesAgree': WHATEVER THE INPUT: true; the input reads as it did. -/
def fnExactLossesAgreeSpec : ChangeSpec := { name := "fnExactLossesAgree", fn := fun _ => fun
  | [d1, d2] => { results := [.lit (.bool true)], args := [d1, d2] }
  | _ => none }
def fnExactLossesAgreeRow : OpenClaim := { program := "ytpgnndpjlcihiaa", sum := "d741b9cb0e8cfbbc86a84c7e2c930cf5032376bea945086e3887f35f0d3e2099", func := "loop.example/g01046/laws.FnExactLossesAgree", spec := "fnExactLossesAgree", unfollowed := true, recurses := true, apart := false }
def FnExactLossesAgreeSaid : Prop := fnExactLossesAgreeRow.holds Try.pinned (OpenSpec.ofChange fnExactLossesAgreeSpec)

/-- ITS FALSE NEIGHBOUR: 'it returns false'. Refute it at one input. -/
def fnExactLossesAgreeWrong : ChangeSpec := { name := "fnExactLossesAgree", fn := fun _ => fun
  | [d1, d2] => { results := [.lit (.bool false)], args := [d1, d2] }
  | _ => none }
def FnExactLossesAgreeWrongFalsely : Prop := fnExactLossesAgreeRow.holds Try.pinned (OpenSpec.ofChange fnExactLossesAgreeWrong)

/-- 'laws.FnExactFirstOdd': WHATEVER THE INPUT: true; the input reads as it did. -/
def fnExactFirstOddSpec : ChangeSpec := { name := "fnExactFirstOdd", fn := fun _ => fun
  | [d1, d2] => { results := [.lit (.bool true)], args := [d1, d2] }
  | _ => none }
def fnExactFirstOddRow : OpenClaim := { program := "ytpgnndpjlcihiaa", sum := "d741b9cb0e8cfbbc86a84c7e2c930cf5032376bea945086e3887f35f0d3e2099", func := "loop.example/g01046/laws.FnExactFirstOdd", spec := "fnExactFirstOdd", unfollowed := true, recurses := true, apart := false }
def FnExactFirstOddSaid : Prop := fnExactFirstOddRow.holds Try.pinned (OpenSpec.ofChange fnExactFirstOddSpec)

/-- ITS FALSE NEIGHBOUR: 'it returns false'. Refute it at one input. -/
def fnExactFirstOddWrong : ChangeSpec := { name := "fnExactFirstOdd", fn := fun _ => fun
  | [d1, d2] => { results := [.lit (.bool false)], args := [d1, d2] }
  | _ => none }
def FnExactFirstOddWrongFalsely : Prop := fnExactFirstOddRow.holds Try.pinned (OpenSpec.ofChange fnExactFirstOddWrong)

/-- 'laws.FnExactLeakBounds': WHATEVER THE INPUT: true; the input reads as it did. -/
def fnExactLeakBoundsSpec : ChangeSpec := { name := "fnExactLeakBounds", fn := fun _ => fun
  | [d1, d2, d3] => { results := [.lit (.bool true)], args := [d1, d2, d3] }
  | _ => none }
def fnExactLeakBoundsRow : OpenClaim := { program := "ytpgnndpjlcihiaa", sum := "d741b9cb0e8cfbbc86a84c7e2c930cf5032376bea945086e3887f35f0d3e2099", func := "loop.example/g01046/laws.FnExactLeakBounds", spec := "fnExactLeakBounds", unfollowed := true, recurses := true, apart := false }
def FnExactLeakBoundsSaid : Prop := fnExactLeakBoundsRow.holds Try.pinned (OpenSpec.ofChange fnExactLeakBoundsSpec)

/-- ITS FALSE NEIGHBOUR: 'it returns false'. Refute it at one input. -/
def fnExactLeakBoundsWrong : ChangeSpec := { name := "fnExactLeakBounds", fn := fun _ => fun
  | [d1, d2, d3] => { results := [.lit (.bool false)], args := [d1, d2, d3] }
  | _ => none }
def FnExactLeakBoundsWrongFalsely : Prop := fnExactLeakBoundsRow.holds Try.pinned (OpenSpec.ofChange fnExactLeakBoundsWrong)

/-- 'laws.FnExactAddLoss': WHATEVER THE INPUT: true; the input reads as it did. -/
def fnExactAddLossSpec : ChangeSpec := { name := "fnExactAddLoss", fn := fun _ => fun
  | [d1, d2, d3] => { results := [.lit (.bool true)], args := [d1, d2, d3] }
  | _ => none }
def fnExactAddLossRow : OpenClaim := { program := "ytpgnndpjlcihiaa", sum := "d741b9cb0e8cfbbc86a84c7e2c930cf5032376bea945086e3887f35f0d3e2099", func := "loop.example/g01046/laws.FnExactAddLoss", spec := "fnExactAddLoss", unfollowed := true, recurses := true, apart := false }
def FnExactAddLossSaid : Prop := fnExactAddLossRow.holds Try.pinned (OpenSpec.ofChange fnExactAddLossSpec)

/-- ITS FALSE NEIGHBOUR: 'it returns false'. Refute it at one input. -/
def fnExactAddLossWrong : ChangeSpec := { name := "fnExactAddLoss", fn := fun _ => fun
  | [d1, d2, d3] => { results := [.lit (.bool false)], args := [d1, d2, d3] }
  | _ => none }
def FnExactAddLossWrongFalsely : Prop := fnExactAddLossRow.holds Try.pinned (OpenSpec.ofChange fnExactAddLossWrong)

/-- 'laws.FnExactLateLeaks': WHATEVER THE INPUT: true; the input reads as it did. -/
def fnExactLateLeaksSpec : ChangeSpec := { name := "fnExactLateLeaks", fn := fun _ => fun
  | [d1, d2] => { results := [.lit (.bool true)], args := [d1, d2] }
  | _ => none }
def fnExactLateLeaksRow : OpenClaim := { program := "ytpgnndpjlcihiaa", sum := "d741b9cb0e8cfbbc86a84c7e2c930cf5032376bea945086e3887f35f0d3e2099", func := "loop.example/g01046/laws.FnExactLateLeaks", spec := "fnExactLateLeaks", unfollowed := true, recurses := true, apart := false }
def FnExactLateLeaksSaid : Prop := fnExactLateLeaksRow.holds Try.pinned (OpenSpec.ofChange fnExactLateLeaksSpec)

/-- ITS FALSE NEIGHBOUR: 'it returns false'. Refute it at one input. -/
def fnExactLateLeaksWrong : ChangeSpec := { name := "fnExactLateLeaks", fn := fun _ => fun
  | [d1, d2] => { results := [.lit (.bool false)], args := [d1, d2] }
  | _ => none }
def FnExactLateLeaksWrongFalsely : Prop := fnExactLateLeaksRow.holds Try.pinned (OpenSpec.ofChange fnExactLateLeaksWrong)

/-- 'laws.FnExactSureLeaks': WHATEVER THE INPUT: true; the input reads as it did. -/
def fnExactSureLeaksSpec : ChangeSpec := { name := "fnExactSureLeaks", fn := fun _ => fun
  | [d1, d2] => { results := [.lit (.bool true)], args := [d1, d2] }
  | _ => none }
def fnExactSureLeaksRow : OpenClaim := { program := "ytpgnndpjlcihiaa", sum := "d741b9cb0e8cfbbc86a84c7e2c930cf5032376bea945086e3887f35f0d3e2099", func := "loop.example/g01046/laws.FnExactSureLeaks", spec := "fnExactSureLeaks", unfollowed := true, recurses := true, apart := false }
def FnExactSureLeaksSaid : Prop := fnExactSureLeaksRow.holds Try.pinned (OpenSpec.ofChange fnExactSureLeaksSpec)

/-- ITS FALSE NEIGHBOUR: 'it returns false'. Refute it at one input. -/
def fnExactSureLeaksWrong : ChangeSpec := { name := "fnExactSureLeaks", fn := fun _ => fun
  | [d1, d2] => { results := [.lit (.bool false)], args := [d1, d2] }
  | _ => none }
def FnExactSureLeaksWrongFalsely : Prop := fnExactSureLeaksRow.holds Try.pinned (OpenSpec.ofChange fnExactSureLeaksWrong)

/-- 'laws.FnExactTightSections': WHATEVER THE INPUT: true; the input reads as it did. -/
def fnExactTightSectionsSpec : ChangeSpec := { name := "fnExactTightSections", fn := fun _ => fun
  | [d1, d2] => { results := [.lit (.bool true)], args := [d1, d2] }
  | _ => none }
def fnExactTightSectionsRow : OpenClaim := { program := "ytpgnndpjlcihiaa", sum := "d741b9cb0e8cfbbc86a84c7e2c930cf5032376bea945086e3887f35f0d3e2099", func := "loop.example/g01046/laws.FnExactTightSections", spec := "fnExactTightSections", unfollowed := true, recurses := true, apart := false }
def FnExactTightSectionsSaid : Prop := fnExactTightSectionsRow.holds Try.pinned (OpenSpec.ofChange fnExactTightSectionsSpec)

/-- ITS FALSE NEIGHBOUR: 'it returns false'. Refute it at one input. -/
def fnExactTightSectionsWrong : ChangeSpec := { name := "fnExactTightSections", fn := fun _ => fun
  | [d1, d2] => { results := [.lit (.bool false)], args := [d1, d2] }
  | _ => none }
def FnExactTightSectionsWrongFalsely : Prop := fnExactTightSectionsRow.holds Try.pinned (OpenSpec.ofChange fnExactTightSectionsWrong)

/-- 'laws.FnExactFewestLeaks': WHATEVER THE INPUT: true; the input reads as it did. -/
def fnExactFewestLeaksSpec : ChangeSpec := { name := "fnExactFewestLeaks", fn := fun _ => fun
  | [d1, d2] => { results := [.lit (.bool true)], args := [d1, d2] }
  | _ => none }
def fnExactFewestLeaksRow : OpenClaim := { program := "ytpgnndpjlcihiaa", sum := "d741b9cb0e8cfbbc86a84c7e2c930cf5032376bea945086e3887f35f0d3e2099", func := "loop.example/g01046/laws.FnExactFewestLeaks", spec := "fnExactFewestLeaks", unfollowed := true, recurses := true, apart := false }
def FnExactFewestLeaksSaid : Prop := fnExactFewestLeaksRow.holds Try.pinned (OpenSpec.ofChange fnExactFewestLeaksSpec)

/-- ITS FALSE NEIGHBOUR: 'it returns false'. Refute it at one input. -/
def fnExactFewestLeaksWrong : ChangeSpec := { name := "fnExactFewestLeaks", fn := fun _ => fun
  | [d1, d2] => { results := [.lit (.bool false)], args := [d1, d2] }
  | _ => none }
def FnExactFewestLeaksWrongFalsely : Prop := fnExactFewestLeaksRow.holds Try.pinned (OpenSpec.ofChange fnExactFewestLeaksWrong)

/-- 'laws.FnLeaking': WHATEVER THE INPUT: true; the input reads as it did. -/
def fnLeakingSpec : ChangeSpec := { name := "fnLeaking", fn := fun _ => fun
  | [d] => { results := [.lit (.bool true)], args := [d] }
  | _ => none }
def fnLeakingRow : OpenClaim := { program := "ytpgnndpjlcihiaa", sum := "d741b9cb0e8cfbbc86a84c7e2c930cf5032376bea945086e3887f35f0d3e2099", func := "loop.example/g01046/laws.FnLeaking", spec := "fnLeaking", unfollowed := true, recurses := true, apart := false }
def FnLeakingSaid : Prop := fnLeakingRow.holds Try.pinned (OpenSpec.ofChange fnLeakingSpec)

/-- ITS FALSE NEIGHBOUR: 'it returns false'. Refute it at one input. -/
def fnLeakingWrong : ChangeSpec := { name := "fnLeaking", fn := fun _ => fun
  | [d] => { results := [.lit (.bool false)], args := [d] }
  | _ => none }
def FnLeakingWrongFalsely : Prop := fnLeakingRow.holds Try.pinned (OpenSpec.ofChange fnLeakingWrong)

/- THE SECOND FORM. 'bulk': how many values and letters a reading holds, each counted each time it is reached (what is shared counts as often as it is met; a slice's spare places count too). A statement '..UptoSaid' is the law's where the arguments, and the package variables that the reading takes, are together of bulk at most 1048576: NARROWER than '..Said'. Prove '..Said' where nothing that the law and all that it calls make is longer than what came in: it says more and counts as full. Else prove '..UptoSaid'. A law counts once. -/
mutual
def uptoBulk {H : Type} : DataW H → Nat
  | .lit (.string bytes) => bytes.length + 1
  | .lit _ => 1
  | .nil => 1
  | .ptr d => uptoBulk d + 1
  | .slice elems spare => uptoBulkAll elems + uptoBulkAll spare + 1
  | .agg parts => uptoBulkAll parts + 1
  | .iface _ d => uptoBulk d + 1
  | .map entries => uptoBulkEntries entries + 1
  | .held _ => 1
def uptoBulkAll {H : Type} : List (DataW H) → Nat
  | [] => 0
  | d :: r => uptoBulk d + uptoBulkAll r
def uptoBulkEntries {H : Type} : List (Lit × DataW H) → Nat
  | [] => 0
  | x :: r => uptoBulkEntry x + uptoBulkEntries r
def uptoBulkEntry {H : Type} : Lit × DataW H → Nat
  | (.string bytes, d) => bytes.length + uptoBulk d + 1
  | (_, d) => uptoBulk d + 1
 end
def uptoSmall : (H : Type) → List (DataW H) → Bool := fun _ ds => decide (uptoBulkAll ds ≤ 1048576)
def OpenSpec.upto (s : _root_.Go.ChangeSpec) : _root_.Go.OpenSpec := { _root_.Go.OpenSpec.ofChange s with cond := some uptoSmall }

/-- 'laws.FnExactSameLosses', WHERE WHAT IT READS IS OF BULK AT MOST 1048576: true; the input reads as it did. -/
def fnExactSameLossesUptoRow : OpenClaim := { program := "ytpgnndpjlcihiaa", sum := "d741b9cb0e8cfbbc86a84c7e2c930cf5032376bea945086e3887f35f0d3e2099", func := "loop.example/g01046/laws.FnExactSameLosses", spec := "fnExactSameLosses", apart := false, narrowed := true }
def FnExactSameLossesUptoSaid : Prop := fnExactSameLossesUptoRow.holds Try.pinned (OpenSpec.upto fnExactSameLossesSpec)

/-- 'laws.FnExactValidLosses', WHERE WHAT IT READS IS OF BULK AT MOST 1048576: true; the input reads as it did. -/
def fnExactValidLossesUptoRow : OpenClaim := { program := "ytpgnndpjlcihiaa", sum := "d741b9cb0e8cfbbc86a84c7e2c930cf5032376bea945086e3887f35f0d3e2099", func := "loop.example/g01046/laws.FnExactValidLosses", spec := "fnExactValidLosses", unfollowed := true, recurses := true, apart := false, narrowed := true }
def FnExactValidLossesUptoSaid : Prop := fnExactValidLossesUptoRow.holds Try.pinned (OpenSpec.upto fnExactValidLossesSpec)

/-- 'laws.FnExactLeaksExplain', WHERE WHAT IT READS IS OF BULK AT MOST 1048576: true; the input reads as it did. -/
def fnExactLeaksExplainUptoRow : OpenClaim := { program := "ytpgnndpjlcihiaa", sum := "d741b9cb0e8cfbbc86a84c7e2c930cf5032376bea945086e3887f35f0d3e2099", func := "loop.example/g01046/laws.FnExactLeaksExplain", spec := "fnExactLeaksExplain", unfollowed := true, recurses := true, apart := false, narrowed := true }
def FnExactLeaksExplainUptoSaid : Prop := fnExactLeaksExplainUptoRow.holds Try.pinned (OpenSpec.upto fnExactLeaksExplainSpec)

/-- 'laws.FnExactLossesAgree', WHERE WHAT IT READS IS OF BULK AT MOST 1048576: true; the input reads as it did. -/
def fnExactLossesAgreeUptoRow : OpenClaim := { program := "ytpgnndpjlcihiaa", sum := "d741b9cb0e8cfbbc86a84c7e2c930cf5032376bea945086e3887f35f0d3e2099", func := "loop.example/g01046/laws.FnExactLossesAgree", spec := "fnExactLossesAgree", unfollowed := true, recurses := true, apart := false, narrowed := true }
def FnExactLossesAgreeUptoSaid : Prop := fnExactLossesAgreeUptoRow.holds Try.pinned (OpenSpec.upto fnExactLossesAgreeSpec)

/-- 'laws.FnExactFirstOdd', WHERE WHAT IT READS IS OF BULK AT MOST 1048576: true; the input reads as it did. -/
def fnExactFirstOddUptoRow : OpenClaim := { program := "ytpgnndpjlcihiaa", sum := "d741b9cb0e8cfbbc86a84c7e2c930cf5032376bea945086e3887f35f0d3e2099", func := "loop.example/g01046/laws.FnExactFirstOdd", spec := "fnExactFirstOdd", unfollowed := true, recurses := true, apart := false, narrowed := true }
def FnExactFirstOddUptoSaid : Prop := fnExactFirstOddUptoRow.holds Try.pinned (OpenSpec.upto fnExactFirstOddSpec)

/-- 'laws.FnExactLeakBounds', WHERE WHAT IT READS IS OF BULK AT MOST 1048576: true; the input reads as it did. -/
def fnExactLeakBoundsUptoRow : OpenClaim := { program := "ytpgnndpjlcihiaa", sum := "d741b9cb0e8cfbbc86a84c7e2c930cf5032376bea945086e3887f35f0d3e2099", func := "loop.example/g01046/laws.FnExactLeakBounds", spec := "fnExactLeakBounds", unfollowed := true, recurses := true, apart := false, narrowed := true }
def FnExactLeakBoundsUptoSaid : Prop := fnExactLeakBoundsUptoRow.holds Try.pinned (OpenSpec.upto fnExactLeakBoundsSpec)

/-- 'laws.FnExactAddLoss', WHERE WHAT IT READS IS OF BULK AT MOST 1048576: true; the input reads as it did. -/
def fnExactAddLossUptoRow : OpenClaim := { program := "ytpgnndpjlcihiaa", sum := "d741b9cb0e8cfbbc86a84c7e2c930cf5032376bea945086e3887f35f0d3e2099", func := "loop.example/g01046/laws.FnExactAddLoss", spec := "fnExactAddLoss", unfollowed := true, recurses := true, apart := false, narrowed := true }
def FnExactAddLossUptoSaid : Prop := fnExactAddLossUptoRow.holds Try.pinned (OpenSpec.upto fnExactAddLossSpec)

/-- 'laws.FnExactLateLeaks', WHERE WHAT IT READS IS OF BULK AT MOST 1048576: true; the input reads as it did. -/
def fnExactLateLeaksUptoRow : OpenClaim := { program := "ytpgnndpjlcihiaa", sum := "d741b9cb0e8cfbbc86a84c7e2c930cf5032376bea945086e3887f35f0d3e2099", func := "loop.example/g01046/laws.FnExactLateLeaks", spec := "fnExactLateLeaks", unfollowed := true, recurses := true, apart := false, narrowed := true }
def FnExactLateLeaksUptoSaid : Prop := fnExactLateLeaksUptoRow.holds Try.pinned (OpenSpec.upto fnExactLateLeaksSpec)

/-- 'laws.FnExactSureLeaks', WHERE WHAT IT READS IS OF BULK AT MOST 1048576: true; the input reads as it did. -/
def fnExactSureLeaksUptoRow : OpenClaim := { program := "ytpgnndpjlcihiaa", sum := "d741b9cb0e8cfbbc86a84c7e2c930cf5032376bea945086e3887f35f0d3e2099", func := "loop.example/g01046/laws.FnExactSureLeaks", spec := "fnExactSureLeaks", unfollowed := true, recurses := true, apart := false, narrowed := true }
def FnExactSureLeaksUptoSaid : Prop := fnExactSureLeaksUptoRow.holds Try.pinned (OpenSpec.upto fnExactSureLeaksSpec)

/-- 'laws.FnExactTightSections', WHERE WHAT IT READS IS OF BULK AT MOST 1048576: true; the input reads as it did. -/
def fnExactTightSectionsUptoRow : OpenClaim := { program := "ytpgnndpjlcihiaa", sum := "d741b9cb0e8cfbbc86a84c7e2c930cf5032376bea945086e3887f35f0d3e2099", func := "loop.example/g01046/laws.FnExactTightSections", spec := "fnExactTightSections", unfollowed := true, recurses := true, apart := false, narrowed := true }
def FnExactTightSectionsUptoSaid : Prop := fnExactTightSectionsUptoRow.holds Try.pinned (OpenSpec.upto fnExactTightSectionsSpec)

/-- 'laws.FnExactFewestLeaks', WHERE WHAT IT READS IS OF BULK AT MOST 1048576: true; the input reads as it did. -/
def fnExactFewestLeaksUptoRow : OpenClaim := { program := "ytpgnndpjlcihiaa", sum := "d741b9cb0e8cfbbc86a84c7e2c930cf5032376bea945086e3887f35f0d3e2099", func := "loop.example/g01046/laws.FnExactFewestLeaks", spec := "fnExactFewestLeaks", unfollowed := true, recurses := true, apart := false, narrowed := true }
def FnExactFewestLeaksUptoSaid : Prop := fnExactFewestLeaksUptoRow.holds Try.pinned (OpenSpec.upto fnExactFewestLeaksSpec)

/-- 'laws.FnLeaking', WHERE WHAT IT READS IS OF BULK AT MOST 1048576: true; the input reads as it did. -/
def fnLeakingUptoRow : OpenClaim := { program := "ytpgnndpjlcihiaa", sum := "d741b9cb0e8cfbbc86a84c7e2c930cf5032376bea945086e3887f35f0d3e2099", func := "loop.example/g01046/laws.FnLeaking", spec := "fnLeaking", unfollowed := true, recurses := true, apart := false, narrowed := true }
def FnLeakingUptoSaid : Prop := fnLeakingUptoRow.holds Try.pinned (OpenSpec.upto fnLeakingSpec)

end Rows
end Go.Proofs.Ytpgnndpjlcihiaa

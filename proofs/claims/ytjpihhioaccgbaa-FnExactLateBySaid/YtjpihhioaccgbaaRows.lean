/-
  No cell of these rows narrows 'for every input' (looked for: loops, veiled, ifaces, maps, wideKeys, modest, calm, conditions, laid).
  DERIVED. THE GIVEN ROWS OF THIS SEAT. 5 by the template 'for every input the law returns true; each argument reads behind the call as it read before'; 0 by the template 'total and deterministic' (their statements: YtjpihhioaccgbaaTotals.lean).
  GIVEN WITH THE SEED: the statements are not yours to turn. If you find one false, say at which input.
  Laid BY PROGRAM, IN A SANDBOX (cutbox-rows.mjs): the forced cells as the released guide's own fill.sh prints them over the translation 0bd19267c21448b3… (all of the seat's roots in one cut). By AI agents, Wed Nov 11 2026. No macro, syntax, notation, axiom, sorry.
-/
import Derived.Test.YtjpihhioaccgbaaChecked
import GoSem.Claim
import GoSem.ClaimJoined
import GoSem.ClaimMapViews
import Derived.JoinedTies
import Derived.KernelRfl
namespace Go.Proofs.Ytjpihhioaccgbaa
/- THE CELL 'sum', in the pinned program and in every row, IS THE sha256 OF THE DUMP (.gsa) THAT YtjpihhioaccgbaaProg.lean LOADS. Nothing in Lean hashes anything: it is a label: what it is worth is what the hold of that sum in a sandbox is worth. -/
noncomputable def Try.pinned : Pinned := { name := "ytjpihhioaccgbaa", sum := "0bd19267c21448b3d15bb674552a0876edfe85016f6e3fc39d3638e25f7a7137", checked := Try.checked }
namespace Rows
def none {H : Type} : Left H := { results := [], args := [] }

/-- 'laws.FnExactSamePoints': WHATEVER THE INPUT: true; the input reads as it did. -/
def fnExactSamePointsSpec : ChangeSpec := { name := "fnExactSamePoints", fn := fun _ => fun
  | [d1, d2] => { results := [.lit (.bool true)], args := [d1, d2] }
  | _ => none }
def fnExactSamePointsRow : OpenClaim := { program := "ytjpihhioaccgbaa", sum := "0bd19267c21448b3d15bb674552a0876edfe85016f6e3fc39d3638e25f7a7137", func := "loop.example/g01046/laws.FnExactSamePoints", spec := "fnExactSamePoints", apart := false }
def FnExactSamePointsSaid : Prop := fnExactSamePointsRow.holds Try.pinned (OpenSpec.ofChange fnExactSamePointsSpec)

/-- ITS FALSE NEIGHBOUR: 'it returns false'. Refute it at one input. -/
def fnExactSamePointsWrong : ChangeSpec := { name := "fnExactSamePoints", fn := fun _ => fun
  | [d1, d2] => { results := [.lit (.bool false)], args := [d1, d2] }
  | _ => none }
def FnExactSamePointsWrongFalsely : Prop := fnExactSamePointsRow.holds Try.pinned (OpenSpec.ofChange fnExactSamePointsWrong)

/-- 'laws.FnExactValidPoints': WHATEVER THE INPUT: true; the input reads as it did. -/
def fnExactValidPointsSpec : ChangeSpec := { name := "fnExactValidPoints", fn := fun _ => fun
  | [d] => { results := [.lit (.bool true)], args := [d] }
  | _ => none }
def fnExactValidPointsRow : OpenClaim := { program := "ytjpihhioaccgbaa", sum := "0bd19267c21448b3d15bb674552a0876edfe85016f6e3fc39d3638e25f7a7137", func := "loop.example/g01046/laws.FnExactValidPoints", spec := "fnExactValidPoints", unfollowed := true, recurses := true, apart := false }
def FnExactValidPointsSaid : Prop := fnExactValidPointsRow.holds Try.pinned (OpenSpec.ofChange fnExactValidPointsSpec)

/-- ITS FALSE NEIGHBOUR: 'it returns false'. Refute it at one input. -/
def fnExactValidPointsWrong : ChangeSpec := { name := "fnExactValidPoints", fn := fun _ => fun
  | [d] => { results := [.lit (.bool false)], args := [d] }
  | _ => none }
def FnExactValidPointsWrongFalsely : Prop := fnExactValidPointsRow.holds Try.pinned (OpenSpec.ofChange fnExactValidPointsWrong)

/-- 'laws.FnExactDueDay': WHATEVER THE INPUT: true; the input reads as it did. -/
def fnExactDueDaySpec : ChangeSpec := { name := "fnExactDueDay", fn := fun _ => fun
  | [d1, d2] => { results := [.lit (.bool true)], args := [d1, d2] }
  | _ => none }
def fnExactDueDayRow : OpenClaim := { program := "ytjpihhioaccgbaa", sum := "0bd19267c21448b3d15bb674552a0876edfe85016f6e3fc39d3638e25f7a7137", func := "loop.example/g01046/laws.FnExactDueDay", spec := "fnExactDueDay", unfollowed := true, recurses := true, apart := false }
def FnExactDueDaySaid : Prop := fnExactDueDayRow.holds Try.pinned (OpenSpec.ofChange fnExactDueDaySpec)

/-- ITS FALSE NEIGHBOUR: 'it returns false'. Refute it at one input. -/
def fnExactDueDayWrong : ChangeSpec := { name := "fnExactDueDay", fn := fun _ => fun
  | [d1, d2] => { results := [.lit (.bool false)], args := [d1, d2] }
  | _ => none }
def FnExactDueDayWrongFalsely : Prop := fnExactDueDayRow.holds Try.pinned (OpenSpec.ofChange fnExactDueDayWrong)

/-- 'laws.FnExactNextDue': WHATEVER THE INPUT: true; the input reads as it did. -/
def fnExactNextDueSpec : ChangeSpec := { name := "fnExactNextDue", fn := fun _ => fun
  | [d] => { results := [.lit (.bool true)], args := [d] }
  | _ => none }
def fnExactNextDueRow : OpenClaim := { program := "ytjpihhioaccgbaa", sum := "0bd19267c21448b3d15bb674552a0876edfe85016f6e3fc39d3638e25f7a7137", func := "loop.example/g01046/laws.FnExactNextDue", spec := "fnExactNextDue", unfollowed := true, recurses := true, apart := false }
def FnExactNextDueSaid : Prop := fnExactNextDueRow.holds Try.pinned (OpenSpec.ofChange fnExactNextDueSpec)

/-- ITS FALSE NEIGHBOUR: 'it returns false'. Refute it at one input. -/
def fnExactNextDueWrong : ChangeSpec := { name := "fnExactNextDue", fn := fun _ => fun
  | [d] => { results := [.lit (.bool false)], args := [d] }
  | _ => none }
def FnExactNextDueWrongFalsely : Prop := fnExactNextDueRow.holds Try.pinned (OpenSpec.ofChange fnExactNextDueWrong)

/-- 'laws.FnExactLateBy': WHATEVER THE INPUT: true; the input reads as it did. -/
def fnExactLateBySpec : ChangeSpec := { name := "fnExactLateBy", fn := fun _ => fun
  | [d1, d2] => { results := [.lit (.bool true)], args := [d1, d2] }
  | _ => none }
def fnExactLateByRow : OpenClaim := { program := "ytjpihhioaccgbaa", sum := "0bd19267c21448b3d15bb674552a0876edfe85016f6e3fc39d3638e25f7a7137", func := "loop.example/g01046/laws.FnExactLateBy", spec := "fnExactLateBy", unfollowed := true, recurses := true, apart := false }
def FnExactLateBySaid : Prop := fnExactLateByRow.holds Try.pinned (OpenSpec.ofChange fnExactLateBySpec)

/-- ITS FALSE NEIGHBOUR: 'it returns false'. Refute it at one input. -/
def fnExactLateByWrong : ChangeSpec := { name := "fnExactLateBy", fn := fun _ => fun
  | [d1, d2] => { results := [.lit (.bool false)], args := [d1, d2] }
  | _ => none }
def FnExactLateByWrongFalsely : Prop := fnExactLateByRow.holds Try.pinned (OpenSpec.ofChange fnExactLateByWrong)

/- THE SECOND FORM. 'bulk': how many values and letters a reading holds, each counted each time it is reached (what is shared counts as often as it is met; a slice's spare places count too). A statement '..UptoSaid' is the law's where the arguments, and the package variables that the reading takes, are together of bulk at most 1048576: NARROWER than '..Said'. Prove '..Said' where nothing that the law and all that it calls make is longer than what came in: it says more and counts as full. Else prove '..UptoSaid'. A law counts once. -/
mutual
def uptoBulk {H : Type} : DataW H → Nat
  | .lit (.string bytes) => bytes.length + 1
  | .lit _ => 1
  | .nil => 1
  | .ptr d => uptoBulk d + 1
  | .slice elems spare => uptoBulkAll elems + uptoBulkAll spare + 1
  | .agg parts => uptoBulkAll parts + 1
  | .iface _ d => uptoBulk d + 1
  | .map entries => uptoBulkEntries entries + 1
  | .held _ => 1
def uptoBulkAll {H : Type} : List (DataW H) → Nat
  | [] => 0
  | d :: r => uptoBulk d + uptoBulkAll r
def uptoBulkEntries {H : Type} : List (Lit × DataW H) → Nat
  | [] => 0
  | x :: r => uptoBulkEntry x + uptoBulkEntries r
def uptoBulkEntry {H : Type} : Lit × DataW H → Nat
  | (.string bytes, d) => bytes.length + uptoBulk d + 1
  | (_, d) => uptoBulk d + 1
 end
def uptoSmall : (H : Type) → List (DataW H) → Bool := fun _ ds => decide (uptoBulkAll ds ≤ 1048576)
def OpenSpec.upto (s : _root_.Go.ChangeSpec) : _root_.Go.OpenSpec := { _root_.Go.OpenSpec.ofChange s with cond := some uptoSmall }

/-- 'laws.FnExactSamePoints', WHERE WHAT IT READS IS OF BULK AT MOST 1048576: true; the input reads as it did. -/
def fnExactSamePointsUptoRow : OpenClaim := { program := "ytjpihhioaccgbaa", sum := "0bd19267c21448b3d15bb674552a0876edfe85016f6e3fc39d3638e25f7a7137", func := "loop.example/g01046/laws.FnExactSamePoints", spec := "fnExactSamePoints", apart := false, narrowed := true }
def FnExactSamePointsUptoSaid : Prop := fnExactSamePointsUptoRow.holds Try.pinned (OpenSpec.upto fnExactSamePointsSpec)

/-- 'laws.FnExactValidPoints', WHERE WHAT IT READS IS OF BULK AT MOST 1048576: true; the input reads as it did. -/
def fnExactValidPointsUptoRow : OpenClaim := { program := "ytjpihhioaccgbaa", sum := "0bd19267c21448b3d15bb674552a0876edfe85016f6e3fc39d3638e25f7a7137", func := "loop.example/g01046/laws.FnExactValidPoints", spec := "fnExactValidPoints", unfollowed := true, recurses := true, apart := false, narrowed := true }
def FnExactValidPointsUptoSaid : Prop := fnExactValidPointsUptoRow.holds Try.pinned (OpenSpec.upto fnExactValidPointsSpec)

/-- 'laws.FnExactDueDay', WHERE WHAT IT READS IS OF BULK AT MOST 1048576: true; the input reads as it did. -/
def fnExactDueDayUptoRow : OpenClaim := { program := "ytjpihhioaccgbaa", sum := "0bd19267c21448b3d15bb674552a0876edfe85016f6e3fc39d3638e25f7a7137", func := "loop.example/g01046/laws.FnExactDueDay", spec := "fnExactDueDay", unfollowed := true, recurses := true, apart := false, narrowed := true }
def FnExactDueDayUptoSaid : Prop := fnExactDueDayUptoRow.holds Try.pinned (OpenSpec.upto fnExactDueDaySpec)

/-- 'laws.FnExactNextDue', WHERE WHAT IT READS IS OF BULK AT MOST 1048576: true; the input reads as it did. -/
def fnExactNextDueUptoRow : OpenClaim := { program := "ytjpihhioaccgbaa", sum := "0bd19267c21448b3d15bb674552a0876edfe85016f6e3fc39d3638e25f7a7137", func := "loop.example/g01046/laws.FnExactNextDue", spec := "fnExactNextDue", unfollowed := true, recurses := true, apart := false, narrowed := true }
def FnExactNextDueUptoSaid : Prop := fnExactNextDueUptoRow.holds Try.pinned (OpenSpec.upto fnExactNextDueSpec)

/-- 'laws.FnExactLateBy', WHERE WHAT IT READS IS OF BULK AT MOST 1048576: true; the input reads as it did. -/
def fnExactLateByUptoRow : OpenClaim := { program := "ytjpihhioaccgbaa", sum := "0bd19267c21448b3d15bb674552a0876edfe85016f6e3fc39d3638e25f7a7137", func := "loop.example/g01046/laws.FnExactLateBy", spec := "fnExactLateBy", unfollowed := true, recurses := true, apart := false, narrowed := true }
def FnExactLateByUptoSaid : Prop := fnExactLateByUptoRow.holds Try.pinned (OpenSpec.upto fnExactLateBySpec)

end Rows
end Go.Proofs.Ytjpihhioaccgbaa

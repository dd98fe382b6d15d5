/-
  DERIVED. GIVEN WITH THE SEED: THE CARDS: each row of YtpgnndpjlcihiaaDoorRows.lean that lists a variable, with what it lists TIED to the program's text (the seventh form; the later family's looks); each row that meets fmt, with fmt's text TOLD by the authors' own Lean function (tested against real Go, not proved from fmt's source: count such statements apart). THE CARD IS WHAT COUNTS. Prove the row's statement (the work); the ties are given (YtpgnndpjlcihiaaDoorTie.lean); close each card by the builder's one call (the guide's Derived/Test/ToyasCard.lean, 'card_holds'). Laid BY PROGRAM, IN A SANDBOX (cutbox-door.mjs). By AI agents, Wed Nov 11 2026. No macro, syntax, notation, axiom, sorry.
-/
import Derived.Test.YtpgnndpjlcihiaaDoorRows
import GoSem.ClaimSeven
namespace Go.Proofs.YtpgnndpjlcihiaaDoor
namespace Rows

/-- THE TIED CARD OF 'laws.FnExactLossText'. -/
def fnExactLossTextCard : Claim7 := { stood := { row := fnExactLossTextRow, standIns := [], harness := (true, "135316d1f2cff0a92fb58049609512a64b12f6d5fb9ce7c49cbf426f6b4677cf"), looks := false }, kinds := [], alts := [], laidByText := true, laidKinds := [.data, .data, .data], laidTests := true, laidLooks := .later }
def FnExactLossTextCardSaid : Prop := Claim7.holds Tryd.pinned (.plain (OpenSpec.ofChange fnExactLossTextSpec)) fnExactLossTextCard

/-- THE TIED CARD OF 'laws.FnLosses'. -/
def fnLossesCard : Claim7 := { stood := { row := fnLossesRow, standIns := [], harness := (true, "135316d1f2cff0a92fb58049609512a64b12f6d5fb9ce7c49cbf426f6b4677cf"), looks := false }, kinds := [], alts := [], laidByText := true, laidKinds := [.data, .data, .data], laidTests := true, laidLooks := .later }
def FnLossesCardSaid : Prop := Claim7.holds Tryd.pinned (.plain (OpenSpec.ofChange fnLossesSpec)) fnLossesCard

/-- THE SECOND FORM's CARD OF 'laws.FnExactLossText'. -/
def fnExactLossTextUptoCard : Claim7 := { stood := { row := fnExactLossTextUptoRow, standIns := [], harness := (true, "135316d1f2cff0a92fb58049609512a64b12f6d5fb9ce7c49cbf426f6b4677cf"), looks := false }, kinds := [], alts := [], laidByText := true, laidKinds := [.data, .data, .data], laidTests := true, laidLooks := .later }
def FnExactLossTextUptoCardSaid : Prop := Claim7.holds Tryd.pinned (.plain (OpenSpec.upto fnExactLossTextSpec)) fnExactLossTextUptoCard

/-- THE SECOND FORM's CARD OF 'laws.FnLosses'. -/
def fnLossesUptoCard : Claim7 := { stood := { row := fnLossesUptoRow, standIns := [], harness := (true, "135316d1f2cff0a92fb58049609512a64b12f6d5fb9ce7c49cbf426f6b4677cf"), looks := false }, kinds := [], alts := [], laidByText := true, laidKinds := [.data, .data, .data], laidTests := true, laidLooks := .later }
def FnLossesUptoCardSaid : Prop := Claim7.holds Tryd.pinned (.plain (OpenSpec.upto fnLossesSpec)) fnLossesUptoCard
end Rows
end Go.Proofs.YtpgnndpjlcihiaaDoor

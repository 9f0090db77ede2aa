/-
  DERIVED. GIVEN WITH THE SEED: THE CARDS: each row of YtoiaecfiinkmjaaDoorRows.lean that lists a variable, with what it lists TIED to the program's text (the seventh form; the later family's looks); each row that meets fmt, with fmt's text TOLD by the authors' own Lean function (tested against real Go, not proved from fmt's source: count such statements apart). THE CARD IS WHAT COUNTS. Prove the row's statement (the work); the ties are given (YtoiaecfiinkmjaaDoorTie.lean); close each card by the builder's one call (the guide's Derived/Test/ToyasCard.lean, 'card_holds'). Laid BY PROGRAM, IN A SANDBOX (cutbox-door.mjs). By AI agents, Wed Nov 11 2026. No macro, syntax, notation, axiom, sorry.
-/
import Derived.Test.YtoiaecfiinkmjaaDoorRows
import GoSem.ClaimSeven
namespace Go.Proofs.YtoiaecfiinkmjaaDoor
namespace Rows

/-- THE TIED CARD OF 'gessolaw11.IdentTexts'. -/
def identTextsCard : Claim7 := { stood := { row := identTextsRow, standIns := [], harness := (true, "c6b3f50464cea2d4de8bd2c9b1f096622e27c45d04ceeef99186e53cbfffbeff"), looks := true }, kinds := [], alts := [], laidByText := true, laidKinds := [.data, .data, .data], laidTests := true, laidLooks := .later }
def IdentTextsCardSaid : Prop := Claim7.holds Tryd.pinned (.plain (OpenSpec.ofChange identTextsSpec)) identTextsCard

/-- THE TIED CARD OF 'gessolaw11.IdentBack'. -/
def identBackCard : Claim7 := { stood := { row := identBackRow, standIns := [], harness := (true, "c6b3f50464cea2d4de8bd2c9b1f096622e27c45d04ceeef99186e53cbfffbeff"), looks := true }, kinds := [], alts := [], laidByText := true, laidKinds := [.data, .data, .data], laidTests := true, laidLooks := .later }
def IdentBackCardSaid : Prop := Claim7.holds Tryd.pinned (.plain (OpenSpec.ofChange identBackSpec)) identBackCard

/-- THE TIED CARD OF 'gessolaw11.IdentClocks'. -/
def identClocksCard : Claim7 := { stood := { row := identClocksRow, standIns := [], harness := (true, "c6b3f50464cea2d4de8bd2c9b1f096622e27c45d04ceeef99186e53cbfffbeff"), looks := true }, kinds := [], alts := [], laidByText := true, laidKinds := [.data, .data, .data], laidTests := true, laidLooks := .later }
def IdentClocksCardSaid : Prop := Claim7.holds Tryd.pinned (.plain (OpenSpec.ofChange identClocksSpec)) identClocksCard

/-- THE TIED CARD OF 'gessolaw11.IdentGives'. -/
def identGivesCard : Claim7 := { stood := { row := identGivesRow, standIns := [], harness := (true, "c6b3f50464cea2d4de8bd2c9b1f096622e27c45d04ceeef99186e53cbfffbeff"), looks := true }, kinds := [], alts := [], laidByText := true, laidKinds := [.data, .data, .data], laidTests := true, laidLooks := .later }
def IdentGivesCardSaid : Prop := Claim7.holds Tryd.pinned (.plain (OpenSpec.ofChange identGivesSpec)) identGivesCard

/-- THE TIED CARD OF 'gessolaw11.IdentOrders'. -/
def identOrdersCard : Claim7 := { stood := { row := identOrdersRow, standIns := [], harness := (true, "c6b3f50464cea2d4de8bd2c9b1f096622e27c45d04ceeef99186e53cbfffbeff"), looks := true }, kinds := [], alts := [], laidByText := true, laidKinds := [.data, .data, .data], laidTests := true, laidLooks := .later }
def IdentOrdersCardSaid : Prop := Claim7.holds Tryd.pinned (.plain (OpenSpec.ofChange identOrdersSpec)) identOrdersCard

/-- THE TIED CARD OF 'gessolaw11.IdentTotal'. -/
def identTotalCard : Claim7 := { stood := { row := identTotalRow, standIns := [], harness := (true, "c6b3f50464cea2d4de8bd2c9b1f096622e27c45d04ceeef99186e53cbfffbeff"), looks := true }, kinds := [], alts := [], laidByText := true, laidKinds := [.data, .data, .data], laidTests := true, laidLooks := .later }
def IdentTotalCardSaid : Prop := Claim7.holds Tryd.pinned (.plain (OpenSpec.ofChange identTotalSpec)) identTotalCard

/-- THE SECOND FORM's CARD OF 'gessolaw11.IdentTexts'. -/
def identTextsUptoCard : Claim7 := { stood := { row := identTextsUptoRow, standIns := [], harness := (true, "c6b3f50464cea2d4de8bd2c9b1f096622e27c45d04ceeef99186e53cbfffbeff"), looks := true }, kinds := [], alts := [], laidByText := true, laidKinds := [.data, .data, .data], laidTests := true, laidLooks := .later }
def IdentTextsUptoCardSaid : Prop := Claim7.holds Tryd.pinned (.plain (OpenSpec.upto identTextsSpec)) identTextsUptoCard

/-- THE SECOND FORM's CARD OF 'gessolaw11.IdentBack'. -/
def identBackUptoCard : Claim7 := { stood := { row := identBackUptoRow, standIns := [], harness := (true, "c6b3f50464cea2d4de8bd2c9b1f096622e27c45d04ceeef99186e53cbfffbeff"), looks := true }, kinds := [], alts := [], laidByText := true, laidKinds := [.data, .data, .data], laidTests := true, laidLooks := .later }
def IdentBackUptoCardSaid : Prop := Claim7.holds Tryd.pinned (.plain (OpenSpec.upto identBackSpec)) identBackUptoCard

/-- THE SECOND FORM's CARD OF 'gessolaw11.IdentClocks'. -/
def identClocksUptoCard : Claim7 := { stood := { row := identClocksUptoRow, standIns := [], harness := (true, "c6b3f50464cea2d4de8bd2c9b1f096622e27c45d04ceeef99186e53cbfffbeff"), looks := true }, kinds := [], alts := [], laidByText := true, laidKinds := [.data, .data, .data], laidTests := true, laidLooks := .later }
def IdentClocksUptoCardSaid : Prop := Claim7.holds Tryd.pinned (.plain (OpenSpec.upto identClocksSpec)) identClocksUptoCard

/-- THE SECOND FORM's CARD OF 'gessolaw11.IdentGives'. -/
def identGivesUptoCard : Claim7 := { stood := { row := identGivesUptoRow, standIns := [], harness := (true, "c6b3f50464cea2d4de8bd2c9b1f096622e27c45d04ceeef99186e53cbfffbeff"), looks := true }, kinds := [], alts := [], laidByText := true, laidKinds := [.data, .data, .data], laidTests := true, laidLooks := .later }
def IdentGivesUptoCardSaid : Prop := Claim7.holds Tryd.pinned (.plain (OpenSpec.upto identGivesSpec)) identGivesUptoCard

/-- THE SECOND FORM's CARD OF 'gessolaw11.IdentOrders'. -/
def identOrdersUptoCard : Claim7 := { stood := { row := identOrdersUptoRow, standIns := [], harness := (true, "c6b3f50464cea2d4de8bd2c9b1f096622e27c45d04ceeef99186e53cbfffbeff"), looks := true }, kinds := [], alts := [], laidByText := true, laidKinds := [.data, .data, .data], laidTests := true, laidLooks := .later }
def IdentOrdersUptoCardSaid : Prop := Claim7.holds Tryd.pinned (.plain (OpenSpec.upto identOrdersSpec)) identOrdersUptoCard

/-- THE SECOND FORM's CARD OF 'gessolaw11.IdentTotal'. -/
def identTotalUptoCard : Claim7 := { stood := { row := identTotalUptoRow, standIns := [], harness := (true, "c6b3f50464cea2d4de8bd2c9b1f096622e27c45d04ceeef99186e53cbfffbeff"), looks := true }, kinds := [], alts := [], laidByText := true, laidKinds := [.data, .data, .data], laidTests := true, laidLooks := .later }
def IdentTotalUptoCardSaid : Prop := Claim7.holds Tryd.pinned (.plain (OpenSpec.upto identTotalSpec)) identTotalUptoCard
end Rows
end Go.Proofs.YtoiaecfiinkmjaaDoor

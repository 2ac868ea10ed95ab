/-
  DERIVED. GIVEN WITH THE SEED: THE CARDS: each row of YthecmbmidoagaaaDoorRows.lean that lists a variable, with what it lists TIED to the program's text (the seventh form; the later family's looks); each row that meets fmt, with fmt's text TOLD by the authors' own Lean function (tested against real Go, not proved from fmt's source: count such statements apart). THE CARD IS WHAT COUNTS. Prove the row's statement (the work); the ties are given (YthecmbmidoagaaaDoorTie.lean); close each card by the builder's one call (the guide's Derived/Test/ToyasCard.lean, 'card_holds'). Laid BY PROGRAM, IN A SANDBOX (cutbox-door.mjs). By AI agents, Wed Nov 11 2026. No macro, syntax, notation, axiom, sorry.
-/
import Derived.Test.YthecmbmidoagaaaDoorRows
import GoSem.ClaimSeven
namespace Go.Proofs.YthecmbmidoagaaaDoor
namespace Rows

/-- THE TIED CARD OF 'abugidalaw34.ConstrainHas'. -/
def constrainHasCard : Claim7 := { stood := { row := constrainHasRow, standIns := [], harness := (true, "2859e009504b3ab1cbbf9bb23c27d45292dda9b4e1b1f990dec37c7b60bd2d38"), looks := false }, kinds := [], alts := [], laidByText := true, laidKinds := [.data, .pinned], laidTests := true, laidLooks := .later }
def ConstrainHasCardSaid : Prop := Claim7.holds Tryd.pinned (.plain (OpenSpec.ofChange constrainHasSpec)) constrainHasCard

/-- THE TIED CARD OF 'abugidalaw34.ConstrainHolds'. -/
def constrainHoldsCard : Claim7 := { stood := { row := constrainHoldsRow, standIns := [], harness := (true, "2859e009504b3ab1cbbf9bb23c27d45292dda9b4e1b1f990dec37c7b60bd2d38"), looks := false }, kinds := [], alts := [], laidByText := true, laidKinds := [.data, .pinned], laidTests := true, laidLooks := .later }
def ConstrainHoldsCardSaid : Prop := Claim7.holds Tryd.pinned (.plain (OpenSpec.ofChange constrainHoldsSpec)) constrainHoldsCard

/-- THE TIED CARD OF 'abugidalaw34.ConstrainSteps'. -/
def constrainStepsCard : Claim7 := { stood := { row := constrainStepsRow, standIns := [], harness := (true, "2859e009504b3ab1cbbf9bb23c27d45292dda9b4e1b1f990dec37c7b60bd2d38"), looks := false }, kinds := [], alts := [], laidByText := true, laidKinds := [.data, .pinned], laidTests := true, laidLooks := .later }
def ConstrainStepsCardSaid : Prop := Claim7.holds Tryd.pinned (.plain (OpenSpec.ofChange constrainStepsSpec)) constrainStepsCard

/-- THE TIED CARD OF 'abugidalaw34.ConstrainApplies'. -/
def constrainAppliesCard : Claim7 := { stood := { row := constrainAppliesRow, standIns := [], harness := (true, "2859e009504b3ab1cbbf9bb23c27d45292dda9b4e1b1f990dec37c7b60bd2d38"), looks := false }, kinds := [], alts := [], laidByText := true, laidKinds := [.data, .pinned], laidTests := true, laidLooks := .later }
def ConstrainAppliesCardSaid : Prop := Claim7.holds Tryd.pinned (.plain (OpenSpec.ofChange constrainAppliesSpec)) constrainAppliesCard

/-- THE TIED CARD OF 'abugidalaw34.ConstrainKeeps'. -/
def constrainKeepsCard : Claim7 := { stood := { row := constrainKeepsRow, standIns := [], harness := (true, "2859e009504b3ab1cbbf9bb23c27d45292dda9b4e1b1f990dec37c7b60bd2d38"), looks := false }, kinds := [], alts := [], laidByText := true, laidKinds := [.data, .pinned], laidTests := true, laidLooks := .later }
def ConstrainKeepsCardSaid : Prop := Claim7.holds Tryd.pinned (.plain (OpenSpec.ofChange constrainKeepsSpec)) constrainKeepsCard

/-- THE TIED CARD OF 'abugidalaw34.ConstrainAgain'. -/
def constrainAgainCard : Claim7 := { stood := { row := constrainAgainRow, standIns := [], harness := (true, "2859e009504b3ab1cbbf9bb23c27d45292dda9b4e1b1f990dec37c7b60bd2d38"), looks := false }, kinds := [], alts := [], laidByText := true, laidKinds := [.data, .pinned], laidTests := true, laidLooks := .later }
def ConstrainAgainCardSaid : Prop := Claim7.holds Tryd.pinned (.plain (OpenSpec.ofChange constrainAgainSpec)) constrainAgainCard

/-- THE TIED CARD OF 'abugidalaw34.ConstrainReplays'. -/
def constrainReplaysCard : Claim7 := { stood := { row := constrainReplaysRow, standIns := [], harness := (true, "2859e009504b3ab1cbbf9bb23c27d45292dda9b4e1b1f990dec37c7b60bd2d38"), looks := false }, kinds := [], alts := [], laidByText := true, laidKinds := [.data, .pinned], laidTests := true, laidLooks := .later }
def ConstrainReplaysCardSaid : Prop := Claim7.holds Tryd.pinned (.plain (OpenSpec.ofChange constrainReplaysSpec)) constrainReplaysCard

/-- THE TIED CARD OF 'abugidalaw34.ConstrainOpposite'. -/
def constrainOppositeCard : Claim7 := { stood := { row := constrainOppositeRow, standIns := [], harness := (true, "2859e009504b3ab1cbbf9bb23c27d45292dda9b4e1b1f990dec37c7b60bd2d38"), looks := false }, kinds := [], alts := [], laidByText := true, laidKinds := [.data, .pinned], laidTests := true, laidLooks := .later }
def ConstrainOppositeCardSaid : Prop := Claim7.holds Tryd.pinned (.plain (OpenSpec.ofChange constrainOppositeSpec)) constrainOppositeCard

/-- THE TIED CARD OF 'abugidalaw34.ConstrainKnown'. -/
def constrainKnownCard : Claim7 := { stood := { row := constrainKnownRow, standIns := [], harness := (true, "2859e009504b3ab1cbbf9bb23c27d45292dda9b4e1b1f990dec37c7b60bd2d38"), looks := false }, kinds := [], alts := [], laidByText := true, laidKinds := [.data, .pinned], laidTests := true, laidLooks := .later }
def ConstrainKnownCardSaid : Prop := Claim7.holds Tryd.pinned (.plain (OpenSpec.ofChange constrainKnownSpec)) constrainKnownCard

/-- THE SECOND FORM's CARD OF 'abugidalaw34.ConstrainHas'. -/
def constrainHasUptoCard : Claim7 := { stood := { row := constrainHasUptoRow, standIns := [], harness := (true, "2859e009504b3ab1cbbf9bb23c27d45292dda9b4e1b1f990dec37c7b60bd2d38"), looks := false }, kinds := [], alts := [], laidByText := true, laidKinds := [.data, .pinned], laidTests := true, laidLooks := .later }
def ConstrainHasUptoCardSaid : Prop := Claim7.holds Tryd.pinned (.plain (OpenSpec.upto constrainHasSpec)) constrainHasUptoCard

/-- THE SECOND FORM's CARD OF 'abugidalaw34.ConstrainHolds'. -/
def constrainHoldsUptoCard : Claim7 := { stood := { row := constrainHoldsUptoRow, standIns := [], harness := (true, "2859e009504b3ab1cbbf9bb23c27d45292dda9b4e1b1f990dec37c7b60bd2d38"), looks := false }, kinds := [], alts := [], laidByText := true, laidKinds := [.data, .pinned], laidTests := true, laidLooks := .later }
def ConstrainHoldsUptoCardSaid : Prop := Claim7.holds Tryd.pinned (.plain (OpenSpec.upto constrainHoldsSpec)) constrainHoldsUptoCard

/-- THE SECOND FORM's CARD OF 'abugidalaw34.ConstrainSteps'. -/
def constrainStepsUptoCard : Claim7 := { stood := { row := constrainStepsUptoRow, standIns := [], harness := (true, "2859e009504b3ab1cbbf9bb23c27d45292dda9b4e1b1f990dec37c7b60bd2d38"), looks := false }, kinds := [], alts := [], laidByText := true, laidKinds := [.data, .pinned], laidTests := true, laidLooks := .later }
def ConstrainStepsUptoCardSaid : Prop := Claim7.holds Tryd.pinned (.plain (OpenSpec.upto constrainStepsSpec)) constrainStepsUptoCard

/-- THE SECOND FORM's CARD OF 'abugidalaw34.ConstrainApplies'. -/
def constrainAppliesUptoCard : Claim7 := { stood := { row := constrainAppliesUptoRow, standIns := [], harness := (true, "2859e009504b3ab1cbbf9bb23c27d45292dda9b4e1b1f990dec37c7b60bd2d38"), looks := false }, kinds := [], alts := [], laidByText := true, laidKinds := [.data, .pinned], laidTests := true, laidLooks := .later }
def ConstrainAppliesUptoCardSaid : Prop := Claim7.holds Tryd.pinned (.plain (OpenSpec.upto constrainAppliesSpec)) constrainAppliesUptoCard

/-- THE SECOND FORM's CARD OF 'abugidalaw34.ConstrainKeeps'. -/
def constrainKeepsUptoCard : Claim7 := { stood := { row := constrainKeepsUptoRow, standIns := [], harness := (true, "2859e009504b3ab1cbbf9bb23c27d45292dda9b4e1b1f990dec37c7b60bd2d38"), looks := false }, kinds := [], alts := [], laidByText := true, laidKinds := [.data, .pinned], laidTests := true, laidLooks := .later }
def ConstrainKeepsUptoCardSaid : Prop := Claim7.holds Tryd.pinned (.plain (OpenSpec.upto constrainKeepsSpec)) constrainKeepsUptoCard

/-- THE SECOND FORM's CARD OF 'abugidalaw34.ConstrainAgain'. -/
def constrainAgainUptoCard : Claim7 := { stood := { row := constrainAgainUptoRow, standIns := [], harness := (true, "2859e009504b3ab1cbbf9bb23c27d45292dda9b4e1b1f990dec37c7b60bd2d38"), looks := false }, kinds := [], alts := [], laidByText := true, laidKinds := [.data, .pinned], laidTests := true, laidLooks := .later }
def ConstrainAgainUptoCardSaid : Prop := Claim7.holds Tryd.pinned (.plain (OpenSpec.upto constrainAgainSpec)) constrainAgainUptoCard

/-- THE SECOND FORM's CARD OF 'abugidalaw34.ConstrainReplays'. -/
def constrainReplaysUptoCard : Claim7 := { stood := { row := constrainReplaysUptoRow, standIns := [], harness := (true, "2859e009504b3ab1cbbf9bb23c27d45292dda9b4e1b1f990dec37c7b60bd2d38"), looks := false }, kinds := [], alts := [], laidByText := true, laidKinds := [.data, .pinned], laidTests := true, laidLooks := .later }
def ConstrainReplaysUptoCardSaid : Prop := Claim7.holds Tryd.pinned (.plain (OpenSpec.upto constrainReplaysSpec)) constrainReplaysUptoCard

/-- THE SECOND FORM's CARD OF 'abugidalaw34.ConstrainOpposite'. -/
def constrainOppositeUptoCard : Claim7 := { stood := { row := constrainOppositeUptoRow, standIns := [], harness := (true, "2859e009504b3ab1cbbf9bb23c27d45292dda9b4e1b1f990dec37c7b60bd2d38"), looks := false }, kinds := [], alts := [], laidByText := true, laidKinds := [.data, .pinned], laidTests := true, laidLooks := .later }
def ConstrainOppositeUptoCardSaid : Prop := Claim7.holds Tryd.pinned (.plain (OpenSpec.upto constrainOppositeSpec)) constrainOppositeUptoCard

/-- THE SECOND FORM's CARD OF 'abugidalaw34.ConstrainKnown'. -/
def constrainKnownUptoCard : Claim7 := { stood := { row := constrainKnownUptoRow, standIns := [], harness := (true, "2859e009504b3ab1cbbf9bb23c27d45292dda9b4e1b1f990dec37c7b60bd2d38"), looks := false }, kinds := [], alts := [], laidByText := true, laidKinds := [.data, .pinned], laidTests := true, laidLooks := .later }
def ConstrainKnownUptoCardSaid : Prop := Claim7.holds Tryd.pinned (.plain (OpenSpec.upto constrainKnownSpec)) constrainKnownUptoCard
end Rows
end Go.Proofs.YthecmbmidoagaaaDoor

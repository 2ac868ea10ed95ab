/-
  DERIVED. GIVEN WITH THE SEED: THE CARDS: each row of YtonadloonidmjaaDoorRows.lean that lists a variable, with what it lists TIED to the program's text (the seventh form; the later family's looks); each row that meets fmt, with fmt's text TOLD by the authors' own Lean function (tested against real Go, not proved from fmt's source: count such statements apart). THE CARD IS WHAT COUNTS. Prove the row's statement (the work); the ties are given (YtonadloonidmjaaDoorTie.lean); close each card by the builder's one call (the guide's Derived/Test/ToyasCard.lean, 'card_holds'). Laid BY PROGRAM, IN A SANDBOX (cutbox-door.mjs). By AI agents, Wed Nov 11 2026. No macro, syntax, notation, axiom, sorry.
-/
import Derived.Test.YtonadloonidmjaaDoorRows
import GoSem.ClaimSeven
namespace Go.Proofs.YtonadloonidmjaaDoor
namespace Rows

/-- THE TIED CARD OF 'abugidalaw32.GuessOrder'. -/
def guessOrderCard : Claim7 := { stood := { row := guessOrderRow, standIns := [], harness := (true, "919334f88974831cb539e9c9492e64ac038bf76f572298de197ae87eeb3d0702"), looks := false }, kinds := [], alts := [], laidByText := true, laidKinds := [.data, .pinned], laidTests := true, laidLooks := .later }
def GuessOrderCardSaid : Prop := Claim7.holds Tryd.pinned (.plain (OpenSpec.ofChange guessOrderSpec)) guessOrderCard

/-- THE TIED CARD OF 'abugidalaw32.GuessExamples'. -/
def guessExamplesCard : Claim7 := { stood := { row := guessExamplesRow, standIns := [], harness := (true, "919334f88974831cb539e9c9492e64ac038bf76f572298de197ae87eeb3d0702"), looks := false }, kinds := [], alts := [], laidByText := true, laidKinds := [.data, .pinned], laidTests := true, laidLooks := .later }
def GuessExamplesCardSaid : Prop := Claim7.holds Tryd.pinned (.plain (OpenSpec.ofChange guessExamplesSpec)) guessExamplesCard

/-- THE TIED CARD OF 'abugidalaw32.GuessLearns'. -/
def guessLearnsCard : Claim7 := { stood := { row := guessLearnsRow, standIns := [], harness := (true, "919334f88974831cb539e9c9492e64ac038bf76f572298de197ae87eeb3d0702"), looks := false }, kinds := [], alts := [], laidByText := true, laidKinds := [.data, .pinned], laidTests := true, laidLooks := .later }
def GuessLearnsCardSaid : Prop := Claim7.holds Tryd.pinned (.plain (OpenSpec.ofChange guessLearnsSpec)) guessLearnsCard

/-- THE TIED CARD OF 'abugidalaw32.GuessGuesses'. -/
def guessGuessesCard : Claim7 := { stood := { row := guessGuessesRow, standIns := [], harness := (true, "919334f88974831cb539e9c9492e64ac038bf76f572298de197ae87eeb3d0702"), looks := false }, kinds := [], alts := [], laidByText := true, laidKinds := [.data, .pinned], laidTests := true, laidLooks := .later }
def GuessGuessesCardSaid : Prop := Claim7.holds Tryd.pinned (.plain (OpenSpec.ofChange guessGuessesSpec)) guessGuessesCard

/-- THE TIED CARD OF 'abugidalaw32.GuessKnown'. -/
def guessKnownCard : Claim7 := { stood := { row := guessKnownRow, standIns := [], harness := (true, "919334f88974831cb539e9c9492e64ac038bf76f572298de197ae87eeb3d0702"), looks := false }, kinds := [], alts := [], laidByText := true, laidKinds := [.data, .pinned], laidTests := true, laidLooks := .later }
def GuessKnownCardSaid : Prop := Claim7.holds Tryd.pinned (.plain (OpenSpec.ofChange guessKnownSpec)) guessKnownCard

/-- THE SECOND FORM's CARD OF 'abugidalaw32.GuessOrder'. -/
def guessOrderUptoCard : Claim7 := { stood := { row := guessOrderUptoRow, standIns := [], harness := (true, "919334f88974831cb539e9c9492e64ac038bf76f572298de197ae87eeb3d0702"), looks := false }, kinds := [], alts := [], laidByText := true, laidKinds := [.data, .pinned], laidTests := true, laidLooks := .later }
def GuessOrderUptoCardSaid : Prop := Claim7.holds Tryd.pinned (.plain (OpenSpec.upto guessOrderSpec)) guessOrderUptoCard

/-- THE SECOND FORM's CARD OF 'abugidalaw32.GuessExamples'. -/
def guessExamplesUptoCard : Claim7 := { stood := { row := guessExamplesUptoRow, standIns := [], harness := (true, "919334f88974831cb539e9c9492e64ac038bf76f572298de197ae87eeb3d0702"), looks := false }, kinds := [], alts := [], laidByText := true, laidKinds := [.data, .pinned], laidTests := true, laidLooks := .later }
def GuessExamplesUptoCardSaid : Prop := Claim7.holds Tryd.pinned (.plain (OpenSpec.upto guessExamplesSpec)) guessExamplesUptoCard

/-- THE SECOND FORM's CARD OF 'abugidalaw32.GuessLearns'. -/
def guessLearnsUptoCard : Claim7 := { stood := { row := guessLearnsUptoRow, standIns := [], harness := (true, "919334f88974831cb539e9c9492e64ac038bf76f572298de197ae87eeb3d0702"), looks := false }, kinds := [], alts := [], laidByText := true, laidKinds := [.data, .pinned], laidTests := true, laidLooks := .later }
def GuessLearnsUptoCardSaid : Prop := Claim7.holds Tryd.pinned (.plain (OpenSpec.upto guessLearnsSpec)) guessLearnsUptoCard

/-- THE SECOND FORM's CARD OF 'abugidalaw32.GuessGuesses'. -/
def guessGuessesUptoCard : Claim7 := { stood := { row := guessGuessesUptoRow, standIns := [], harness := (true, "919334f88974831cb539e9c9492e64ac038bf76f572298de197ae87eeb3d0702"), looks := false }, kinds := [], alts := [], laidByText := true, laidKinds := [.data, .pinned], laidTests := true, laidLooks := .later }
def GuessGuessesUptoCardSaid : Prop := Claim7.holds Tryd.pinned (.plain (OpenSpec.upto guessGuessesSpec)) guessGuessesUptoCard

/-- THE SECOND FORM's CARD OF 'abugidalaw32.GuessKnown'. -/
def guessKnownUptoCard : Claim7 := { stood := { row := guessKnownUptoRow, standIns := [], harness := (true, "919334f88974831cb539e9c9492e64ac038bf76f572298de197ae87eeb3d0702"), looks := false }, kinds := [], alts := [], laidByText := true, laidKinds := [.data, .pinned], laidTests := true, laidLooks := .later }
def GuessKnownUptoCardSaid : Prop := Claim7.holds Tryd.pinned (.plain (OpenSpec.upto guessKnownSpec)) guessKnownUptoCard
end Rows
end Go.Proofs.YtonadloonidmjaaDoor

/-
  DERIVED. GIVEN WITH THE SEED: THE CARDS: each row of YtfdmpbihepkjnaaDoorRows.lean that lists a variable, with what it lists TIED to the program's text (the seventh form; the later family's looks); each row that meets fmt, with fmt's text TOLD by the authors' own Lean function (tested against real Go, not proved from fmt's source: count such statements apart). THE CARD IS WHAT COUNTS. Prove the row's statement (the work); the ties are given (YtfdmpbihepkjnaaDoorTie.lean); close each card by the builder's one call (the guide's Derived/Test/ToyasCard.lean, 'card_holds'). Laid BY PROGRAM, IN A SANDBOX (cutbox-door.mjs). By AI agents, Wed Nov 11 2026. No macro, syntax, notation, axiom, sorry.
-/
import Derived.Test.YtfdmpbihepkjnaaDoorRows
import GoSem.ClaimSeven
namespace Go.Proofs.YtfdmpbihepkjnaaDoor
namespace Rows

/-- THE TIED CARD OF 'abugidalaw05.SymbolsTables'. -/
def symbolsTablesCard : Claim7 := { stood := { row := symbolsTablesRow, standIns := [], harness := (true, "c2f6796d1262444ed63896caf8b538c05c653545a3eb09f5fff433a610bcc827"), looks := false }, kinds := [], alts := [], laidByText := true, laidKinds := [.data, .pinned], laidTests := true, laidLooks := .later }
def SymbolsTablesCardSaid : Prop := Claim7.holds Tryd.pinned (.plain (OpenSpec.ofChange symbolsTablesSpec)) symbolsTablesCard

/-- THE TIED CARD OF 'abugidalaw05.SymbolsTokens'. -/
def symbolsTokensCard : Claim7 := { stood := { row := symbolsTokensRow, standIns := [], harness := (true, "c2f6796d1262444ed63896caf8b538c05c653545a3eb09f5fff433a610bcc827"), looks := false }, kinds := [], alts := [], laidByText := true, laidKinds := [.data, .pinned], laidTests := true, laidLooks := .later }
def SymbolsTokensCardSaid : Prop := Claim7.holds Tryd.pinned (.plain (OpenSpec.ofChange symbolsTokensSpec)) symbolsTokensCard

/-- THE TIED CARD OF 'abugidalaw05.SymbolsTexts'. -/
def symbolsTextsCard : Claim7 := { stood := { row := symbolsTextsRow, standIns := [], harness := (true, "c2f6796d1262444ed63896caf8b538c05c653545a3eb09f5fff433a610bcc827"), looks := false }, kinds := [], alts := [], laidByText := true, laidKinds := [.data, .pinned], laidTests := true, laidLooks := .later }
def SymbolsTextsCardSaid : Prop := Claim7.holds Tryd.pinned (.plain (OpenSpec.ofChange symbolsTextsSpec)) symbolsTextsCard

/-- THE TIED CARD OF 'abugidalaw05.SymbolsBack'. -/
def symbolsBackCard : Claim7 := { stood := { row := symbolsBackRow, standIns := [], harness := (true, "c2f6796d1262444ed63896caf8b538c05c653545a3eb09f5fff433a610bcc827"), looks := false }, kinds := [], alts := [], laidByText := true, laidKinds := [.data, .pinned], laidTests := true, laidLooks := .later }
def SymbolsBackCardSaid : Prop := Claim7.holds Tryd.pinned (.plain (OpenSpec.ofChange symbolsBackSpec)) symbolsBackCard

/-- THE TIED CARD OF 'abugidalaw05.SymbolsMerges'. -/
def symbolsMergesCard : Claim7 := { stood := { row := symbolsMergesRow, standIns := [], harness := (true, "c2f6796d1262444ed63896caf8b538c05c653545a3eb09f5fff433a610bcc827"), looks := false }, kinds := [], alts := [], laidByText := true, laidKinds := [.data, .pinned], laidTests := true, laidLooks := .later }
def SymbolsMergesCardSaid : Prop := Claim7.holds Tryd.pinned (.plain (OpenSpec.ofChange symbolsMergesSpec)) symbolsMergesCard

/-- THE TIED CARD OF 'abugidalaw05.SymbolsNames'. -/
def symbolsNamesCard : Claim7 := { stood := { row := symbolsNamesRow, standIns := [], harness := (true, "c2f6796d1262444ed63896caf8b538c05c653545a3eb09f5fff433a610bcc827"), looks := false }, kinds := [], alts := [], laidByText := true, laidKinds := [.data, .pinned], laidTests := true, laidLooks := .later }
def SymbolsNamesCardSaid : Prop := Claim7.holds Tryd.pinned (.plain (OpenSpec.ofChange symbolsNamesSpec)) symbolsNamesCard

/-- THE TIED CARD OF 'abugidalaw05.SymbolsAdds'. -/
def symbolsAddsCard : Claim7 := { stood := { row := symbolsAddsRow, standIns := [], harness := (true, "c2f6796d1262444ed63896caf8b538c05c653545a3eb09f5fff433a610bcc827"), looks := false }, kinds := [], alts := [], laidByText := true, laidKinds := [.data, .pinned], laidTests := true, laidLooks := .later }
def SymbolsAddsCardSaid : Prop := Claim7.holds Tryd.pinned (.plain (OpenSpec.ofChange symbolsAddsSpec)) symbolsAddsCard

/-- THE TIED CARD OF 'abugidalaw05.SymbolsExamples'. -/
def symbolsExamplesCard : Claim7 := { stood := { row := symbolsExamplesRow, standIns := [], harness := (true, "c2f6796d1262444ed63896caf8b538c05c653545a3eb09f5fff433a610bcc827"), looks := false }, kinds := [], alts := [], laidByText := true, laidKinds := [.data, .pinned], laidTests := true, laidLooks := .later }
def SymbolsExamplesCardSaid : Prop := Claim7.holds Tryd.pinned (.plain (OpenSpec.ofChange symbolsExamplesSpec)) symbolsExamplesCard

/-- THE SECOND FORM's CARD OF 'abugidalaw05.SymbolsTables'. -/
def symbolsTablesUptoCard : Claim7 := { stood := { row := symbolsTablesUptoRow, standIns := [], harness := (true, "c2f6796d1262444ed63896caf8b538c05c653545a3eb09f5fff433a610bcc827"), looks := false }, kinds := [], alts := [], laidByText := true, laidKinds := [.data, .pinned], laidTests := true, laidLooks := .later }
def SymbolsTablesUptoCardSaid : Prop := Claim7.holds Tryd.pinned (.plain (OpenSpec.upto symbolsTablesSpec)) symbolsTablesUptoCard

/-- THE SECOND FORM's CARD OF 'abugidalaw05.SymbolsTokens'. -/
def symbolsTokensUptoCard : Claim7 := { stood := { row := symbolsTokensUptoRow, standIns := [], harness := (true, "c2f6796d1262444ed63896caf8b538c05c653545a3eb09f5fff433a610bcc827"), looks := false }, kinds := [], alts := [], laidByText := true, laidKinds := [.data, .pinned], laidTests := true, laidLooks := .later }
def SymbolsTokensUptoCardSaid : Prop := Claim7.holds Tryd.pinned (.plain (OpenSpec.upto symbolsTokensSpec)) symbolsTokensUptoCard

/-- THE SECOND FORM's CARD OF 'abugidalaw05.SymbolsTexts'. -/
def symbolsTextsUptoCard : Claim7 := { stood := { row := symbolsTextsUptoRow, standIns := [], harness := (true, "c2f6796d1262444ed63896caf8b538c05c653545a3eb09f5fff433a610bcc827"), looks := false }, kinds := [], alts := [], laidByText := true, laidKinds := [.data, .pinned], laidTests := true, laidLooks := .later }
def SymbolsTextsUptoCardSaid : Prop := Claim7.holds Tryd.pinned (.plain (OpenSpec.upto symbolsTextsSpec)) symbolsTextsUptoCard

/-- THE SECOND FORM's CARD OF 'abugidalaw05.SymbolsBack'. -/
def symbolsBackUptoCard : Claim7 := { stood := { row := symbolsBackUptoRow, standIns := [], harness := (true, "c2f6796d1262444ed63896caf8b538c05c653545a3eb09f5fff433a610bcc827"), looks := false }, kinds := [], alts := [], laidByText := true, laidKinds := [.data, .pinned], laidTests := true, laidLooks := .later }
def SymbolsBackUptoCardSaid : Prop := Claim7.holds Tryd.pinned (.plain (OpenSpec.upto symbolsBackSpec)) symbolsBackUptoCard

/-- THE SECOND FORM's CARD OF 'abugidalaw05.SymbolsMerges'. -/
def symbolsMergesUptoCard : Claim7 := { stood := { row := symbolsMergesUptoRow, standIns := [], harness := (true, "c2f6796d1262444ed63896caf8b538c05c653545a3eb09f5fff433a610bcc827"), looks := false }, kinds := [], alts := [], laidByText := true, laidKinds := [.data, .pinned], laidTests := true, laidLooks := .later }
def SymbolsMergesUptoCardSaid : Prop := Claim7.holds Tryd.pinned (.plain (OpenSpec.upto symbolsMergesSpec)) symbolsMergesUptoCard

/-- THE SECOND FORM's CARD OF 'abugidalaw05.SymbolsNames'. -/
def symbolsNamesUptoCard : Claim7 := { stood := { row := symbolsNamesUptoRow, standIns := [], harness := (true, "c2f6796d1262444ed63896caf8b538c05c653545a3eb09f5fff433a610bcc827"), looks := false }, kinds := [], alts := [], laidByText := true, laidKinds := [.data, .pinned], laidTests := true, laidLooks := .later }
def SymbolsNamesUptoCardSaid : Prop := Claim7.holds Tryd.pinned (.plain (OpenSpec.upto symbolsNamesSpec)) symbolsNamesUptoCard

/-- THE SECOND FORM's CARD OF 'abugidalaw05.SymbolsAdds'. -/
def symbolsAddsUptoCard : Claim7 := { stood := { row := symbolsAddsUptoRow, standIns := [], harness := (true, "c2f6796d1262444ed63896caf8b538c05c653545a3eb09f5fff433a610bcc827"), looks := false }, kinds := [], alts := [], laidByText := true, laidKinds := [.data, .pinned], laidTests := true, laidLooks := .later }
def SymbolsAddsUptoCardSaid : Prop := Claim7.holds Tryd.pinned (.plain (OpenSpec.upto symbolsAddsSpec)) symbolsAddsUptoCard

/-- THE SECOND FORM's CARD OF 'abugidalaw05.SymbolsExamples'. -/
def symbolsExamplesUptoCard : Claim7 := { stood := { row := symbolsExamplesUptoRow, standIns := [], harness := (true, "c2f6796d1262444ed63896caf8b538c05c653545a3eb09f5fff433a610bcc827"), looks := false }, kinds := [], alts := [], laidByText := true, laidKinds := [.data, .pinned], laidTests := true, laidLooks := .later }
def SymbolsExamplesUptoCardSaid : Prop := Claim7.holds Tryd.pinned (.plain (OpenSpec.upto symbolsExamplesSpec)) symbolsExamplesUptoCard
end Rows
end Go.Proofs.YtfdmpbihepkjnaaDoor

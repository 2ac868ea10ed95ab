/-
  NARROWER THAN 'FOR EVERY INPUT', by the rows' own cells (each row's printed sentence says how): SymbolsTables: laid · SymbolsTokens: laid · SymbolsTexts: laid · SymbolsBack: laid · SymbolsMerges: laid · SymbolsNames: laid · SymbolsAdds: laid · SymbolsExamples: laid.
  DERIVED. THE GIVEN ROWS OF THIS SEAT. 8 by the template 'for every input the law returns true; each argument reads behind the call as it read before'; 0 by the template 'total and deterministic' (their statements: YtfdmpbihepkjnaaDoorTotals.lean).
  GIVEN WITH THE SEED: the statements are not yours to turn. If you find one false, say at which input.
  Laid BY PROGRAM, IN A SANDBOX (cutbox-rows.mjs): the forced cells as the released guide's own fill.sh prints them over the translation ad3d0ab7bd96c404… (all of the seat's roots in one cut). By AI agents, Wed Nov 11 2026. No macro, syntax, notation, axiom, sorry.
-/
import Derived.Test.YtfdmpbihepkjnaaDoorChecked
import GoSem.PinnedTables
import GoSem.Claim
import GoSem.ClaimJoined
import GoSem.ClaimMapViews
import Derived.JoinedTies
import Derived.KernelRfl
namespace Go.Proofs.YtfdmpbihepkjnaaDoor
/- THE CELL 'sum', in the pinned program and in every row, IS THE sha256 OF THE DUMP (.gsa) THAT YtfdmpbihepkjnaaDoorProg.lean LOADS. Nothing in Lean hashes anything: it is a label: what it is worth is what the hold of that sum in a sandbox is worth. -/
noncomputable def Tryd.pinned : Pinned := { name := "ytfdmpbihepkjnaadoor", sum := "ad3d0ab7bd96c4045f254b8a64061ec688d208ad5d8b61e7d9f23f1e7bfb5122", checked := Tryd.checked }
namespace Rows
def none {H : Type} : Left H := { results := [], args := [] }

/- WHAT THE LISTED PACKAGE-LEVEL VARIABLES READ AS WHEN THE CALL BEGINS. Each datum BY PROGRAM (the guide's laid-datum.mjs) off the statement by which the dump's own 'gosem.cut.vars' lays the variable. In a bare row this is a premise. The card (YtfdmpbihepkjnaaDoorCards.lean) ties it to the program's text. -/
def laid_unicode_utf8_acceptRanges {H : Type} : DataW H := .agg [.agg [.lit (.int .u8 128), .lit (.int .u8 191)], .agg [.lit (.int .u8 160), .lit (.int .u8 191)], .agg [.lit (.int .u8 128), .lit (.int .u8 159)], .agg [.lit (.int .u8 144), .lit (.int .u8 191)], .agg [.lit (.int .u8 128), .lit (.int .u8 143)], .agg [.lit (.int .u8 0), .lit (.int .u8 0)], .agg [.lit (.int .u8 0), .lit (.int .u8 0)], .agg [.lit (.int .u8 0), .lit (.int .u8 0)], .agg [.lit (.int .u8 0), .lit (.int .u8 0)], .agg [.lit (.int .u8 0), .lit (.int .u8 0)], .agg [.lit (.int .u8 0), .lit (.int .u8 0)], .agg [.lit (.int .u8 0), .lit (.int .u8 0)], .agg [.lit (.int .u8 0), .lit (.int .u8 0)], .agg [.lit (.int .u8 0), .lit (.int .u8 0)], .agg [.lit (.int .u8 0), .lit (.int .u8 0)], .agg [.lit (.int .u8 0), .lit (.int .u8 0)]]
/-- One of Go's own tables, pinned by name: the form's constant. -/
def laid_unicode_utf8_first : DataW Unit := Go.Pinned.utf8First

/-- 'abugidalaw05.SymbolsTables': WHATEVER THE INPUT: true; the input reads as it did. -/
def symbolsTablesSpec : ChangeSpec := { name := "symbolsTables", fn := fun _ => fun
  | [d1, d2, d3] => { results := [.lit (.bool true)], args := [d1, d2, d3] }
  | _ => none }
def symbolsTablesRow : OpenClaim := { program := "ytfdmpbihepkjnaadoor", sum := "ad3d0ab7bd96c4045f254b8a64061ec688d208ad5d8b61e7d9f23f1e7bfb5122", func := "abugida/abugidalaw05.SymbolsTables", spec := "symbolsTables", inPlace := ["internal/abi.NoEscape"], unfollowed := true, recurses := true, named := ["unicode/utf8.first", "unicode/utf8.acceptRanges"], apart := false, laid := [("unicode/utf8.acceptRanges", laid_unicode_utf8_acceptRanges), ("unicode/utf8.first", laid_unicode_utf8_first)] }
def SymbolsTablesSaid : Prop := symbolsTablesRow.holds Tryd.pinned (OpenSpec.ofChange symbolsTablesSpec)

/-- ITS FALSE NEIGHBOUR: 'it returns false'. Refute it at one input. -/
def symbolsTablesWrong : ChangeSpec := { name := "symbolsTables", fn := fun _ => fun
  | [d1, d2, d3] => { results := [.lit (.bool false)], args := [d1, d2, d3] }
  | _ => none }
def SymbolsTablesWrongFalsely : Prop := symbolsTablesRow.holds Tryd.pinned (OpenSpec.ofChange symbolsTablesWrong)

/-- 'abugidalaw05.SymbolsTokens': WHATEVER THE INPUT: true; the input reads as it did. -/
def symbolsTokensSpec : ChangeSpec := { name := "symbolsTokens", fn := fun _ => fun
  | [d1, d2] => { results := [.lit (.bool true)], args := [d1, d2] }
  | _ => none }
def symbolsTokensRow : OpenClaim := { program := "ytfdmpbihepkjnaadoor", sum := "ad3d0ab7bd96c4045f254b8a64061ec688d208ad5d8b61e7d9f23f1e7bfb5122", func := "abugida/abugidalaw05.SymbolsTokens", spec := "symbolsTokens", inPlace := ["internal/abi.NoEscape"], unfollowed := true, recurses := true, named := ["unicode/utf8.first", "unicode/utf8.acceptRanges"], apart := false, laid := [("unicode/utf8.acceptRanges", laid_unicode_utf8_acceptRanges), ("unicode/utf8.first", laid_unicode_utf8_first)] }
def SymbolsTokensSaid : Prop := symbolsTokensRow.holds Tryd.pinned (OpenSpec.ofChange symbolsTokensSpec)

/-- ITS FALSE NEIGHBOUR: 'it returns false'. Refute it at one input. -/
def symbolsTokensWrong : ChangeSpec := { name := "symbolsTokens", fn := fun _ => fun
  | [d1, d2] => { results := [.lit (.bool false)], args := [d1, d2] }
  | _ => none }
def SymbolsTokensWrongFalsely : Prop := symbolsTokensRow.holds Tryd.pinned (OpenSpec.ofChange symbolsTokensWrong)

/-- 'abugidalaw05.SymbolsTexts': WHATEVER THE INPUT: true; the input reads as it did. -/
def symbolsTextsSpec : ChangeSpec := { name := "symbolsTexts", fn := fun _ => fun
  | [d1, d2] => { results := [.lit (.bool true)], args := [d1, d2] }
  | _ => none }
def symbolsTextsRow : OpenClaim := { program := "ytfdmpbihepkjnaadoor", sum := "ad3d0ab7bd96c4045f254b8a64061ec688d208ad5d8b61e7d9f23f1e7bfb5122", func := "abugida/abugidalaw05.SymbolsTexts", spec := "symbolsTexts", inPlace := ["internal/abi.NoEscape"], unfollowed := true, recurses := true, named := ["unicode/utf8.first", "unicode/utf8.acceptRanges"], apart := false, laid := [("unicode/utf8.acceptRanges", laid_unicode_utf8_acceptRanges), ("unicode/utf8.first", laid_unicode_utf8_first)] }
def SymbolsTextsSaid : Prop := symbolsTextsRow.holds Tryd.pinned (OpenSpec.ofChange symbolsTextsSpec)

/-- ITS FALSE NEIGHBOUR: 'it returns false'. Refute it at one input. -/
def symbolsTextsWrong : ChangeSpec := { name := "symbolsTexts", fn := fun _ => fun
  | [d1, d2] => { results := [.lit (.bool false)], args := [d1, d2] }
  | _ => none }
def SymbolsTextsWrongFalsely : Prop := symbolsTextsRow.holds Tryd.pinned (OpenSpec.ofChange symbolsTextsWrong)

/-- 'abugidalaw05.SymbolsBack': WHATEVER THE INPUT: true; the input reads as it did. -/
def symbolsBackSpec : ChangeSpec := { name := "symbolsBack", fn := fun _ => fun
  | [d1, d2, d3] => { results := [.lit (.bool true)], args := [d1, d2, d3] }
  | _ => none }
def symbolsBackRow : OpenClaim := { program := "ytfdmpbihepkjnaadoor", sum := "ad3d0ab7bd96c4045f254b8a64061ec688d208ad5d8b61e7d9f23f1e7bfb5122", func := "abugida/abugidalaw05.SymbolsBack", spec := "symbolsBack", inPlace := ["internal/abi.NoEscape"], unfollowed := true, recurses := true, named := ["unicode/utf8.first", "unicode/utf8.acceptRanges"], apart := false, laid := [("unicode/utf8.acceptRanges", laid_unicode_utf8_acceptRanges), ("unicode/utf8.first", laid_unicode_utf8_first)] }
def SymbolsBackSaid : Prop := symbolsBackRow.holds Tryd.pinned (OpenSpec.ofChange symbolsBackSpec)

/-- ITS FALSE NEIGHBOUR: 'it returns false'. Refute it at one input. -/
def symbolsBackWrong : ChangeSpec := { name := "symbolsBack", fn := fun _ => fun
  | [d1, d2, d3] => { results := [.lit (.bool false)], args := [d1, d2, d3] }
  | _ => none }
def SymbolsBackWrongFalsely : Prop := symbolsBackRow.holds Tryd.pinned (OpenSpec.ofChange symbolsBackWrong)

/-- 'abugidalaw05.SymbolsMerges': WHATEVER THE INPUT: true; the input reads as it did. -/
def symbolsMergesSpec : ChangeSpec := { name := "symbolsMerges", fn := fun _ => fun
  | [d1, d2] => { results := [.lit (.bool true)], args := [d1, d2] }
  | _ => none }
def symbolsMergesRow : OpenClaim := { program := "ytfdmpbihepkjnaadoor", sum := "ad3d0ab7bd96c4045f254b8a64061ec688d208ad5d8b61e7d9f23f1e7bfb5122", func := "abugida/abugidalaw05.SymbolsMerges", spec := "symbolsMerges", inPlace := ["internal/abi.NoEscape"], unfollowed := true, recurses := true, named := ["unicode/utf8.first", "unicode/utf8.acceptRanges"], apart := false, laid := [("unicode/utf8.acceptRanges", laid_unicode_utf8_acceptRanges), ("unicode/utf8.first", laid_unicode_utf8_first)] }
def SymbolsMergesSaid : Prop := symbolsMergesRow.holds Tryd.pinned (OpenSpec.ofChange symbolsMergesSpec)

/-- ITS FALSE NEIGHBOUR: 'it returns false'. Refute it at one input. -/
def symbolsMergesWrong : ChangeSpec := { name := "symbolsMerges", fn := fun _ => fun
  | [d1, d2] => { results := [.lit (.bool false)], args := [d1, d2] }
  | _ => none }
def SymbolsMergesWrongFalsely : Prop := symbolsMergesRow.holds Tryd.pinned (OpenSpec.ofChange symbolsMergesWrong)

/-- 'abugidalaw05.SymbolsNames': WHATEVER THE INPUT: true; the input reads as it did. -/
def symbolsNamesSpec : ChangeSpec := { name := "symbolsNames", fn := fun _ => fun
  | [d1, d2] => { results := [.lit (.bool true)], args := [d1, d2] }
  | _ => none }
def symbolsNamesRow : OpenClaim := { program := "ytfdmpbihepkjnaadoor", sum := "ad3d0ab7bd96c4045f254b8a64061ec688d208ad5d8b61e7d9f23f1e7bfb5122", func := "abugida/abugidalaw05.SymbolsNames", spec := "symbolsNames", inPlace := ["internal/abi.NoEscape"], unfollowed := true, recurses := true, named := ["unicode/utf8.first", "unicode/utf8.acceptRanges"], apart := false, laid := [("unicode/utf8.acceptRanges", laid_unicode_utf8_acceptRanges), ("unicode/utf8.first", laid_unicode_utf8_first)] }
def SymbolsNamesSaid : Prop := symbolsNamesRow.holds Tryd.pinned (OpenSpec.ofChange symbolsNamesSpec)

/-- ITS FALSE NEIGHBOUR: 'it returns false'. Refute it at one input. -/
def symbolsNamesWrong : ChangeSpec := { name := "symbolsNames", fn := fun _ => fun
  | [d1, d2] => { results := [.lit (.bool false)], args := [d1, d2] }
  | _ => none }
def SymbolsNamesWrongFalsely : Prop := symbolsNamesRow.holds Tryd.pinned (OpenSpec.ofChange symbolsNamesWrong)

/-- 'abugidalaw05.SymbolsAdds': WHATEVER THE INPUT: true; the input reads as it did. -/
def symbolsAddsSpec : ChangeSpec := { name := "symbolsAdds", fn := fun _ => fun
  | [d1, d2] => { results := [.lit (.bool true)], args := [d1, d2] }
  | _ => none }
def symbolsAddsRow : OpenClaim := { program := "ytfdmpbihepkjnaadoor", sum := "ad3d0ab7bd96c4045f254b8a64061ec688d208ad5d8b61e7d9f23f1e7bfb5122", func := "abugida/abugidalaw05.SymbolsAdds", spec := "symbolsAdds", inPlace := ["internal/abi.NoEscape"], unfollowed := true, recurses := true, named := ["unicode/utf8.first", "unicode/utf8.acceptRanges"], apart := false, laid := [("unicode/utf8.acceptRanges", laid_unicode_utf8_acceptRanges), ("unicode/utf8.first", laid_unicode_utf8_first)] }
def SymbolsAddsSaid : Prop := symbolsAddsRow.holds Tryd.pinned (OpenSpec.ofChange symbolsAddsSpec)

/-- ITS FALSE NEIGHBOUR: 'it returns false'. Refute it at one input. -/
def symbolsAddsWrong : ChangeSpec := { name := "symbolsAdds", fn := fun _ => fun
  | [d1, d2] => { results := [.lit (.bool false)], args := [d1, d2] }
  | _ => none }
def SymbolsAddsWrongFalsely : Prop := symbolsAddsRow.holds Tryd.pinned (OpenSpec.ofChange symbolsAddsWrong)

/-- 'abugidalaw05.SymbolsExamples': WHATEVER THE INPUT: true; the input reads as it did. -/
def symbolsExamplesSpec : ChangeSpec := { name := "symbolsExamples", fn := fun _ => fun
  | [] => { results := [.lit (.bool true)], args := [] }
  | _ => none }
def symbolsExamplesRow : OpenClaim := { program := "ytfdmpbihepkjnaadoor", sum := "ad3d0ab7bd96c4045f254b8a64061ec688d208ad5d8b61e7d9f23f1e7bfb5122", func := "abugida/abugidalaw05.SymbolsExamples", spec := "symbolsExamples", inPlace := ["internal/abi.NoEscape"], unfollowed := true, recurses := true, named := ["unicode/utf8.first", "unicode/utf8.acceptRanges"], apart := false, laid := [("unicode/utf8.acceptRanges", laid_unicode_utf8_acceptRanges), ("unicode/utf8.first", laid_unicode_utf8_first)] }
def SymbolsExamplesSaid : Prop := symbolsExamplesRow.holds Tryd.pinned (OpenSpec.ofChange symbolsExamplesSpec)

/-- ITS FALSE NEIGHBOUR: 'it returns false'. Refute it at one input. -/
def symbolsExamplesWrong : ChangeSpec := { name := "symbolsExamples", fn := fun _ => fun
  | [] => { results := [.lit (.bool false)], args := [] }
  | _ => none }
def SymbolsExamplesWrongFalsely : Prop := symbolsExamplesRow.holds Tryd.pinned (OpenSpec.ofChange symbolsExamplesWrong)

/- THE SECOND FORM. 'bulk': how many values and letters a reading holds, each counted each time it is reached (what is shared counts as often as it is met; a slice's spare places count too). A statement '..UptoSaid' is the law's where the arguments, and the package variables that the reading takes, are together of bulk at most 1048576: NARROWER than '..Said'. Prove '..Said' where nothing that the law and all that it calls make is longer than what came in: it says more and counts as full. Else prove '..UptoSaid'. A law counts once. -/
mutual
def uptoBulk {H : Type} : DataW H → Nat
  | .lit (.string bytes) => bytes.length + 1
  | .lit _ => 1
  | .nil => 1
  | .ptr d => uptoBulk d + 1
  | .slice elems spare => uptoBulkAll elems + uptoBulkAll spare + 1
  | .agg parts => uptoBulkAll parts + 1
  | .iface _ d => uptoBulk d + 1
  | .map entries => uptoBulkEntries entries + 1
  | .held _ => 1
def uptoBulkAll {H : Type} : List (DataW H) → Nat
  | [] => 0
  | d :: r => uptoBulk d + uptoBulkAll r
def uptoBulkEntries {H : Type} : List (Lit × DataW H) → Nat
  | [] => 0
  | x :: r => uptoBulkEntry x + uptoBulkEntries r
def uptoBulkEntry {H : Type} : Lit × DataW H → Nat
  | (.string bytes, d) => bytes.length + uptoBulk d + 1
  | (_, d) => uptoBulk d + 1
 end
def uptoSmall : (H : Type) → List (DataW H) → Bool := fun _ ds => decide (uptoBulkAll ds ≤ 1048576)
def OpenSpec.upto (s : _root_.Go.ChangeSpec) : _root_.Go.OpenSpec := { _root_.Go.OpenSpec.ofChange s with cond := some uptoSmall }

/-- 'abugidalaw05.SymbolsTables', WHERE WHAT IT READS IS OF BULK AT MOST 1048576: true; the input reads as it did. -/
def symbolsTablesUptoRow : OpenClaim := { program := "ytfdmpbihepkjnaadoor", sum := "ad3d0ab7bd96c4045f254b8a64061ec688d208ad5d8b61e7d9f23f1e7bfb5122", func := "abugida/abugidalaw05.SymbolsTables", spec := "symbolsTables", inPlace := ["internal/abi.NoEscape"], unfollowed := true, recurses := true, named := ["unicode/utf8.first", "unicode/utf8.acceptRanges"], apart := false, laid := [("unicode/utf8.acceptRanges", laid_unicode_utf8_acceptRanges), ("unicode/utf8.first", laid_unicode_utf8_first)], narrowed := true }
def SymbolsTablesUptoSaid : Prop := symbolsTablesUptoRow.holds Tryd.pinned (OpenSpec.upto symbolsTablesSpec)

/-- 'abugidalaw05.SymbolsTokens', WHERE WHAT IT READS IS OF BULK AT MOST 1048576: true; the input reads as it did. -/
def symbolsTokensUptoRow : OpenClaim := { program := "ytfdmpbihepkjnaadoor", sum := "ad3d0ab7bd96c4045f254b8a64061ec688d208ad5d8b61e7d9f23f1e7bfb5122", func := "abugida/abugidalaw05.SymbolsTokens", spec := "symbolsTokens", inPlace := ["internal/abi.NoEscape"], unfollowed := true, recurses := true, named := ["unicode/utf8.first", "unicode/utf8.acceptRanges"], apart := false, laid := [("unicode/utf8.acceptRanges", laid_unicode_utf8_acceptRanges), ("unicode/utf8.first", laid_unicode_utf8_first)], narrowed := true }
def SymbolsTokensUptoSaid : Prop := symbolsTokensUptoRow.holds Tryd.pinned (OpenSpec.upto symbolsTokensSpec)

/-- 'abugidalaw05.SymbolsTexts', WHERE WHAT IT READS IS OF BULK AT MOST 1048576: true; the input reads as it did. -/
def symbolsTextsUptoRow : OpenClaim := { program := "ytfdmpbihepkjnaadoor", sum := "ad3d0ab7bd96c4045f254b8a64061ec688d208ad5d8b61e7d9f23f1e7bfb5122", func := "abugida/abugidalaw05.SymbolsTexts", spec := "symbolsTexts", inPlace := ["internal/abi.NoEscape"], unfollowed := true, recurses := true, named := ["unicode/utf8.first", "unicode/utf8.acceptRanges"], apart := false, laid := [("unicode/utf8.acceptRanges", laid_unicode_utf8_acceptRanges), ("unicode/utf8.first", laid_unicode_utf8_first)], narrowed := true }
def SymbolsTextsUptoSaid : Prop := symbolsTextsUptoRow.holds Tryd.pinned (OpenSpec.upto symbolsTextsSpec)

/-- 'abugidalaw05.SymbolsBack', WHERE WHAT IT READS IS OF BULK AT MOST 1048576: true; the input reads as it did. -/
def symbolsBackUptoRow : OpenClaim := { program := "ytfdmpbihepkjnaadoor", sum := "ad3d0ab7bd96c4045f254b8a64061ec688d208ad5d8b61e7d9f23f1e7bfb5122", func := "abugida/abugidalaw05.SymbolsBack", spec := "symbolsBack", inPlace := ["internal/abi.NoEscape"], unfollowed := true, recurses := true, named := ["unicode/utf8.first", "unicode/utf8.acceptRanges"], apart := false, laid := [("unicode/utf8.acceptRanges", laid_unicode_utf8_acceptRanges), ("unicode/utf8.first", laid_unicode_utf8_first)], narrowed := true }
def SymbolsBackUptoSaid : Prop := symbolsBackUptoRow.holds Tryd.pinned (OpenSpec.upto symbolsBackSpec)

/-- 'abugidalaw05.SymbolsMerges', WHERE WHAT IT READS IS OF BULK AT MOST 1048576: true; the input reads as it did. -/
def symbolsMergesUptoRow : OpenClaim := { program := "ytfdmpbihepkjnaadoor", sum := "ad3d0ab7bd96c4045f254b8a64061ec688d208ad5d8b61e7d9f23f1e7bfb5122", func := "abugida/abugidalaw05.SymbolsMerges", spec := "symbolsMerges", inPlace := ["internal/abi.NoEscape"], unfollowed := true, recurses := true, named := ["unicode/utf8.first", "unicode/utf8.acceptRanges"], apart := false, laid := [("unicode/utf8.acceptRanges", laid_unicode_utf8_acceptRanges), ("unicode/utf8.first", laid_unicode_utf8_first)], narrowed := true }
def SymbolsMergesUptoSaid : Prop := symbolsMergesUptoRow.holds Tryd.pinned (OpenSpec.upto symbolsMergesSpec)

/-- 'abugidalaw05.SymbolsNames', WHERE WHAT IT READS IS OF BULK AT MOST 1048576: true; the input reads as it did. -/
def symbolsNamesUptoRow : OpenClaim := { program := "ytfdmpbihepkjnaadoor", sum := "ad3d0ab7bd96c4045f254b8a64061ec688d208ad5d8b61e7d9f23f1e7bfb5122", func := "abugida/abugidalaw05.SymbolsNames", spec := "symbolsNames", inPlace := ["internal/abi.NoEscape"], unfollowed := true, recurses := true, named := ["unicode/utf8.first", "unicode/utf8.acceptRanges"], apart := false, laid := [("unicode/utf8.acceptRanges", laid_unicode_utf8_acceptRanges), ("unicode/utf8.first", laid_unicode_utf8_first)], narrowed := true }
def SymbolsNamesUptoSaid : Prop := symbolsNamesUptoRow.holds Tryd.pinned (OpenSpec.upto symbolsNamesSpec)

/-- 'abugidalaw05.SymbolsAdds', WHERE WHAT IT READS IS OF BULK AT MOST 1048576: true; the input reads as it did. -/
def symbolsAddsUptoRow : OpenClaim := { program := "ytfdmpbihepkjnaadoor", sum := "ad3d0ab7bd96c4045f254b8a64061ec688d208ad5d8b61e7d9f23f1e7bfb5122", func := "abugida/abugidalaw05.SymbolsAdds", spec := "symbolsAdds", inPlace := ["internal/abi.NoEscape"], unfollowed := true, recurses := true, named := ["unicode/utf8.first", "unicode/utf8.acceptRanges"], apart := false, laid := [("unicode/utf8.acceptRanges", laid_unicode_utf8_acceptRanges), ("unicode/utf8.first", laid_unicode_utf8_first)], narrowed := true }
def SymbolsAddsUptoSaid : Prop := symbolsAddsUptoRow.holds Tryd.pinned (OpenSpec.upto symbolsAddsSpec)

/-- 'abugidalaw05.SymbolsExamples', WHERE WHAT IT READS IS OF BULK AT MOST 1048576: true; the input reads as it did. -/
def symbolsExamplesUptoRow : OpenClaim := { program := "ytfdmpbihepkjnaadoor", sum := "ad3d0ab7bd96c4045f254b8a64061ec688d208ad5d8b61e7d9f23f1e7bfb5122", func := "abugida/abugidalaw05.SymbolsExamples", spec := "symbolsExamples", inPlace := ["internal/abi.NoEscape"], unfollowed := true, recurses := true, named := ["unicode/utf8.first", "unicode/utf8.acceptRanges"], apart := false, laid := [("unicode/utf8.acceptRanges", laid_unicode_utf8_acceptRanges), ("unicode/utf8.first", laid_unicode_utf8_first)], narrowed := true }
def SymbolsExamplesUptoSaid : Prop := symbolsExamplesUptoRow.holds Tryd.pinned (OpenSpec.upto symbolsExamplesSpec)

end Rows
end Go.Proofs.YtfdmpbihepkjnaaDoor

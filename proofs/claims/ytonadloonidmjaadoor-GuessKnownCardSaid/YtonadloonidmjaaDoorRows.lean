/-
  NARROWER THAN 'FOR EVERY INPUT', by the rows' own cells (each row's printed sentence says how): GuessOrder: laid · GuessExamples: laid · GuessLearns: laid · GuessGuesses: laid · GuessKnown: laid.
  DERIVED. THE GIVEN ROWS OF THIS SEAT. 5 by the template 'for every input the law returns true; each argument reads behind the call as it read before'; 0 by the template 'total and deterministic' (their statements: YtonadloonidmjaaDoorTotals.lean).
  GIVEN WITH THE SEED: the statements are not yours to turn. If you find one false, say at which input.
  Laid BY PROGRAM, IN A SANDBOX (cutbox-rows.mjs): the forced cells as the released guide's own fill.sh prints them over the translation 681da43e615c92e5… (all of the seat's roots in one cut). By AI agents, Wed Nov 11 2026. No macro, syntax, notation, axiom, sorry.
-/
import Derived.Test.YtonadloonidmjaaDoorChecked
import GoSem.PinnedTables
import GoSem.Claim
import GoSem.ClaimJoined
import GoSem.ClaimMapViews
import Derived.JoinedTies
import Derived.KernelRfl
namespace Go.Proofs.YtonadloonidmjaaDoor
/- THE CELL 'sum', in the pinned program and in every row, IS THE sha256 OF THE DUMP (.gsa) THAT YtonadloonidmjaaDoorProg.lean LOADS. Nothing in Lean hashes anything: it is a label: what it is worth is what the hold of that sum in a sandbox is worth. -/
noncomputable def Tryd.pinned : Pinned := { name := "ytonadloonidmjaadoor", sum := "681da43e615c92e5866218387745e5ed348efa8c11525e6b636de5096ba24d29", checked := Tryd.checked }
namespace Rows
def none {H : Type} : Left H := { results := [], args := [] }

/- WHAT THE LISTED PACKAGE-LEVEL VARIABLES READ AS WHEN THE CALL BEGINS. Each datum BY PROGRAM (the guide's laid-datum.mjs) off the statement by which the dump's own 'gosem.cut.vars' lays the variable. In a bare row this is a premise. The card (YtonadloonidmjaaDoorCards.lean) ties it to the program's text. -/
def laid_unicode_utf8_acceptRanges {H : Type} : DataW H := .agg [.agg [.lit (.int .u8 128), .lit (.int .u8 191)], .agg [.lit (.int .u8 160), .lit (.int .u8 191)], .agg [.lit (.int .u8 128), .lit (.int .u8 159)], .agg [.lit (.int .u8 144), .lit (.int .u8 191)], .agg [.lit (.int .u8 128), .lit (.int .u8 143)], .agg [.lit (.int .u8 0), .lit (.int .u8 0)], .agg [.lit (.int .u8 0), .lit (.int .u8 0)], .agg [.lit (.int .u8 0), .lit (.int .u8 0)], .agg [.lit (.int .u8 0), .lit (.int .u8 0)], .agg [.lit (.int .u8 0), .lit (.int .u8 0)], .agg [.lit (.int .u8 0), .lit (.int .u8 0)], .agg [.lit (.int .u8 0), .lit (.int .u8 0)], .agg [.lit (.int .u8 0), .lit (.int .u8 0)], .agg [.lit (.int .u8 0), .lit (.int .u8 0)], .agg [.lit (.int .u8 0), .lit (.int .u8 0)], .agg [.lit (.int .u8 0), .lit (.int .u8 0)]]
/-- One of Go's own tables, pinned by name: the form's constant. -/
def laid_unicode_utf8_first : DataW Unit := Go.Pinned.utf8First

/-- 'abugidalaw32.GuessOrder': WHATEVER THE INPUT: true; the input reads as it did. -/
def guessOrderSpec : ChangeSpec := { name := "guessOrder", fn := fun _ => fun
  | [d1, d2, d3] => { results := [.lit (.bool true)], args := [d1, d2, d3] }
  | _ => none }
def guessOrderRow : OpenClaim := { program := "ytonadloonidmjaadoor", sum := "681da43e615c92e5866218387745e5ed348efa8c11525e6b636de5096ba24d29", func := "abugida/abugidalaw32.GuessOrder", spec := "guessOrder", inPlace := ["internal/bytealg.abigen_runtime_cmpstring"], unfollowed := true, recurses := true, named := ["unicode/utf8.first", "unicode/utf8.acceptRanges"], plainKeys := false, apart := false, laid := [("unicode/utf8.acceptRanges", laid_unicode_utf8_acceptRanges), ("unicode/utf8.first", laid_unicode_utf8_first)] }
def GuessOrderSaid : Prop := guessOrderRow.holds Tryd.pinned (OpenSpec.ofChange guessOrderSpec)

/-- ITS FALSE NEIGHBOUR: 'it returns false'. Refute it at one input. -/
def guessOrderWrong : ChangeSpec := { name := "guessOrder", fn := fun _ => fun
  | [d1, d2, d3] => { results := [.lit (.bool false)], args := [d1, d2, d3] }
  | _ => none }
def GuessOrderWrongFalsely : Prop := guessOrderRow.holds Tryd.pinned (OpenSpec.ofChange guessOrderWrong)

/-- 'abugidalaw32.GuessExamples': WHATEVER THE INPUT: true; the input reads as it did. -/
def guessExamplesSpec : ChangeSpec := { name := "guessExamples", fn := fun _ => fun
  | [] => { results := [.lit (.bool true)], args := [] }
  | _ => none }
def guessExamplesRow : OpenClaim := { program := "ytonadloonidmjaadoor", sum := "681da43e615c92e5866218387745e5ed348efa8c11525e6b636de5096ba24d29", func := "abugida/abugidalaw32.GuessExamples", spec := "guessExamples", inPlace := ["internal/bytealg.abigen_runtime_cmpstring"], unfollowed := true, recurses := true, named := ["unicode/utf8.first", "unicode/utf8.acceptRanges"], plainKeys := false, apart := false, laid := [("unicode/utf8.acceptRanges", laid_unicode_utf8_acceptRanges), ("unicode/utf8.first", laid_unicode_utf8_first)] }
def GuessExamplesSaid : Prop := guessExamplesRow.holds Tryd.pinned (OpenSpec.ofChange guessExamplesSpec)

/-- ITS FALSE NEIGHBOUR: 'it returns false'. Refute it at one input. -/
def guessExamplesWrong : ChangeSpec := { name := "guessExamples", fn := fun _ => fun
  | [] => { results := [.lit (.bool false)], args := [] }
  | _ => none }
def GuessExamplesWrongFalsely : Prop := guessExamplesRow.holds Tryd.pinned (OpenSpec.ofChange guessExamplesWrong)

/-- 'abugidalaw32.GuessLearns': WHATEVER THE INPUT: true; the input reads as it did. -/
def guessLearnsSpec : ChangeSpec := { name := "guessLearns", fn := fun _ => fun
  | [d1, d2, d3] => { results := [.lit (.bool true)], args := [d1, d2, d3] }
  | _ => none }
def guessLearnsRow : OpenClaim := { program := "ytonadloonidmjaadoor", sum := "681da43e615c92e5866218387745e5ed348efa8c11525e6b636de5096ba24d29", func := "abugida/abugidalaw32.GuessLearns", spec := "guessLearns", inPlace := ["internal/bytealg.abigen_runtime_cmpstring"], unfollowed := true, recurses := true, named := ["unicode/utf8.first", "unicode/utf8.acceptRanges"], plainKeys := false, apart := false, laid := [("unicode/utf8.acceptRanges", laid_unicode_utf8_acceptRanges), ("unicode/utf8.first", laid_unicode_utf8_first)] }
def GuessLearnsSaid : Prop := guessLearnsRow.holds Tryd.pinned (OpenSpec.ofChange guessLearnsSpec)

/-- ITS FALSE NEIGHBOUR: 'it returns false'. Refute it at one input. -/
def guessLearnsWrong : ChangeSpec := { name := "guessLearns", fn := fun _ => fun
  | [d1, d2, d3] => { results := [.lit (.bool false)], args := [d1, d2, d3] }
  | _ => none }
def GuessLearnsWrongFalsely : Prop := guessLearnsRow.holds Tryd.pinned (OpenSpec.ofChange guessLearnsWrong)

/-- 'abugidalaw32.GuessGuesses': WHATEVER THE INPUT: true; the input reads as it did. -/
def guessGuessesSpec : ChangeSpec := { name := "guessGuesses", fn := fun _ => fun
  | [d1, d2] => { results := [.lit (.bool true)], args := [d1, d2] }
  | _ => none }
def guessGuessesRow : OpenClaim := { program := "ytonadloonidmjaadoor", sum := "681da43e615c92e5866218387745e5ed348efa8c11525e6b636de5096ba24d29", func := "abugida/abugidalaw32.GuessGuesses", spec := "guessGuesses", inPlace := ["internal/bytealg.abigen_runtime_cmpstring"], unfollowed := true, recurses := true, named := ["unicode/utf8.first", "unicode/utf8.acceptRanges"], plainKeys := false, apart := false, laid := [("unicode/utf8.acceptRanges", laid_unicode_utf8_acceptRanges), ("unicode/utf8.first", laid_unicode_utf8_first)] }
def GuessGuessesSaid : Prop := guessGuessesRow.holds Tryd.pinned (OpenSpec.ofChange guessGuessesSpec)

/-- ITS FALSE NEIGHBOUR: 'it returns false'. Refute it at one input. -/
def guessGuessesWrong : ChangeSpec := { name := "guessGuesses", fn := fun _ => fun
  | [d1, d2] => { results := [.lit (.bool false)], args := [d1, d2] }
  | _ => none }
def GuessGuessesWrongFalsely : Prop := guessGuessesRow.holds Tryd.pinned (OpenSpec.ofChange guessGuessesWrong)

/-- 'abugidalaw32.GuessKnown': WHATEVER THE INPUT: true; the input reads as it did. -/
def guessKnownSpec : ChangeSpec := { name := "guessKnown", fn := fun _ => fun
  | [d1, d2] => { results := [.lit (.bool true)], args := [d1, d2] }
  | _ => none }
def guessKnownRow : OpenClaim := { program := "ytonadloonidmjaadoor", sum := "681da43e615c92e5866218387745e5ed348efa8c11525e6b636de5096ba24d29", func := "abugida/abugidalaw32.GuessKnown", spec := "guessKnown", inPlace := ["internal/bytealg.abigen_runtime_cmpstring"], unfollowed := true, recurses := true, named := ["unicode/utf8.first", "unicode/utf8.acceptRanges"], plainKeys := false, apart := false, laid := [("unicode/utf8.acceptRanges", laid_unicode_utf8_acceptRanges), ("unicode/utf8.first", laid_unicode_utf8_first)] }
def GuessKnownSaid : Prop := guessKnownRow.holds Tryd.pinned (OpenSpec.ofChange guessKnownSpec)

/-- ITS FALSE NEIGHBOUR: 'it returns false'. Refute it at one input. -/
def guessKnownWrong : ChangeSpec := { name := "guessKnown", fn := fun _ => fun
  | [d1, d2] => { results := [.lit (.bool false)], args := [d1, d2] }
  | _ => none }
def GuessKnownWrongFalsely : Prop := guessKnownRow.holds Tryd.pinned (OpenSpec.ofChange guessKnownWrong)

/- THE SECOND FORM. 'bulk': how many values and letters a reading holds, each counted each time it is reached (what is shared counts as often as it is met; a slice's spare places count too). A statement '..UptoSaid' is the law's where the arguments, and the package variables that the reading takes, are together of bulk at most 1048576: NARROWER than '..Said'. Prove '..Said' where nothing that the law and all that it calls make is longer than what came in: it says more and counts as full. Else prove '..UptoSaid'. A law counts once. -/
mutual
def uptoBulk {H : Type} : DataW H → Nat
  | .lit (.string bytes) => bytes.length + 1
  | .lit _ => 1
  | .nil => 1
  | .ptr d => uptoBulk d + 1
  | .slice elems spare => uptoBulkAll elems + uptoBulkAll spare + 1
  | .agg parts => uptoBulkAll parts + 1
  | .iface _ d => uptoBulk d + 1
  | .map entries => uptoBulkEntries entries + 1
  | .held _ => 1
def uptoBulkAll {H : Type} : List (DataW H) → Nat
  | [] => 0
  | d :: r => uptoBulk d + uptoBulkAll r
def uptoBulkEntries {H : Type} : List (Lit × DataW H) → Nat
  | [] => 0
  | x :: r => uptoBulkEntry x + uptoBulkEntries r
def uptoBulkEntry {H : Type} : Lit × DataW H → Nat
  | (.string bytes, d) => bytes.length + uptoBulk d + 1
  | (_, d) => uptoBulk d + 1
 end
def uptoSmall : (H : Type) → List (DataW H) → Bool := fun _ ds => decide (uptoBulkAll ds ≤ 1048576)
def OpenSpec.upto (s : _root_.Go.ChangeSpec) : _root_.Go.OpenSpec := { _root_.Go.OpenSpec.ofChange s with cond := some uptoSmall }

/-- 'abugidalaw32.GuessOrder', WHERE WHAT IT READS IS OF BULK AT MOST 1048576: true; the input reads as it did. -/
def guessOrderUptoRow : OpenClaim := { program := "ytonadloonidmjaadoor", sum := "681da43e615c92e5866218387745e5ed348efa8c11525e6b636de5096ba24d29", func := "abugida/abugidalaw32.GuessOrder", spec := "guessOrder", inPlace := ["internal/bytealg.abigen_runtime_cmpstring"], unfollowed := true, recurses := true, named := ["unicode/utf8.first", "unicode/utf8.acceptRanges"], plainKeys := false, apart := false, laid := [("unicode/utf8.acceptRanges", laid_unicode_utf8_acceptRanges), ("unicode/utf8.first", laid_unicode_utf8_first)], narrowed := true }
def GuessOrderUptoSaid : Prop := guessOrderUptoRow.holds Tryd.pinned (OpenSpec.upto guessOrderSpec)

/-- 'abugidalaw32.GuessExamples', WHERE WHAT IT READS IS OF BULK AT MOST 1048576: true; the input reads as it did. -/
def guessExamplesUptoRow : OpenClaim := { program := "ytonadloonidmjaadoor", sum := "681da43e615c92e5866218387745e5ed348efa8c11525e6b636de5096ba24d29", func := "abugida/abugidalaw32.GuessExamples", spec := "guessExamples", inPlace := ["internal/bytealg.abigen_runtime_cmpstring"], unfollowed := true, recurses := true, named := ["unicode/utf8.first", "unicode/utf8.acceptRanges"], plainKeys := false, apart := false, laid := [("unicode/utf8.acceptRanges", laid_unicode_utf8_acceptRanges), ("unicode/utf8.first", laid_unicode_utf8_first)], narrowed := true }
def GuessExamplesUptoSaid : Prop := guessExamplesUptoRow.holds Tryd.pinned (OpenSpec.upto guessExamplesSpec)

/-- 'abugidalaw32.GuessLearns', WHERE WHAT IT READS IS OF BULK AT MOST 1048576: true; the input reads as it did. -/
def guessLearnsUptoRow : OpenClaim := { program := "ytonadloonidmjaadoor", sum := "681da43e615c92e5866218387745e5ed348efa8c11525e6b636de5096ba24d29", func := "abugida/abugidalaw32.GuessLearns", spec := "guessLearns", inPlace := ["internal/bytealg.abigen_runtime_cmpstring"], unfollowed := true, recurses := true, named := ["unicode/utf8.first", "unicode/utf8.acceptRanges"], plainKeys := false, apart := false, laid := [("unicode/utf8.acceptRanges", laid_unicode_utf8_acceptRanges), ("unicode/utf8.first", laid_unicode_utf8_first)], narrowed := true }
def GuessLearnsUptoSaid : Prop := guessLearnsUptoRow.holds Tryd.pinned (OpenSpec.upto guessLearnsSpec)

/-- 'abugidalaw32.GuessGuesses', WHERE WHAT IT READS IS OF BULK AT MOST 1048576: true; the input reads as it did. -/
def guessGuessesUptoRow : OpenClaim := { program := "ytonadloonidmjaadoor", sum := "681da43e615c92e5866218387745e5ed348efa8c11525e6b636de5096ba24d29", func := "abugida/abugidalaw32.GuessGuesses", spec := "guessGuesses", inPlace := ["internal/bytealg.abigen_runtime_cmpstring"], unfollowed := true, recurses := true, named := ["unicode/utf8.first", "unicode/utf8.acceptRanges"], plainKeys := false, apart := false, laid := [("unicode/utf8.acceptRanges", laid_unicode_utf8_acceptRanges), ("unicode/utf8.first", laid_unicode_utf8_first)], narrowed := true }
def GuessGuessesUptoSaid : Prop := guessGuessesUptoRow.holds Tryd.pinned (OpenSpec.upto guessGuessesSpec)

/-- 'abugidalaw32.GuessKnown', WHERE WHAT IT READS IS OF BULK AT MOST 1048576: true; the input reads as it did. -/
def guessKnownUptoRow : OpenClaim := { program := "ytonadloonidmjaadoor", sum := "681da43e615c92e5866218387745e5ed348efa8c11525e6b636de5096ba24d29", func := "abugida/abugidalaw32.GuessKnown", spec := "guessKnown", inPlace := ["internal/bytealg.abigen_runtime_cmpstring"], unfollowed := true, recurses := true, named := ["unicode/utf8.first", "unicode/utf8.acceptRanges"], plainKeys := false, apart := false, laid := [("unicode/utf8.acceptRanges", laid_unicode_utf8_acceptRanges), ("unicode/utf8.first", laid_unicode_utf8_first)], narrowed := true }
def GuessKnownUptoSaid : Prop := guessKnownUptoRow.holds Tryd.pinned (OpenSpec.upto guessKnownSpec)

end Rows
end Go.Proofs.YtonadloonidmjaaDoor

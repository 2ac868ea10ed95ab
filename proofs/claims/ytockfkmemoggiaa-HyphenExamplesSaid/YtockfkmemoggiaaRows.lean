/-
  No cell of these rows narrows 'for every input' (looked for: loops, veiled, ifaces, maps, wideKeys, modest, calm, conditions, laid).
  DERIVED. THE GIVEN ROWS OF THIS SEAT. 4 by the template 'for every input the law returns true; each argument reads behind the call as it read before'; 0 by the template 'total and deterministic' (their statements: YtockfkmemoggiaaTotals.lean).
  GIVEN WITH THE SEED: the statements are not yours to turn. If you find one false, say at which input.
  Laid BY PROGRAM, IN A SANDBOX (cutbox-rows.mjs): the forced cells as the released guide's own fill.sh prints them over the translation ab165abfde91e928… (all of the seat's roots in one cut). By AI agents, Wed Nov 11 2026. No macro, syntax, notation, axiom, sorry.
-/
import Derived.Test.YtockfkmemoggiaaChecked
import GoSem.Claim
import GoSem.ClaimJoined
import GoSem.ClaimMapViews
import Derived.JoinedTies
import Derived.KernelRfl
namespace Go.Proofs.Ytockfkmemoggiaa
/- THE CELL 'sum', in the pinned program and in every row, IS THE sha256 OF THE DUMP (.gsa) THAT YtockfkmemoggiaaProg.lean LOADS. Nothing in Lean hashes anything: it is a label: what it is worth is what the hold of that sum in a sandbox is worth. -/
noncomputable def Try.pinned : Pinned := { name := "ytockfkmemoggiaa", sum := "ab165abfde91e92876aa63a758051cbd51fbe9fd17b83583bf7bac68984992eb", checked := Try.checked }
namespace Rows
def none {H : Type} : Left H := { results := [], args := [] }

/-- 'abugidalaw39.HyphenDivides': WHATEVER THE INPUT: true; the input reads as it did. -/
def hyphenDividesSpec : ChangeSpec := { name := "hyphenDivides", fn := fun _ => fun
  | [d1, d2, d3] => { results := [.lit (.bool true)], args := [d1, d2, d3] }
  | _ => none }
def hyphenDividesRow : OpenClaim := { program := "ytockfkmemoggiaa", sum := "ab165abfde91e92876aa63a758051cbd51fbe9fd17b83583bf7bac68984992eb", func := "abugida/abugidalaw39.HyphenDivides", spec := "hyphenDivides", unfollowed := true, recurses := true, plainKeys := false, apart := false }
def HyphenDividesSaid : Prop := hyphenDividesRow.holds Try.pinned (OpenSpec.ofChange hyphenDividesSpec)

/-- ITS FALSE NEIGHBOUR: 'it returns false'. Refute it at one input. -/
def hyphenDividesWrong : ChangeSpec := { name := "hyphenDivides", fn := fun _ => fun
  | [d1, d2, d3] => { results := [.lit (.bool false)], args := [d1, d2, d3] }
  | _ => none }
def HyphenDividesWrongFalsely : Prop := hyphenDividesRow.holds Try.pinned (OpenSpec.ofChange hyphenDividesWrong)

/-- 'abugidalaw39.HyphenWhole': WHATEVER THE INPUT: true; the input reads as it did. -/
def hyphenWholeSpec : ChangeSpec := { name := "hyphenWhole", fn := fun _ => fun
  | [d1, d2, d3] => { results := [.lit (.bool true)], args := [d1, d2, d3] }
  | _ => none }
def hyphenWholeRow : OpenClaim := { program := "ytockfkmemoggiaa", sum := "ab165abfde91e92876aa63a758051cbd51fbe9fd17b83583bf7bac68984992eb", func := "abugida/abugidalaw39.HyphenWhole", spec := "hyphenWhole", unfollowed := true, recurses := true, plainKeys := false, apart := false }
def HyphenWholeSaid : Prop := hyphenWholeRow.holds Try.pinned (OpenSpec.ofChange hyphenWholeSpec)

/-- ITS FALSE NEIGHBOUR: 'it returns false'. Refute it at one input. -/
def hyphenWholeWrong : ChangeSpec := { name := "hyphenWhole", fn := fun _ => fun
  | [d1, d2, d3] => { results := [.lit (.bool false)], args := [d1, d2, d3] }
  | _ => none }
def HyphenWholeWrongFalsely : Prop := hyphenWholeRow.holds Try.pinned (OpenSpec.ofChange hyphenWholeWrong)

/-- 'abugidalaw39.HyphenOnsets': WHATEVER THE INPUT: true; the input reads as it did. -/
def hyphenOnsetsSpec : ChangeSpec := { name := "hyphenOnsets", fn := fun _ => fun
  | [d1, d2, d3] => { results := [.lit (.bool true)], args := [d1, d2, d3] }
  | _ => none }
def hyphenOnsetsRow : OpenClaim := { program := "ytockfkmemoggiaa", sum := "ab165abfde91e92876aa63a758051cbd51fbe9fd17b83583bf7bac68984992eb", func := "abugida/abugidalaw39.HyphenOnsets", spec := "hyphenOnsets", unfollowed := true, recurses := true, plainKeys := false, apart := false }
def HyphenOnsetsSaid : Prop := hyphenOnsetsRow.holds Try.pinned (OpenSpec.ofChange hyphenOnsetsSpec)

/-- ITS FALSE NEIGHBOUR: 'it returns false'. Refute it at one input. -/
def hyphenOnsetsWrong : ChangeSpec := { name := "hyphenOnsets", fn := fun _ => fun
  | [d1, d2, d3] => { results := [.lit (.bool false)], args := [d1, d2, d3] }
  | _ => none }
def HyphenOnsetsWrongFalsely : Prop := hyphenOnsetsRow.holds Try.pinned (OpenSpec.ofChange hyphenOnsetsWrong)

/-- 'abugidalaw39.HyphenExamples': WHATEVER THE INPUT: true; the input reads as it did. -/
def hyphenExamplesSpec : ChangeSpec := { name := "hyphenExamples", fn := fun _ => fun
  | [] => { results := [.lit (.bool true)], args := [] }
  | _ => none }
def hyphenExamplesRow : OpenClaim := { program := "ytockfkmemoggiaa", sum := "ab165abfde91e92876aa63a758051cbd51fbe9fd17b83583bf7bac68984992eb", func := "abugida/abugidalaw39.HyphenExamples", spec := "hyphenExamples", unfollowed := true, recurses := true, plainKeys := false, apart := false }
def HyphenExamplesSaid : Prop := hyphenExamplesRow.holds Try.pinned (OpenSpec.ofChange hyphenExamplesSpec)

/-- ITS FALSE NEIGHBOUR: 'it returns false'. Refute it at one input. -/
def hyphenExamplesWrong : ChangeSpec := { name := "hyphenExamples", fn := fun _ => fun
  | [] => { results := [.lit (.bool false)], args := [] }
  | _ => none }
def HyphenExamplesWrongFalsely : Prop := hyphenExamplesRow.holds Try.pinned (OpenSpec.ofChange hyphenExamplesWrong)

/- THE SECOND FORM. 'bulk': how many values and letters a reading holds, each counted each time it is reached (what is shared counts as often as it is met; a slice's spare places count too). A statement '..UptoSaid' is the law's where the arguments, and the package variables that the reading takes, are together of bulk at most 1048576: NARROWER than '..Said'. Prove '..Said' where nothing that the law and all that it calls make is longer than what came in: it says more and counts as full. Else prove '..UptoSaid'. A law counts once. -/
mutual
def uptoBulk {H : Type} : DataW H → Nat
  | .lit (.string bytes) => bytes.length + 1
  | .lit _ => 1
  | .nil => 1
  | .ptr d => uptoBulk d + 1
  | .slice elems spare => uptoBulkAll elems + uptoBulkAll spare + 1
  | .agg parts => uptoBulkAll parts + 1
  | .iface _ d => uptoBulk d + 1
  | .map entries => uptoBulkEntries entries + 1
  | .held _ => 1
def uptoBulkAll {H : Type} : List (DataW H) → Nat
  | [] => 0
  | d :: r => uptoBulk d + uptoBulkAll r
def uptoBulkEntries {H : Type} : List (Lit × DataW H) → Nat
  | [] => 0
  | x :: r => uptoBulkEntry x + uptoBulkEntries r
def uptoBulkEntry {H : Type} : Lit × DataW H → Nat
  | (.string bytes, d) => bytes.length + uptoBulk d + 1
  | (_, d) => uptoBulk d + 1
 end
def uptoSmall : (H : Type) → List (DataW H) → Bool := fun _ ds => decide (uptoBulkAll ds ≤ 1048576)
def OpenSpec.upto (s : _root_.Go.ChangeSpec) : _root_.Go.OpenSpec := { _root_.Go.OpenSpec.ofChange s with cond := some uptoSmall }

/-- 'abugidalaw39.HyphenDivides', WHERE WHAT IT READS IS OF BULK AT MOST 1048576: true; the input reads as it did. -/
def hyphenDividesUptoRow : OpenClaim := { program := "ytockfkmemoggiaa", sum := "ab165abfde91e92876aa63a758051cbd51fbe9fd17b83583bf7bac68984992eb", func := "abugida/abugidalaw39.HyphenDivides", spec := "hyphenDivides", unfollowed := true, recurses := true, plainKeys := false, apart := false, narrowed := true }
def HyphenDividesUptoSaid : Prop := hyphenDividesUptoRow.holds Try.pinned (OpenSpec.upto hyphenDividesSpec)

/-- 'abugidalaw39.HyphenWhole', WHERE WHAT IT READS IS OF BULK AT MOST 1048576: true; the input reads as it did. -/
def hyphenWholeUptoRow : OpenClaim := { program := "ytockfkmemoggiaa", sum := "ab165abfde91e92876aa63a758051cbd51fbe9fd17b83583bf7bac68984992eb", func := "abugida/abugidalaw39.HyphenWhole", spec := "hyphenWhole", unfollowed := true, recurses := true, plainKeys := false, apart := false, narrowed := true }
def HyphenWholeUptoSaid : Prop := hyphenWholeUptoRow.holds Try.pinned (OpenSpec.upto hyphenWholeSpec)

/-- 'abugidalaw39.HyphenOnsets', WHERE WHAT IT READS IS OF BULK AT MOST 1048576: true; the input reads as it did. -/
def hyphenOnsetsUptoRow : OpenClaim := { program := "ytockfkmemoggiaa", sum := "ab165abfde91e92876aa63a758051cbd51fbe9fd17b83583bf7bac68984992eb", func := "abugida/abugidalaw39.HyphenOnsets", spec := "hyphenOnsets", unfollowed := true, recurses := true, plainKeys := false, apart := false, narrowed := true }
def HyphenOnsetsUptoSaid : Prop := hyphenOnsetsUptoRow.holds Try.pinned (OpenSpec.upto hyphenOnsetsSpec)

/-- 'abugidalaw39.HyphenExamples', WHERE WHAT IT READS IS OF BULK AT MOST 1048576: true; the input reads as it did. -/
def hyphenExamplesUptoRow : OpenClaim := { program := "ytockfkmemoggiaa", sum := "ab165abfde91e92876aa63a758051cbd51fbe9fd17b83583bf7bac68984992eb", func := "abugida/abugidalaw39.HyphenExamples", spec := "hyphenExamples", unfollowed := true, recurses := true, plainKeys := false, apart := false, narrowed := true }
def HyphenExamplesUptoSaid : Prop := hyphenExamplesUptoRow.holds Try.pinned (OpenSpec.upto hyphenExamplesSpec)

end Rows
end Go.Proofs.Ytockfkmemoggiaa

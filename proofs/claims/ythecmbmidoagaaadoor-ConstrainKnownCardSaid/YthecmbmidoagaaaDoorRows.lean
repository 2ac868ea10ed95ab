/-
  NARROWER THAN 'FOR EVERY INPUT', by the rows' own cells (each row's printed sentence says how): ConstrainHas: laid · ConstrainHolds: laid · ConstrainSteps: laid · ConstrainApplies: laid · ConstrainKeeps: laid · ConstrainAgain: laid · ConstrainReplays: laid · ConstrainOpposite: laid · ConstrainKnown: laid.
  DERIVED. THE GIVEN ROWS OF THIS SEAT. 9 by the template 'for every input the law returns true; each argument reads behind the call as it read before'; 0 by the template 'total and deterministic' (their statements: YthecmbmidoagaaaDoorTotals.lean).
  GIVEN WITH THE SEED: the statements are not yours to turn. If you find one false, say at which input.
  Laid BY PROGRAM, IN A SANDBOX (cutbox-rows.mjs): the forced cells as the released guide's own fill.sh prints them over the translation b41ddc7759bc21ed… (all of the seat's roots in one cut). By AI agents, Wed Nov 11 2026. No macro, syntax, notation, axiom, sorry.
-/
import Derived.Test.YthecmbmidoagaaaDoorChecked
import GoSem.PinnedTables
import GoSem.Claim
import GoSem.ClaimJoined
import GoSem.ClaimMapViews
import Derived.JoinedTies
import Derived.KernelRfl
namespace Go.Proofs.YthecmbmidoagaaaDoor
/- THE CELL 'sum', in the pinned program and in every row, IS THE sha256 OF THE DUMP (.gsa) THAT YthecmbmidoagaaaDoorProg.lean LOADS. Nothing in Lean hashes anything: it is a label: what it is worth is what the hold of that sum in a sandbox is worth. -/
noncomputable def Tryd.pinned : Pinned := { name := "ythecmbmidoagaaadoor", sum := "b41ddc7759bc21ed9bb960ea9dc4b9ff9a50bf610fc53971cfc397662d3dbef8", checked := Tryd.checked }
namespace Rows
def none {H : Type} : Left H := { results := [], args := [] }

/- WHAT THE LISTED PACKAGE-LEVEL VARIABLES READ AS WHEN THE CALL BEGINS. Each datum BY PROGRAM (the guide's laid-datum.mjs) off the statement by which the dump's own 'gosem.cut.vars' lays the variable. In a bare row this is a premise. The card (YthecmbmidoagaaaDoorCards.lean) ties it to the program's text. -/
def laid_unicode_utf8_acceptRanges {H : Type} : DataW H := .agg [.agg [.lit (.int .u8 128), .lit (.int .u8 191)], .agg [.lit (.int .u8 160), .lit (.int .u8 191)], .agg [.lit (.int .u8 128), .lit (.int .u8 159)], .agg [.lit (.int .u8 144), .lit (.int .u8 191)], .agg [.lit (.int .u8 128), .lit (.int .u8 143)], .agg [.lit (.int .u8 0), .lit (.int .u8 0)], .agg [.lit (.int .u8 0), .lit (.int .u8 0)], .agg [.lit (.int .u8 0), .lit (.int .u8 0)], .agg [.lit (.int .u8 0), .lit (.int .u8 0)], .agg [.lit (.int .u8 0), .lit (.int .u8 0)], .agg [.lit (.int .u8 0), .lit (.int .u8 0)], .agg [.lit (.int .u8 0), .lit (.int .u8 0)], .agg [.lit (.int .u8 0), .lit (.int .u8 0)], .agg [.lit (.int .u8 0), .lit (.int .u8 0)], .agg [.lit (.int .u8 0), .lit (.int .u8 0)], .agg [.lit (.int .u8 0), .lit (.int .u8 0)]]
/-- One of Go's own tables, pinned by name: the form's constant. -/
def laid_unicode_utf8_first : DataW Unit := Go.Pinned.utf8First

/-- 'abugidalaw34.ConstrainHas': WHATEVER THE INPUT: true; the input reads as it did. -/
def constrainHasSpec : ChangeSpec := { name := "constrainHas", fn := fun _ => fun
  | [d1, d2] => { results := [.lit (.bool true)], args := [d1, d2] }
  | _ => none }
def constrainHasRow : OpenClaim := { program := "ythecmbmidoagaaadoor", sum := "b41ddc7759bc21ed9bb960ea9dc4b9ff9a50bf610fc53971cfc397662d3dbef8", func := "abugida/abugidalaw34.ConstrainHas", spec := "constrainHas", unfollowed := true, recurses := true, named := ["unicode/utf8.first", "unicode/utf8.acceptRanges"], apart := false, laid := [("unicode/utf8.acceptRanges", laid_unicode_utf8_acceptRanges), ("unicode/utf8.first", laid_unicode_utf8_first)] }
def ConstrainHasSaid : Prop := constrainHasRow.holds Tryd.pinned (OpenSpec.ofChange constrainHasSpec)

/-- ITS FALSE NEIGHBOUR: 'it returns false'. Refute it at one input. -/
def constrainHasWrong : ChangeSpec := { name := "constrainHas", fn := fun _ => fun
  | [d1, d2] => { results := [.lit (.bool false)], args := [d1, d2] }
  | _ => none }
def ConstrainHasWrongFalsely : Prop := constrainHasRow.holds Tryd.pinned (OpenSpec.ofChange constrainHasWrong)

/-- 'abugidalaw34.ConstrainHolds': WHATEVER THE INPUT: true; the input reads as it did. -/
def constrainHoldsSpec : ChangeSpec := { name := "constrainHolds", fn := fun _ => fun
  | [d1, d2, d3] => { results := [.lit (.bool true)], args := [d1, d2, d3] }
  | _ => none }
def constrainHoldsRow : OpenClaim := { program := "ythecmbmidoagaaadoor", sum := "b41ddc7759bc21ed9bb960ea9dc4b9ff9a50bf610fc53971cfc397662d3dbef8", func := "abugida/abugidalaw34.ConstrainHolds", spec := "constrainHolds", unfollowed := true, recurses := true, named := ["unicode/utf8.first", "unicode/utf8.acceptRanges"], apart := false, laid := [("unicode/utf8.acceptRanges", laid_unicode_utf8_acceptRanges), ("unicode/utf8.first", laid_unicode_utf8_first)] }
def ConstrainHoldsSaid : Prop := constrainHoldsRow.holds Tryd.pinned (OpenSpec.ofChange constrainHoldsSpec)

/-- ITS FALSE NEIGHBOUR: 'it returns false'. Refute it at one input. -/
def constrainHoldsWrong : ChangeSpec := { name := "constrainHolds", fn := fun _ => fun
  | [d1, d2, d3] => { results := [.lit (.bool false)], args := [d1, d2, d3] }
  | _ => none }
def ConstrainHoldsWrongFalsely : Prop := constrainHoldsRow.holds Tryd.pinned (OpenSpec.ofChange constrainHoldsWrong)

/-- 'abugidalaw34.ConstrainSteps': WHATEVER THE INPUT: true; the input reads as it did. -/
def constrainStepsSpec : ChangeSpec := { name := "constrainSteps", fn := fun _ => fun
  | [d1, d2, d3] => { results := [.lit (.bool true)], args := [d1, d2, d3] }
  | _ => none }
def constrainStepsRow : OpenClaim := { program := "ythecmbmidoagaaadoor", sum := "b41ddc7759bc21ed9bb960ea9dc4b9ff9a50bf610fc53971cfc397662d3dbef8", func := "abugida/abugidalaw34.ConstrainSteps", spec := "constrainSteps", unfollowed := true, recurses := true, named := ["unicode/utf8.first", "unicode/utf8.acceptRanges"], apart := false, laid := [("unicode/utf8.acceptRanges", laid_unicode_utf8_acceptRanges), ("unicode/utf8.first", laid_unicode_utf8_first)] }
def ConstrainStepsSaid : Prop := constrainStepsRow.holds Tryd.pinned (OpenSpec.ofChange constrainStepsSpec)

/-- ITS FALSE NEIGHBOUR: 'it returns false'. Refute it at one input. -/
def constrainStepsWrong : ChangeSpec := { name := "constrainSteps", fn := fun _ => fun
  | [d1, d2, d3] => { results := [.lit (.bool false)], args := [d1, d2, d3] }
  | _ => none }
def ConstrainStepsWrongFalsely : Prop := constrainStepsRow.holds Tryd.pinned (OpenSpec.ofChange constrainStepsWrong)

/-- 'abugidalaw34.ConstrainApplies': WHATEVER THE INPUT: true; the input reads as it did. -/
def constrainAppliesSpec : ChangeSpec := { name := "constrainApplies", fn := fun _ => fun
  | [d1, d2] => { results := [.lit (.bool true)], args := [d1, d2] }
  | _ => none }
def constrainAppliesRow : OpenClaim := { program := "ythecmbmidoagaaadoor", sum := "b41ddc7759bc21ed9bb960ea9dc4b9ff9a50bf610fc53971cfc397662d3dbef8", func := "abugida/abugidalaw34.ConstrainApplies", spec := "constrainApplies", unfollowed := true, recurses := true, named := ["unicode/utf8.first", "unicode/utf8.acceptRanges"], apart := false, laid := [("unicode/utf8.acceptRanges", laid_unicode_utf8_acceptRanges), ("unicode/utf8.first", laid_unicode_utf8_first)] }
def ConstrainAppliesSaid : Prop := constrainAppliesRow.holds Tryd.pinned (OpenSpec.ofChange constrainAppliesSpec)

/-- ITS FALSE NEIGHBOUR: 'it returns false'. Refute it at one input. -/
def constrainAppliesWrong : ChangeSpec := { name := "constrainApplies", fn := fun _ => fun
  | [d1, d2] => { results := [.lit (.bool false)], args := [d1, d2] }
  | _ => none }
def ConstrainAppliesWrongFalsely : Prop := constrainAppliesRow.holds Tryd.pinned (OpenSpec.ofChange constrainAppliesWrong)

/-- 'abugidalaw34.ConstrainKeeps': WHATEVER THE INPUT: true; the input reads as it did. -/
def constrainKeepsSpec : ChangeSpec := { name := "constrainKeeps", fn := fun _ => fun
  | [d1, d2] => { results := [.lit (.bool true)], args := [d1, d2] }
  | _ => none }
def constrainKeepsRow : OpenClaim := { program := "ythecmbmidoagaaadoor", sum := "b41ddc7759bc21ed9bb960ea9dc4b9ff9a50bf610fc53971cfc397662d3dbef8", func := "abugida/abugidalaw34.ConstrainKeeps", spec := "constrainKeeps", unfollowed := true, recurses := true, named := ["unicode/utf8.first", "unicode/utf8.acceptRanges"], apart := false, laid := [("unicode/utf8.acceptRanges", laid_unicode_utf8_acceptRanges), ("unicode/utf8.first", laid_unicode_utf8_first)] }
def ConstrainKeepsSaid : Prop := constrainKeepsRow.holds Tryd.pinned (OpenSpec.ofChange constrainKeepsSpec)

/-- ITS FALSE NEIGHBOUR: 'it returns false'. Refute it at one input. -/
def constrainKeepsWrong : ChangeSpec := { name := "constrainKeeps", fn := fun _ => fun
  | [d1, d2] => { results := [.lit (.bool false)], args := [d1, d2] }
  | _ => none }
def ConstrainKeepsWrongFalsely : Prop := constrainKeepsRow.holds Tryd.pinned (OpenSpec.ofChange constrainKeepsWrong)

/-- 'abugidalaw34.ConstrainAgain': WHATEVER THE INPUT: true; the input reads as it did. -/
def constrainAgainSpec : ChangeSpec := { name := "constrainAgain", fn := fun _ => fun
  | [d1, d2] => { results := [.lit (.bool true)], args := [d1, d2] }
  | _ => none }
def constrainAgainRow : OpenClaim := { program := "ythecmbmidoagaaadoor", sum := "b41ddc7759bc21ed9bb960ea9dc4b9ff9a50bf610fc53971cfc397662d3dbef8", func := "abugida/abugidalaw34.ConstrainAgain", spec := "constrainAgain", unfollowed := true, recurses := true, named := ["unicode/utf8.first", "unicode/utf8.acceptRanges"], apart := false, laid := [("unicode/utf8.acceptRanges", laid_unicode_utf8_acceptRanges), ("unicode/utf8.first", laid_unicode_utf8_first)] }
def ConstrainAgainSaid : Prop := constrainAgainRow.holds Tryd.pinned (OpenSpec.ofChange constrainAgainSpec)

/-- ITS FALSE NEIGHBOUR: 'it returns false'. Refute it at one input. -/
def constrainAgainWrong : ChangeSpec := { name := "constrainAgain", fn := fun _ => fun
  | [d1, d2] => { results := [.lit (.bool false)], args := [d1, d2] }
  | _ => none }
def ConstrainAgainWrongFalsely : Prop := constrainAgainRow.holds Tryd.pinned (OpenSpec.ofChange constrainAgainWrong)

/-- 'abugidalaw34.ConstrainReplays': WHATEVER THE INPUT: true; the input reads as it did. -/
def constrainReplaysSpec : ChangeSpec := { name := "constrainReplays", fn := fun _ => fun
  | [d1, d2] => { results := [.lit (.bool true)], args := [d1, d2] }
  | _ => none }
def constrainReplaysRow : OpenClaim := { program := "ythecmbmidoagaaadoor", sum := "b41ddc7759bc21ed9bb960ea9dc4b9ff9a50bf610fc53971cfc397662d3dbef8", func := "abugida/abugidalaw34.ConstrainReplays", spec := "constrainReplays", unfollowed := true, recurses := true, named := ["unicode/utf8.first", "unicode/utf8.acceptRanges"], apart := false, laid := [("unicode/utf8.acceptRanges", laid_unicode_utf8_acceptRanges), ("unicode/utf8.first", laid_unicode_utf8_first)] }
def ConstrainReplaysSaid : Prop := constrainReplaysRow.holds Tryd.pinned (OpenSpec.ofChange constrainReplaysSpec)

/-- ITS FALSE NEIGHBOUR: 'it returns false'. Refute it at one input. -/
def constrainReplaysWrong : ChangeSpec := { name := "constrainReplays", fn := fun _ => fun
  | [d1, d2] => { results := [.lit (.bool false)], args := [d1, d2] }
  | _ => none }
def ConstrainReplaysWrongFalsely : Prop := constrainReplaysRow.holds Tryd.pinned (OpenSpec.ofChange constrainReplaysWrong)

/-- 'abugidalaw34.ConstrainOpposite': WHATEVER THE INPUT: true; the input reads as it did. -/
def constrainOppositeSpec : ChangeSpec := { name := "constrainOpposite", fn := fun _ => fun
  | [d1, d2, d3, d4] => { results := [.lit (.bool true)], args := [d1, d2, d3, d4] }
  | _ => none }
def constrainOppositeRow : OpenClaim := { program := "ythecmbmidoagaaadoor", sum := "b41ddc7759bc21ed9bb960ea9dc4b9ff9a50bf610fc53971cfc397662d3dbef8", func := "abugida/abugidalaw34.ConstrainOpposite", spec := "constrainOpposite", unfollowed := true, recurses := true, named := ["unicode/utf8.first", "unicode/utf8.acceptRanges"], apart := false, laid := [("unicode/utf8.acceptRanges", laid_unicode_utf8_acceptRanges), ("unicode/utf8.first", laid_unicode_utf8_first)] }
def ConstrainOppositeSaid : Prop := constrainOppositeRow.holds Tryd.pinned (OpenSpec.ofChange constrainOppositeSpec)

/-- ITS FALSE NEIGHBOUR: 'it returns false'. Refute it at one input. -/
def constrainOppositeWrong : ChangeSpec := { name := "constrainOpposite", fn := fun _ => fun
  | [d1, d2, d3, d4] => { results := [.lit (.bool false)], args := [d1, d2, d3, d4] }
  | _ => none }
def ConstrainOppositeWrongFalsely : Prop := constrainOppositeRow.holds Tryd.pinned (OpenSpec.ofChange constrainOppositeWrong)

/-- 'abugidalaw34.ConstrainKnown': WHATEVER THE INPUT: true; the input reads as it did. -/
def constrainKnownSpec : ChangeSpec := { name := "constrainKnown", fn := fun _ => fun
  | [] => { results := [.lit (.bool true)], args := [] }
  | _ => none }
def constrainKnownRow : OpenClaim := { program := "ythecmbmidoagaaadoor", sum := "b41ddc7759bc21ed9bb960ea9dc4b9ff9a50bf610fc53971cfc397662d3dbef8", func := "abugida/abugidalaw34.ConstrainKnown", spec := "constrainKnown", unfollowed := true, recurses := true, named := ["unicode/utf8.first", "unicode/utf8.acceptRanges"], apart := false, laid := [("unicode/utf8.acceptRanges", laid_unicode_utf8_acceptRanges), ("unicode/utf8.first", laid_unicode_utf8_first)] }
def ConstrainKnownSaid : Prop := constrainKnownRow.holds Tryd.pinned (OpenSpec.ofChange constrainKnownSpec)

/-- ITS FALSE NEIGHBOUR: 'it returns false'. Refute it at one input. -/
def constrainKnownWrong : ChangeSpec := { name := "constrainKnown", fn := fun _ => fun
  | [] => { results := [.lit (.bool false)], args := [] }
  | _ => none }
def ConstrainKnownWrongFalsely : Prop := constrainKnownRow.holds Tryd.pinned (OpenSpec.ofChange constrainKnownWrong)

/- THE SECOND FORM. 'bulk': how many values and letters a reading holds, each counted each time it is reached (what is shared counts as often as it is met; a slice's spare places count too). A statement '..UptoSaid' is the law's where the arguments, and the package variables that the reading takes, are together of bulk at most 1048576: NARROWER than '..Said'. Prove '..Said' where nothing that the law and all that it calls make is longer than what came in: it says more and counts as full. Else prove '..UptoSaid'. A law counts once. -/
mutual
def uptoBulk {H : Type} : DataW H → Nat
  | .lit (.string bytes) => bytes.length + 1
  | .lit _ => 1
  | .nil => 1
  | .ptr d => uptoBulk d + 1
  | .slice elems spare => uptoBulkAll elems + uptoBulkAll spare + 1
  | .agg parts => uptoBulkAll parts + 1
  | .iface _ d => uptoBulk d + 1
  | .map entries => uptoBulkEntries entries + 1
  | .held _ => 1
def uptoBulkAll {H : Type} : List (DataW H) → Nat
  | [] => 0
  | d :: r => uptoBulk d + uptoBulkAll r
def uptoBulkEntries {H : Type} : List (Lit × DataW H) → Nat
  | [] => 0
  | x :: r => uptoBulkEntry x + uptoBulkEntries r
def uptoBulkEntry {H : Type} : Lit × DataW H → Nat
  | (.string bytes, d) => bytes.length + uptoBulk d + 1
  | (_, d) => uptoBulk d + 1
 end
def uptoSmall : (H : Type) → List (DataW H) → Bool := fun _ ds => decide (uptoBulkAll ds ≤ 1048576)
def OpenSpec.upto (s : _root_.Go.ChangeSpec) : _root_.Go.OpenSpec := { _root_.Go.OpenSpec.ofChange s with cond := some uptoSmall }

/-- 'abugidalaw34.ConstrainHas', WHERE WHAT IT READS IS OF BULK AT MOST 1048576: true; the input reads as it did. -/
def constrainHasUptoRow : OpenClaim := { program := "ythecmbmidoagaaadoor", sum := "b41ddc7759bc21ed9bb960ea9dc4b9ff9a50bf610fc53971cfc397662d3dbef8", func := "abugida/abugidalaw34.ConstrainHas", spec := "constrainHas", unfollowed := true, recurses := true, named := ["unicode/utf8.first", "unicode/utf8.acceptRanges"], apart := false, laid := [("unicode/utf8.acceptRanges", laid_unicode_utf8_acceptRanges), ("unicode/utf8.first", laid_unicode_utf8_first)], narrowed := true }
def ConstrainHasUptoSaid : Prop := constrainHasUptoRow.holds Tryd.pinned (OpenSpec.upto constrainHasSpec)

/-- 'abugidalaw34.ConstrainHolds', WHERE WHAT IT READS IS OF BULK AT MOST 1048576: true; the input reads as it did. -/
def constrainHoldsUptoRow : OpenClaim := { program := "ythecmbmidoagaaadoor", sum := "b41ddc7759bc21ed9bb960ea9dc4b9ff9a50bf610fc53971cfc397662d3dbef8", func := "abugida/abugidalaw34.ConstrainHolds", spec := "constrainHolds", unfollowed := true, recurses := true, named := ["unicode/utf8.first", "unicode/utf8.acceptRanges"], apart := false, laid := [("unicode/utf8.acceptRanges", laid_unicode_utf8_acceptRanges), ("unicode/utf8.first", laid_unicode_utf8_first)], narrowed := true }
def ConstrainHoldsUptoSaid : Prop := constrainHoldsUptoRow.holds Tryd.pinned (OpenSpec.upto constrainHoldsSpec)

/-- 'abugidalaw34.ConstrainSteps', WHERE WHAT IT READS IS OF BULK AT MOST 1048576: true; the input reads as it did. -/
def constrainStepsUptoRow : OpenClaim := { program := "ythecmbmidoagaaadoor", sum := "b41ddc7759bc21ed9bb960ea9dc4b9ff9a50bf610fc53971cfc397662d3dbef8", func := "abugida/abugidalaw34.ConstrainSteps", spec := "constrainSteps", unfollowed := true, recurses := true, named := ["unicode/utf8.first", "unicode/utf8.acceptRanges"], apart := false, laid := [("unicode/utf8.acceptRanges", laid_unicode_utf8_acceptRanges), ("unicode/utf8.first", laid_unicode_utf8_first)], narrowed := true }
def ConstrainStepsUptoSaid : Prop := constrainStepsUptoRow.holds Tryd.pinned (OpenSpec.upto constrainStepsSpec)

/-- 'abugidalaw34.ConstrainApplies', WHERE WHAT IT READS IS OF BULK AT MOST 1048576: true; the input reads as it did. -/
def constrainAppliesUptoRow : OpenClaim := { program := "ythecmbmidoagaaadoor", sum := "b41ddc7759bc21ed9bb960ea9dc4b9ff9a50bf610fc53971cfc397662d3dbef8", func := "abugida/abugidalaw34.ConstrainApplies", spec := "constrainApplies", unfollowed := true, recurses := true, named := ["unicode/utf8.first", "unicode/utf8.acceptRanges"], apart := false, laid := [("unicode/utf8.acceptRanges", laid_unicode_utf8_acceptRanges), ("unicode/utf8.first", laid_unicode_utf8_first)], narrowed := true }
def ConstrainAppliesUptoSaid : Prop := constrainAppliesUptoRow.holds Tryd.pinned (OpenSpec.upto constrainAppliesSpec)

/-- 'abugidalaw34.ConstrainKeeps', WHERE WHAT IT READS IS OF BULK AT MOST 1048576: true; the input reads as it did. -/
def constrainKeepsUptoRow : OpenClaim := { program := "ythecmbmidoagaaadoor", sum := "b41ddc7759bc21ed9bb960ea9dc4b9ff9a50bf610fc53971cfc397662d3dbef8", func := "abugida/abugidalaw34.ConstrainKeeps", spec := "constrainKeeps", unfollowed := true, recurses := true, named := ["unicode/utf8.first", "unicode/utf8.acceptRanges"], apart := false, laid := [("unicode/utf8.acceptRanges", laid_unicode_utf8_acceptRanges), ("unicode/utf8.first", laid_unicode_utf8_first)], narrowed := true }
def ConstrainKeepsUptoSaid : Prop := constrainKeepsUptoRow.holds Tryd.pinned (OpenSpec.upto constrainKeepsSpec)

/-- 'abugidalaw34.ConstrainAgain', WHERE WHAT IT READS IS OF BULK AT MOST 1048576: true; the input reads as it did. -/
def constrainAgainUptoRow : OpenClaim := { program := "ythecmbmidoagaaadoor", sum := "b41ddc7759bc21ed9bb960ea9dc4b9ff9a50bf610fc53971cfc397662d3dbef8", func := "abugida/abugidalaw34.ConstrainAgain", spec := "constrainAgain", unfollowed := true, recurses := true, named := ["unicode/utf8.first", "unicode/utf8.acceptRanges"], apart := false, laid := [("unicode/utf8.acceptRanges", laid_unicode_utf8_acceptRanges), ("unicode/utf8.first", laid_unicode_utf8_first)], narrowed := true }
def ConstrainAgainUptoSaid : Prop := constrainAgainUptoRow.holds Tryd.pinned (OpenSpec.upto constrainAgainSpec)

/-- 'abugidalaw34.ConstrainReplays', WHERE WHAT IT READS IS OF BULK AT MOST 1048576: true; the input reads as it did. -/
def constrainReplaysUptoRow : OpenClaim := { program := "ythecmbmidoagaaadoor", sum := "b41ddc7759bc21ed9bb960ea9dc4b9ff9a50bf610fc53971cfc397662d3dbef8", func := "abugida/abugidalaw34.ConstrainReplays", spec := "constrainReplays", unfollowed := true, recurses := true, named := ["unicode/utf8.first", "unicode/utf8.acceptRanges"], apart := false, laid := [("unicode/utf8.acceptRanges", laid_unicode_utf8_acceptRanges), ("unicode/utf8.first", laid_unicode_utf8_first)], narrowed := true }
def ConstrainReplaysUptoSaid : Prop := constrainReplaysUptoRow.holds Tryd.pinned (OpenSpec.upto constrainReplaysSpec)

/-- 'abugidalaw34.ConstrainOpposite', WHERE WHAT IT READS IS OF BULK AT MOST 1048576: true; the input reads as it did. -/
def constrainOppositeUptoRow : OpenClaim := { program := "ythecmbmidoagaaadoor", sum := "b41ddc7759bc21ed9bb960ea9dc4b9ff9a50bf610fc53971cfc397662d3dbef8", func := "abugida/abugidalaw34.ConstrainOpposite", spec := "constrainOpposite", unfollowed := true, recurses := true, named := ["unicode/utf8.first", "unicode/utf8.acceptRanges"], apart := false, laid := [("unicode/utf8.acceptRanges", laid_unicode_utf8_acceptRanges), ("unicode/utf8.first", laid_unicode_utf8_first)], narrowed := true }
def ConstrainOppositeUptoSaid : Prop := constrainOppositeUptoRow.holds Tryd.pinned (OpenSpec.upto constrainOppositeSpec)

/-- 'abugidalaw34.ConstrainKnown', WHERE WHAT IT READS IS OF BULK AT MOST 1048576: true; the input reads as it did. -/
def constrainKnownUptoRow : OpenClaim := { program := "ythecmbmidoagaaadoor", sum := "b41ddc7759bc21ed9bb960ea9dc4b9ff9a50bf610fc53971cfc397662d3dbef8", func := "abugida/abugidalaw34.ConstrainKnown", spec := "constrainKnown", unfollowed := true, recurses := true, named := ["unicode/utf8.first", "unicode/utf8.acceptRanges"], apart := false, laid := [("unicode/utf8.acceptRanges", laid_unicode_utf8_acceptRanges), ("unicode/utf8.first", laid_unicode_utf8_first)], narrowed := true }
def ConstrainKnownUptoSaid : Prop := constrainKnownUptoRow.holds Tryd.pinned (OpenSpec.upto constrainKnownSpec)

end Rows
end Go.Proofs.YthecmbmidoagaaaDoor

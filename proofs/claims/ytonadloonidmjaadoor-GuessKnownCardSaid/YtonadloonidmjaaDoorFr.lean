/- The frame of the statements' proofs: the tables that the rows list, a world that holds them, and the arguments' readings. Conditions: none beyond the rows' own. -/
import Derived.Test.YtonadloonidmjaaDoorCards
import Derived.Test.YtonadloonidmjaaDoorTie
import Derived.Test.YtonadloonidmjaaDoorStruct
import Derived.Test.YtonadloonidmjaaDoorGB
import Derived.WalkKit
import Derived.ProofKit
import Derived.OpenShut
import Derived.Deep.DeepHandedRow
import Derived.Deep.DeepWitnessRowRef
import Derived.Lib.LaidIn
import Derived.Lib.LaidU8T
namespace Go.Proofs.YtonadloonidmjaaDoor
open Go.ChangeShapes Go.WideShapes Go.ChangeAt Go.RowKit Go.Joins
open Pl

theorem own : ownKnob Tryd.prog.godebug = none := by kernel_rfl

/-- What the rows list. -/
abbrev laidL : List (String × DataW Unit) := [("unicode/utf8.acceptRanges", Rows.laid_unicode_utf8_acceptRanges), ("unicode/utf8.first", Rows.laid_unicode_utf8_first)]
theorem accept_eq : (Rows.laid_unicode_utf8_acceptRanges : DataW Unit) = Lib.acceptData := by kernel_rfl
theorem first_eq : (Rows.laid_unicode_utf8_first : DataW Unit) = Lib.firstData := by kernel_rfl

/-- WHAT THE ROWS' LIST GIVES: the two tables stand. -/
theorem tabs {W : World} (h : laidMet Tryd.prog laidL W) : Tb W :=
  utf8Tabs_of_readsT (U8Types.of260 Tryd.lays260) ⟨by kernel_rfl, by kernel_rfl, by kernel_rfl, by kernel_rfl, by kernel_rfl, by kernel_rfl, by kernel_rfl⟩
    (by have := Lib.laidMet.reads h (.tail _ (.head _)); rw [first_eq] at this; exact this) (by have := Lib.laidMet.reads h (.head _); rw [accept_eq] at this; exact this)

theorem met_of {W : World} (h : laidMetH Tryd.prog laidL W) : laidMet Tryd.prog laidL W := by
  have e : (laidL.filter fun x => x.2.handleName?.isSome) = [] := by kernel_rfl
  unfold laidMetH at h
  rw [e] at h
  exact h

/-- A world for the witness: the settled one, the two variables holding what their texts lay. -/
noncomputable def laidWorld (os : Os) : World :=
  let w0 := World.holding Tryd.prog os ⟨#[], #[], []⟩
  let put (h : Array Obj) (g : Nat) (cs : Array Value) : Array Obj := h.modify g fun
    | .cells _ t frozen => .cells cs t frozen
    | o => o
  let h1 := put w0.heap 1 (Lib.firstTab.map fun z => Value.int .u8 z).toArray
  let h2 := put h1 2 ((List.range 16).flatMap fun i => [Value.int .u8 (Lib.accLo i), Value.int .u8 (Lib.accHi i)]).toArray
  { w0 with heap := h2 }
theorem laid_eq : laidL = [("unicode/utf8.acceptRanges", Lib.acceptData), ("unicode/utf8.first", Lib.firstData)] := by
  show [_, _] = _
  rw [accept_eq, first_eq]
set_option maxRecDepth 100000 in
theorem laid_met (os : Os) (args : Array Value) : laidMet Tryd.prog laidL ((laidWorld os).forCall (fun _ _ => 0) ⟨#[], args, []⟩).memory := by
  rw [laid_eq]
  exact (LaidIn.of_run (l := [("unicode/utf8.acceptRanges", Lib.acceptData), ("unicode/utf8.first", Lib.firstData)]) [2, 1] 8 (by kernel_rfl) (by kernel_rfl) (by kernel_rfl) (by kernel_rfl)).met

section
variable {H : Type} {enc : TypeId × Value → H} {W : World} {base : Nat} {spare : Nat → Bool} {held : Bool} {r : Reach} {b0 : Nat} {v : Value} {d : DataW H} {p : List MemPlace}

theorem o_str : Opn enc Tryd.prog W base spare held tStr 9 := opn_str Tryd.underlying9
theorem o_int : Opn enc Tryd.prog W base spare held tInt 3 := opn_int Tryd.underlying3
theorem o_ints : Opn enc Tryd.prog W base spare held (tSlice tInt) 25 := opn_slice Tryd.underlying25 (by kernel_rfl) o_int
theorem o_kn : Opn enc Tryd.prog W base spare held tKn 27 := opn_struct Tryd.underlying27 (by kernel_rfl) (opnfs_cons rfl (by kernel_rfl) o_ints (opnfs_one rfl (by kernel_rfl) o_str))
theorem o_kns : Opn enc Tryd.prog W base spare held (tSlice tKn) 22 := opn_slice Tryd.underlying22 (by kernel_rfl) o_kn
theorem o_en : Opn enc Tryd.prog W base spare held tEn 37 := opn_struct Tryd.underlying37 (by kernel_rfl) (opnfs_cons rfl (by kernel_rfl) o_ints (opnfs_cons rfl (by kernel_rfl) o_str (opnfs_one rfl (by kernel_rfl) o_int)))
theorem o_ens : Opn enc Tryd.prog W base spare held (tSlice tEn) 28 := opn_slice Tryd.underlying28 (by kernel_rfl) o_en

set_option maxRecDepth 100000 in
theorem open_ints (hv : Value.okWide Tryd.prog W r b0 25 v) (h : DataW.Trod enc Tryd.prog W base spare held 25 v d p) : ∃ x, Rd tInt W v x := by
  obtain ⟨a, len, cap, rfl⟩ := okWide_slice Tryd.underlying25 hv
  obtain ⟨n, hn⟩ := h
  exact opn_arg o_ints hn
set_option maxRecDepth 100000 in
theorem open_kns (hv : Value.okWide Tryd.prog W r b0 22 v) (h : DataW.Trod enc Tryd.prog W base spare held 22 v d p) : ∃ x, Rd tKn W v x := by
  obtain ⟨a, len, cap, rfl⟩ := okWide_slice Tryd.underlying22 hv
  obtain ⟨n, hn⟩ := h
  exact opn_arg o_kns hn
set_option maxRecDepth 100000 in
theorem open_ens (hv : Value.okWide Tryd.prog W r b0 28 v) (h : DataW.Trod enc Tryd.prog W base spare held 28 v d p) : ∃ x, Rd tEn W v x := by
  obtain ⟨a, len, cap, rfl⟩ := okWide_slice Tryd.underlying28 hv
  obtain ⟨n, hn⟩ := h
  exact opn_arg o_ens hn
end
end Go.Proofs.YtonadloonidmjaaDoor

/- The frame of the statements' proofs: the tables that the rows list, a world that holds them, and the arguments' readings. Conditions: none beyond the rows' own. -/
import Derived.Test.YthecmbmidoagaaaDoorCards
import Derived.Test.YthecmbmidoagaaaDoorTie
import Derived.Test.YthecmbmidoagaaaDoorStruct
import Derived.Test.YthecmbmidoagaaaDoorC1
import Derived.Test.YthecmbmidoagaaaDoorS4
import Derived.WalkKit
import Derived.ProofKit
import Derived.OpenShut
import Derived.Deep.DeepHandedRow
import Derived.Deep.DeepWitnessRowRef
import Derived.Lib.LaidIn
import Derived.Lib.LaidU8T
namespace Go.Proofs.YthecmbmidoagaaaDoor
open Go.ChangeShapes Go.WideShapes Go.ChangeAt Go.RowKit Go.Joins
open Pl

theorem own : ownKnob Tryd.prog.godebug = none := by kernel_rfl
theorem laidOut : laidOutB Tryd.prog = true := by kernel_rfl

/-- What the rows list. -/
abbrev laidL : List (String × DataW Unit) := [("unicode/utf8.acceptRanges", Rows.laid_unicode_utf8_acceptRanges), ("unicode/utf8.first", Rows.laid_unicode_utf8_first)]
theorem accept_eq : (Rows.laid_unicode_utf8_acceptRanges : DataW Unit) = Lib.acceptData := by kernel_rfl
theorem first_eq : (Rows.laid_unicode_utf8_first : DataW Unit) = Lib.firstData := by kernel_rfl

/-- WHAT THE ROWS' LIST GIVES: the two tables stand. -/
theorem tabs {W : World} (h : laidMet Tryd.prog laidL W) : Tb W :=
  utf8Tabs_of_readsT (U8Types.of260 Tryd.lays260) ⟨by kernel_rfl, by kernel_rfl, by kernel_rfl, by kernel_rfl, by kernel_rfl, by kernel_rfl, by kernel_rfl⟩
    (by have := Lib.laidMet.reads h (.tail _ (.head _)); rw [first_eq] at this; exact this) (by have := Lib.laidMet.reads h (.head _); rw [accept_eq] at this; exact this)

theorem met_of {W : World} (h : laidMetH Tryd.prog laidL W) : laidMet Tryd.prog laidL W := by
  have e : (laidL.filter fun x => x.2.handleName?.isSome) = [] := by kernel_rfl
  unfold laidMetH at h
  rw [e] at h
  exact h

/-- A world for the witness: the settled one, the two variables holding what their texts lay. -/
noncomputable def laidWorld (os : Os) : World :=
  let w0 := World.holding Tryd.prog os ⟨#[], #[], []⟩
  let put (h : Array Obj) (g : Nat) (cs : Array Value) : Array Obj := h.modify g fun
    | .cells _ t frozen => .cells cs t frozen
    | o => o
  let h1 := put w0.heap 0 (Lib.firstTab.map fun z => Value.int .u8 z).toArray
  let h2 := put h1 1 ((List.range 16).flatMap fun i => [Value.int .u8 (Lib.accLo i), Value.int .u8 (Lib.accHi i)]).toArray
  { w0 with heap := h2 }
theorem laid_eq : laidL = [("unicode/utf8.acceptRanges", Lib.acceptData), ("unicode/utf8.first", Lib.firstData)] := by
  show [_, _] = _
  rw [accept_eq, first_eq]
set_option maxRecDepth 100000 in
theorem laid_met (os : Os) (args : Array Value) : laidMet Tryd.prog laidL ((laidWorld os).forCall (fun _ _ => 0) ⟨#[], args, []⟩).memory := by
  rw [laid_eq]
  exact (LaidIn.of_run (l := [("unicode/utf8.acceptRanges", Lib.acceptData), ("unicode/utf8.first", Lib.firstData)]) [1, 0] 8 (by kernel_rfl) (by kernel_rfl) (by kernel_rfl) (by kernel_rfl)).met

section
variable {H : Type} {enc : TypeId × Value → H} {W : World} {base : Nat} {spare : Nat → Bool} {held : Bool} {r : Reach} {b0 : Nat} {v : Value} {d : DataW H} {p : List MemPlace}

theorem o_str : Opn enc Tryd.prog W base spare held tStr 9 := opn_str Tryd.underlying9
theorem o_tags : Opn enc Tryd.prog W base spare held tRdg 22 := opn_slice Tryd.underlying22 (by kernel_rfl) o_str
theorem o_rdg : Opn enc Tryd.prog W base spare held tRdg 24 := opn_struct Tryd.underlying24 (by kernel_rfl) (opnfs_one rfl (by kernel_rfl) o_tags)
theorem o_rdgs : Opn enc Tryd.prog W base spare held (tSlice tRdg) 35 := opn_slice Tryd.underlying35 (by kernel_rfl) o_rdg
theorem o_coh : Opn enc Tryd.prog W base spare held tCoh 37 := opn_struct Tryd.underlying37 (by kernel_rfl) (opnfs_cons rfl (by kernel_rfl) o_str (opnfs_one rfl (by kernel_rfl) o_rdgs))
theorem o_cohs : Opn enc Tryd.prog W base spare held (tSlice tCoh) 29 := opn_slice Tryd.underlying29 (by kernel_rfl) o_coh
theorem o_int : Opn enc Tryd.prog W base spare held tInt 3 := opn_int Tryd.underlying3
theorem o_bool : Opn enc Tryd.prog W base spare held tBool 4 := opn_bool Tryd.underlying4
theorem o_tst : Opn enc Tryd.prog W base spare held tTst 28 := by
  refine opn_map (T := tPair tInt (tPair tBool (tPair tBool (tPair tBool (tPair tRdg tRdg))))) _ (fun ⟨a, b, c, d, e, f⟩ => ⟨⟨a, b, c, d, e, f⟩, rfl⟩) ?_
  exact opn_struct Tryd.underlying28 (by kernel_rfl) (opnfs_cons rfl (by kernel_rfl) o_int (opnfs_cons rfl (by kernel_rfl) o_bool (opnfs_cons rfl (by kernel_rfl) o_bool (opnfs_cons rfl (by kernel_rfl) o_bool (opnfs_cons rfl (by kernel_rfl) o_tags (opnfs_one rfl (by kernel_rfl) o_tags))))))
theorem o_tsts : Opn enc Tryd.prog W base spare held (tSlice tTst) 32 := opn_slice Tryd.underlying32 (by kernel_rfl) o_tst
theorem o_rul : Opn enc Tryd.prog W base spare held tRul 34 := by
  refine opn_map (T := tPair tInt (tPair tRdg (tPair (tSlice tTst) tBool))) _ (fun ⟨a, b, c, d⟩ => ⟨⟨a, b, c, d⟩, rfl⟩) ?_
  exact opn_struct Tryd.underlying34 (by kernel_rfl) (opnfs_cons rfl (by kernel_rfl) o_int (opnfs_cons rfl (by kernel_rfl) o_tags (opnfs_cons rfl (by kernel_rfl) o_tsts (opnfs_one rfl (by kernel_rfl) o_bool))))
theorem o_ruls : Opn enc Tryd.prog W base spare held (tSlice tRul) 43 := opn_slice Tryd.underlying43 (by kernel_rfl) o_rul

theorem open_strs (hv : Value.okWide Tryd.prog W r b0 22 v) (h : DataW.Trod enc Tryd.prog W base spare held 22 v d p) : ∃ x, Rd tStr W v x := by
  obtain ⟨a, len, cap, rfl⟩ := okWide_slice Tryd.underlying22 hv
  obtain ⟨n, hn⟩ := h
  exact opn_arg o_tags hn
theorem open_cohs (hv : Value.okWide Tryd.prog W r b0 29 v) (h : DataW.Trod enc Tryd.prog W base spare held 29 v d p) : ∃ x, Rd tCoh W v x := by
  obtain ⟨a, len, cap, rfl⟩ := okWide_slice Tryd.underlying29 hv
  obtain ⟨n, hn⟩ := h
  exact opn_arg o_cohs hn
theorem open_ruls (hv : Value.okWide Tryd.prog W r b0 43 v) (h : DataW.Trod enc Tryd.prog W base spare held 43 v d p) : ∃ x, Rd tRul W v x := by
  obtain ⟨a, len, cap, rfl⟩ := okWide_slice Tryd.underlying43 hv
  obtain ⟨n, hn⟩ := h
  exact opn_arg o_ruls hn
theorem agg_list {cs : Array Value} {l : List Value} (h : cs.toList = l) : Value.agg cs = .agg l.toArray := by rw [← h]
theorem open_rdg (hv : Value.okWide Tryd.prog W r b0 24 v) (h : DataW.Trod enc Tryd.prog W base spare held 24 v d p) : ∃ u x, v = .agg #[u] ∧ Rd tStr W u x := by
  obtain ⟨cs, rfl, _⟩ := okWide_struct Tryd.underlying24 hv
  obtain ⟨n, hn⟩ := h
  obtain ⟨y, hy⟩ := o_rdg _ _ _ hn
  obtain ⟨u, he, hu⟩ := rep_rdg hy
  exact ⟨u, y, agg_list he, hu⟩
theorem open_tst (hv : Value.okWide Tryd.prog W r b0 28 v) (h : DataW.Trod enc Tryd.prog W base spare held 28 v d p) : ∃ (t : Tst) (u1 u2 : Value), v = .agg #[.int .i64 t.at', .bool t.scan, .bool t.neg, .bool t.care, u1, u2] ∧ inI64 t.at' ∧ Rd tStr W u1 t.tags ∧ Rd tStr W u2 t.bar := by
  obtain ⟨cs, rfl, _⟩ := okWide_struct Tryd.underlying28 hv
  obtain ⟨n, hn⟩ := h
  obtain ⟨y, hy⟩ := o_tst _ _ _ hn
  obtain ⟨u1, u2, he, hi, h1, h2⟩ := rep_tst hy
  exact ⟨y, u1, u2, agg_list he, hi, h1, h2⟩
theorem open_rul (hv : Value.okWide Tryd.prog W r b0 34 v) (h : DataW.Trod enc Tryd.prog W base spare held 34 v d p) : ∃ (t : Rul) (u1 u2 : Value), v = .agg #[.int .i64 t.op, u1, u2, .bool t.wild] ∧ inI64 t.op ∧ Rd tStr W u1 t.target ∧ Rd tTst W u2 t.tests := by
  obtain ⟨cs, rfl, _⟩ := okWide_struct Tryd.underlying34 hv
  obtain ⟨n, hn⟩ := h
  obtain ⟨y, hy⟩ := o_rul _ _ _ hn
  obtain ⟨u1, u2, he, hi, h1, h2⟩ := rep_rul hy
  exact ⟨y, u1, u2, agg_list he, hi, h1, h2⟩
end
end Go.Proofs.YthecmbmidoagaaaDoor

/- The walk of the statement SymbolsExamples. -/
import Derived.Test.YtfdmpbihepkjnaaDoorSB
import Derived.Test.YtfdmpbihepkjnaaDoorSD
namespace Go.Proofs.YtfdmpbihepkjnaaDoor
open Go.RowKit Go.Maps
open Pl

def tab1 : List ByteArray := [⟨#[97]⟩, ⟨#[97, 98]⟩, ⟨#[98]⟩, ⟨#[43, 80, 108]⟩, ⟨#[195, 169]⟩, ⟨#[99]⟩]
theorem E1 : fnd tab0 ⟨#[99]⟩ = none := by decide +kernel
theorem E2 : nam tab0 0 = none := by decide +kernel
theorem E3 : nam tab0 6 = none := by decide +kernel
theorem E4 : tok vT tab0 ⟨#[]⟩ = ([], 0, 0) := by decide +kernel
theorem E5 : tok vT tab0 ⟨#[97, 43, 80]⟩ = ([], 1, 3) := by decide +kernel
theorem E6 : tok vT tab0 ⟨#[97, 98]⟩ = ([2], 0, 0) := by decide +kernel
theorem E7 : txt vT tab0 [6] = (⟨#[]⟩, 1) := by decide +kernel
theorem E8 : addR tab0 ⟨#[]⟩ = ([], 0, 1) := by decide +kernel
theorem E9 : addR tab0 ⟨#[98]⟩ = (tab0, 3, 0) := by decide +kernel
theorem E10 : addR tab0 ⟨#[99]⟩ = (tab1, 6, 0) := by decide +kernel
theorem E11 : mrg vT tab0 [⟨#[99]⟩, ⟨#[97]⟩] = (tab1, [6, 1], 0) := by decide +kernel
theorem E12 : vT [⟨#[97]⟩, ⟨#[97]⟩] = false := by decide +kernel
theorem E13 : vT [⟨#[]⟩] = false := by decide +kernel
theorem E14 : vT [⟨#[97, 97, 97, 97, 97, 97, 97, 97, 97, 97, 97, 97, 97, 97, 97, 97, 97, 97, 97, 97, 97, 97, 97, 97, 97, 97, 97, 97, 97, 97, 97, 97, 97, 97, 97, 97, 97, 97, 97, 97, 97]⟩] = false := by decide +kernel
theorem E15 : vT [(⟨#[97, 97, 97, 97, 97, 97, 97, 97, 97, 97, 97, 97, 97, 97, 97, 97, 97, 97, 97, 97, 97, 97, 97, 97, 97, 97, 97, 97, 97, 97, 97, 97, 97, 97, 97, 97, 97, 97, 97, 97, 97]⟩ : ByteArray).extract 1 41] = true := by decide +kernel
theorem E16 : same ([2] : List Int) [2] = true := by decide +kernel
theorem E17 : same tab0 tab0 = true := by decide +kernel
theorem E18 : same tab1 tab1 = true := by decide +kernel
theorem E19 : same ([6, 1] : List Int) [6, 1] = true := by decide +kernel

theorem lit_strs {w : World} {xs : List ByteArray} {e : TypeId} (hl : xs.length ≤ maxLen) (hr : ∀ y ∈ xs, y.size ≤ maxLen) :
    Rd tStr (w.alloc (.cells (xs.map Value.string).toArray e)) (.slice (some ⟨w.heap.size, 0, none⟩) xs.length xs.length) xs := sl_strs (at_new rfl) (by simp) hl hr

set_option maxRecDepth 100000 in
set_option maxHeartbeats 8000000 in
theorem examples_walk {w : World} (hT0 : Tb w) : Calls Tryd.prog 10 #[] w fun e w' => e = .returned (.bool true) ∧ Bw w w' := by
  go_enter Tryd.func10, Tryd.ntmps10
  go_wp2_with fail
  refine table_any.mono ?_
  rintro e w1 ⟨⟨t1, rfl, ht1⟩, hb1⟩
  have HA := Lib.hid (fun (w' : World) (k : Bw w1 w') => ht1.rd.after k)
  have HT := Lib.hid (fun (w' : World) (k : Bw w1 w') => hT0.after (hb1.then k))
  have hw1 : Bw w1 w1 := Below.refl _ _
  go_wp2_with fail
  refine (find_any (x := ⟨#[99]⟩) (HT.out _ hw1) (HA.out _ hw1) (by decide +kernel)).mono ?_
  intro e w2 hr
  rw [E1] at hr
  obtain ⟨rfl, hb2⟩ : e = .returned (.tuple #[.int .i64 0, .bool false]) ∧ Bw w1 w2 := hr
  have hw2 := hw1.then hb2
  go_wp2_with fail
  refine (name_any (s := 0) (HT.out _ hw2) (HA.out _ hw2)).mono ?_
  intro e w3 hr
  rw [E2] at hr
  obtain ⟨rfl, hb3⟩ : e = .returned (.tuple #[.string ⟨#[]⟩, .bool false]) ∧ Bw w2 w3 := hr
  have hw3 := hw2.then hb3
  go_wp2_with fail
  refine (name_any (s := 6) (HT.out _ hw3) (HA.out _ hw3)).mono ?_
  intro e w4 hr
  rw [E3] at hr
  obtain ⟨rfl, hb4⟩ : e = .returned (.tuple #[.string ⟨#[]⟩, .bool false]) ∧ Bw w3 w4 := hr
  have hw4 := hw3.then hb4
  go_wp2_with fail
  refine (tokens_any (x := ⟨#[]⟩) (HT.out _ hw4) (HA.out _ hw4)).mono ?_
  intro e w5 hr
  rw [E4] at hr
  obtain ⟨u5, rfl, hb5, hu5⟩ : ∃ u, e = .returned (.tuple #[u, .int .i64 0, .int .i64 0]) ∧ Bw w4 w5 ∧ Sl tInt w5 (Hi w4.heap.size) u [] := hr
  have hw5 := hw4.then hb5
  obtain ⟨A5, c5, rfl, _, _⟩ := hu5.form
  go_wp2_with fail
  refine (tokens_any (x := ⟨#[97, 43, 80]⟩) (HT.out _ hw5) (HA.out _ hw5)).mono ?_
  intro e w6 hr
  rw [E5] at hr
  obtain ⟨u6, rfl, hb6, _⟩ : ∃ u, e = .returned (.tuple #[u, .int .i64 1, .int .i64 3]) ∧ Bw w5 w6 ∧ Sl tInt w6 (Hi w5.heap.size) u [] := hr
  have hw6 := hw5.then hb6
  go_wp2_with fail
  refine (tokens_any (x := ⟨#[97, 98]⟩) (HT.out _ hw6) (HA.out _ hw6)).mono ?_
  intro e w7 hr
  rw [E6] at hr
  obtain ⟨u7, rfl, hb7, hu7⟩ : ∃ u, e = .returned (.tuple #[u, .int .i64 0, .int .i64 0]) ∧ Bw w6 w7 ∧ Sl tInt w7 (Hi w6.heap.size) u [2] := hr
  have hw7 := hw6.then hb7
  have hx7 := bw_al hw7 (.cells #[.int .i64 6] 3)
  go_wp2_with fail
  refine (text_any (x := [6]) (HT.out _ hx7) (HA.out _ hx7) (lit (xs := [6]) (by simp [maxLen]) (by simp))).mono ?_
  intro e w8 hr
  rw [E7] at hr
  obtain ⟨rfl, hb8⟩ : e = .returned (.tuple #[.string ⟨#[]⟩, .int .i64 1]) ∧ Bw (w7.alloc (.cells #[.int .i64 6] 3)) w8 := hr
  have hw8 := hx7.then hb8
  go_wp2_with fail
  refine (add_any (x := ⟨#[]⟩) (HT.out _ hw8) (HA.out _ hw8) (by decide +kernel)).mono ?_
  intro e w9 hr
  rw [E8] at hr
  obtain ⟨u9, rfl, hb9, _⟩ : ∃ u, e = .returned (.tuple #[u, .int .i64 0, .int .i64 1]) ∧ Bw w8 w9 ∧ Sl tStr w9 (Hi w8.heap.size) u [] := hr
  have hw9 := hw8.then hb9
  go_wp2_with fail
  refine (add_any (x := ⟨#[98]⟩) (HT.out _ hw9) (HA.out _ hw9) (by decide +kernel)).mono ?_
  intro e w10 hr
  rw [E9] at hr
  obtain ⟨u10, rfl, hb10, hu10⟩ : ∃ u, e = .returned (.tuple #[u, .int .i64 3, .int .i64 0]) ∧ Bw w9 w10 ∧ Sl tStr w10 (Hi w9.heap.size) u tab0 := hr
  have hw10 := hw9.then hb10
  go_wp2_with fail
  refine (add_any (x := ⟨#[99]⟩) (HT.out _ hw10) (HA.out _ hw10) (by decide +kernel)).mono ?_
  intro e w11 hr
  rw [E10] at hr
  obtain ⟨u11, rfl, hb11, hu11⟩ : ∃ u, e = .returned (.tuple #[u, .int .i64 6, .int .i64 0]) ∧ Bw w10 w11 ∧ Sl tStr w11 (Hi w10.heap.size) u tab1 := hr
  have hw11 := hw10.then hb11
  obtain ⟨b5, o5, y5, hA5, hy5, _, hc5⟩ : ∃ b5 o5 y5, (∃ c5, u11 = .slice (some ⟨b5, o5, none⟩) 6 c5) ∧ Hid (tab1[5]? = some y5) ∧ y5.size ≤ 9223372036854775807 ∧ w11.cell? ⟨b5, o5 + 5, none⟩ = some (.string y5) := by
    obtain ⟨A, c, rfl, _, _⟩ := hu11.form
    obtain ⟨b, off, y, rfl, hy, hz, hc⟩ := hu11.str (k := 5) (by decide)
    exact ⟨b, off, y, ⟨c, rfl⟩, hy, hz, hc⟩
  obtain ⟨c11, rfl⟩ := hA5
  have hyv : y5 = ⟨#[99]⟩ := by
    have := hy5.out
    injection this with this
    exact this.symm
  subst hyv
  have hbl5 := World.block_lt_of_cell? w11 _ hc5
  have HC5 := Lib.hid (fun (w' : World) (k : Bw w11 w') => (World.cell?_of_block (w := w11) (k.block _ hbl5)).trans hc5)
  have hq11 : Bw w11 w11 := Below.refl _ _
  have hx11 := bw_al hw11 (.cells #[.string ⟨#[99]⟩, .string ⟨#[97]⟩] 9)
  go_wp2_with fail
  refine (merge_any (b := [⟨#[99]⟩, ⟨#[97]⟩]) (HT.out _ hx11) (HA.out _ hx11) (lit_strs (xs := [⟨#[99]⟩, ⟨#[97]⟩]) (by simp [maxLen]) (by decide +kernel))).mono ?_
  intro e w12 hr
  rw [E11] at hr
  obtain ⟨u12, u13, rfl, hb12, hu12, hu13⟩ : ∃ u v, e = .returned (.tuple #[u, v, .int .i64 0]) ∧ Bw (w11.alloc (.cells #[.string ⟨#[99]⟩, .string ⟨#[97]⟩] 9)) w12 ∧ Sl tStr w12 (Hi (w11.alloc (.cells #[.string ⟨#[99]⟩, .string ⟨#[97]⟩] 9)).heap.size) u tab1 ∧ Sl tInt w12 (Hi (w11.alloc (.cells #[.string ⟨#[99]⟩, .string ⟨#[97]⟩] 9)).heap.size) v [6, 1] := hr
  have hw12 := hx11.then hb12
  have hq12 := (bw_al hq11 (.cells #[.string ⟨#[99]⟩, .string ⟨#[97]⟩] 9)).then hb12
  have hx12 := bw_al hw12 (.cells #[.int .i64 2] 3)
  have hy12 := bw_al hq12 (.cells #[.int .i64 2] 3)
  have hz12 := bw_al (Below.refl w12.heap.size w12) (.cells #[.int .i64 2] 3)
  have hu7' : Bw w7 w12 := by
    have k1 := bw_al (Below.refl w7.heap.size w7) (.cells #[.int .i64 6] 3)
    have k2 := (((k1.then hb8).then hb9).then hb10).then hb11
    exact (bw_al k2 (.cells #[.string ⟨#[99]⟩, .string ⟨#[97]⟩] 9)).then hb12
  have hu10' : Bw w10 w12 := (bw_al hb11 (.cells #[.string ⟨#[99]⟩, .string ⟨#[97]⟩] 9)).then hb12
  go_wp2_with fail
  refine (val_of (congrArg Value.bool E16) (sameInts_any (hu7.rd.after (hu7'.then hz12)) (lit (xs := [2]) (by simp [maxLen]) (by simp)))).mono ?_
  rintro e w13 ⟨rfl, hd13⟩
  have hw13 := hx12.then hd13.bw
  have hq13 := hy12.then hd13.bw
  have hr13 : Bw w12 w13 := hz12.then hd13.bw
  go_wp2_with fail
  refine (val_of (congrArg Value.bool E17) (sameList_any (hu10.rd.after (hu10'.then hr13)) (HA.out _ hw13))).mono ?_
  rintro e w14 ⟨rfl, hd14⟩
  have hw14 := hw13.then hd14.bw
  have hq14 := hq13.then hd14.bw
  have hr14 := hr13.then hd14.bw
  have hc14 := HC5.out _ hq14
  go_wp2_with fail
  refine (val_of (congrArg Value.bool E18) (sameList_any (hu12.rd.after hr14) (hu11.rd.after hq14))).mono ?_
  rintro e w15 ⟨rfl, hd15⟩
  have hw15 := hw14.then hd15.bw
  have hr15 := hr14.then hd15.bw
  have hx15 := bw_al hw15 (.cells #[.int .i64 6, .int .i64 1] 3)
  have hs15 := bw_al hr15 (.cells #[.int .i64 6, .int .i64 1] 3)
  go_wp2_with fail
  refine (val_of (congrArg Value.bool E19) (sameInts_any (hu13.rd.after hs15) (lit (xs := [6, 1]) (by simp [maxLen]) (by simp)))).mono ?_
  rintro e w16 ⟨rfl, hd16⟩
  have hw16 := hx15.then hd16.bw
  have hx16 := bw_al hw16 (.cells #[.string ⟨#[97]⟩, .string ⟨#[97]⟩] 9)
  go_wp2_with fail
  refine (val_of (congrArg Value.bool E12) (valid_any (HT.out _ hx16) (lit_strs (xs := [⟨#[97]⟩, ⟨#[97]⟩]) (by simp [maxLen]) (by decide +kernel)))).mono ?_
  rintro e w17 ⟨rfl, hb17⟩
  have hw17 := hx16.then hb17
  have hx17 := bw_al hw17 (.cells #[.string ⟨#[]⟩] 9)
  go_wp2_with fail
  refine (val_of (congrArg Value.bool E13) (valid_any (HT.out _ hx17) (lit_strs (xs := [⟨#[]⟩]) (by simp [maxLen]) (by decide +kernel)))).mono ?_
  rintro e w18 ⟨rfl, hb18⟩
  have hw18 := hx17.then hb18
  have hx18 := bw_al hw18 (.cells #[.string ⟨#[97, 97, 97, 97, 97, 97, 97, 97, 97, 97, 97, 97, 97, 97, 97, 97, 97, 97, 97, 97, 97, 97, 97, 97, 97, 97, 97, 97, 97, 97, 97, 97, 97, 97, 97, 97, 97, 97, 97, 97, 97]⟩] 9)
  go_wp2_with fail
  refine (val_of (congrArg Value.bool E14) (valid_any (HT.out _ hx18) (lit_strs (xs := [⟨#[97, 97, 97, 97, 97, 97, 97, 97, 97, 97, 97, 97, 97, 97, 97, 97, 97, 97, 97, 97, 97, 97, 97, 97, 97, 97, 97, 97, 97, 97, 97, 97, 97, 97, 97, 97, 97, 97, 97, 97, 97]⟩]) (by simp [maxLen]) (by decide +kernel)))).mono ?_
  rintro e w19 ⟨rfl, hb19⟩
  have hw19 := hx18.then hb19
  have hx19 := bw_al hw19 (.cells #[.string ((⟨#[97, 97, 97, 97, 97, 97, 97, 97, 97, 97, 97, 97, 97, 97, 97, 97, 97, 97, 97, 97, 97, 97, 97, 97, 97, 97, 97, 97, 97, 97, 97, 97, 97, 97, 97, 97, 97, 97, 97, 97, 97]⟩ : ByteArray).extract 1 41)] 9)
  go_wp2_with fail
  refine (val_of (congrArg Value.bool E15) (valid_any (HT.out _ hx19) (lit_strs (xs := [(⟨#[97, 97, 97, 97, 97, 97, 97, 97, 97, 97, 97, 97, 97, 97, 97, 97, 97, 97, 97, 97, 97, 97, 97, 97, 97, 97, 97, 97, 97, 97, 97, 97, 97, 97, 97, 97, 97, 97, 97, 97, 97]⟩ : ByteArray).extract 1 41]) (by simp [maxLen]) (by decide +kernel)))).mono ?_
  rintro e w20 ⟨rfl, hb20⟩
  have hw20 := hx19.then hb20
  go_wp2_with fail
  refine (awake_any (HT.out _ hw20)).mono ?_
  rintro e w21 ⟨rfl, hb21⟩
  go_wp2_with fail
  go_ret
  exact ⟨rfl, hb1.then (hw20.then hb21)⟩
end Go.Proofs.YtfdmpbihepkjnaaDoor

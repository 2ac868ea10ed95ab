/- The contracts of the statements' own 'table' and 'awake'. Conditions: the library's tables. -/
import Derived.Test.YtfdmpbihepkjnaaDoorS8
import Derived.Test.YtfdmpbihepkjnaaDoorSA
namespace Go.Proofs.YtfdmpbihepkjnaaDoor
open Go.RowKit Go.Maps
open Pl

/-- The table of the examples. -/
def tab0 : List ByteArray := [⟨#[97]⟩, ⟨#[97, 98]⟩, ⟨#[98]⟩, ⟨#[43, 80, 108]⟩, ⟨#[195, 169]⟩]
theorem C1 : tok vT tab0 ⟨#[97, 98, 97, 98, 43, 80, 108, 195, 169]⟩ = ([2, 2, 4, 5], 0, 0) := by decide +kernel
theorem C2 : tok vT tab0 ⟨#[97, 98, 99]⟩ = ([], 2, 3) := by decide +kernel
theorem C3 : txt vT tab0 [1, 3] = (⟨#[97, 98]⟩, 0) := by decide +kernel
theorem C4 : fnd tab0 ⟨#[97, 98]⟩ = some 1 := by decide +kernel
theorem C5 : nam tab0 4 = some ⟨#[43, 80, 108]⟩ := by decide +kernel
theorem C6 : vT tab0 = true := by decide +kernel
theorem C7 : same ([2, 2, 4, 5] : List Int) [2, 2, 4, 5] = true := by decide +kernel

theorem table_any {w : World} : Calls Tryd.prog 30 #[] w fun e w' => (∃ u, e = .returned u ∧ Sl tStr w' (Hi w.heap.size) u tab0) ∧ Bw w w' := by
  go_enter Tryd.func30, Tryd.ntmps30
  go_wp2
  go_ret
  exact ⟨⟨_, rfl, sl_strs (xs := tab0) (at_new rfl) (Nat.le_refl _) (by simp [tab0, maxLen]) (by decide +kernel)⟩, bw_al (Below.refl _ _) _⟩

set_option maxRecDepth 100000 in
set_option maxHeartbeats 2000000 in
theorem awake_any {w : World} (hT : Tb w) : Calls Tryd.prog 12 #[] w fun e w' => e = .returned (.bool true) ∧ Bw w w' := by
  go_enter Tryd.func12, Tryd.ntmps12
  go_wp2_with fail
  refine table_any.mono ?_
  rintro e w1 ⟨⟨t1, rfl, ht1⟩, hb1⟩
  go_wp2_with fail
  refine (tokens_any (x := ⟨#[97, 98, 97, 98, 43, 80, 108, 195, 169]⟩) (hT.after hb1) ht1.rd).mono ?_
  rintro e w2 hr
  rw [C1] at hr
  obtain ⟨u1, rfl, hb2, hu1⟩ := hr
  have hw2 := hb1.then hb2
  go_wp2_with fail
  refine table_any.mono ?_
  rintro e w3 ⟨⟨t2, rfl, ht2⟩, hb3⟩
  have hw3 := hw2.then hb3
  go_wp2_with fail
  refine (tokens_any (x := ⟨#[97, 98, 99]⟩) (hT.after hw3) ht2.rd).mono ?_
  rintro e w4 hr
  rw [C2] at hr
  obtain ⟨u2, rfl, hb4, _⟩ := hr
  have hw4 := hw3.then hb4
  go_wp2_with fail
  refine table_any.mono ?_
  rintro e w5 ⟨⟨t3, rfl, ht3⟩, hb5⟩
  have hw5 := hw4.then hb5
  have hw5' := bw_al hw5 (.cells #[.int .i64 1, .int .i64 3] 3)
  go_wp2_with fail
  refine (text_any (x := [1, 3]) (hT.after hw5') (ht3.rd.alloc _) (lit (xs := [1, 3]) (by simp [maxLen]) (by simp))).mono ?_
  rintro e w6 hr
  rw [C3] at hr
  obtain ⟨rfl, hb6⟩ := hr
  have hw6 := hw5'.then hb6
  go_wp2_with fail
  refine table_any.mono ?_
  rintro e w7 ⟨⟨t4, rfl, ht4⟩, hb7⟩
  have hw7 := hw6.then hb7
  go_wp2_with fail
  refine (find_any (x := ⟨#[97, 98]⟩) (hT.after hw7) ht4.rd (by decide +kernel)).mono ?_
  rintro e w8 hr
  rw [C4] at hr
  obtain ⟨rfl, hb8⟩ : e = .returned (.tuple #[.int .i64 2, .bool true]) ∧ Bw w7 w8 := hr
  have hw8 := hw7.then hb8
  go_wp2_with fail
  refine table_any.mono ?_
  rintro e w9 ⟨⟨t5, rfl, ht5⟩, hb9⟩
  have hw9 := hw8.then hb9
  go_wp2_with fail
  refine (name_any (s := 4) (hT.after hw9) ht5.rd).mono ?_
  rintro e w10 hr
  rw [C5] at hr
  obtain ⟨rfl, hb10⟩ : e = .returned (.tuple #[.string ⟨#[43, 80, 108]⟩, .bool true]) ∧ Bw w9 w10 := hr
  have hw10 := hw9.then hb10
  have hw10' := bw_al hw10 (.cells #[.int .i64 2, .int .i64 2, .int .i64 4, .int .i64 5] 3)
  go_wp2_with fail
  have hz := bw_al ((((((bw_al ((hb3.then hb4).then hb5) (.cells #[.int .i64 1, .int .i64 3] 3)).then hb6).then hb7).then hb8).then hb9).then hb10) (.cells #[.int .i64 2, .int .i64 2, .int .i64 4, .int .i64 5] 3)
  refine (val_of (congrArg Value.bool C7) (sameInts_any (hu1.rd.after hz) (lit (xs := [2, 2, 4, 5]) (by simp [maxLen]) (by simp)))).mono ?_
  rintro e w11 ⟨rfl, hd11⟩
  have hw11 := hw10'.then hd11.bw
  go_wp2_with fail
  refine table_any.mono ?_
  rintro e w12 ⟨⟨t6, rfl, ht6⟩, hb12⟩
  have hw12 := hw11.then hb12
  go_wp2_with fail
  refine (val_of (congrArg Value.bool C6) (valid_any (hT.after hw12) ht6.rd)).mono ?_
  rintro e w13 ⟨rfl, hb13⟩
  go_wp2_with fail
  go_ret
  exact ⟨rfl, hw12.then hb13⟩
end Go.Proofs.YtfdmpbihepkjnaaDoor

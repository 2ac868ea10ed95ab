/- The walk of the statement SymbolsTables. -/
import Derived.Test.YtfdmpbihepkjnaaDoorSB
namespace Go.Proofs.YtfdmpbihepkjnaaDoor
open Go.RowKit Go.Maps
open Pl

set_option maxRecDepth 100000 in
set_option maxHeartbeats 2000000 in
theorem tables_walk {v : Value} {t : List ByteArray} {x : ByteArray} {s : Int} {w : World} (hT : Tb w) (h : Rd tStr w v t) (hx : x.size ≤ maxLen) :
    Calls Tryd.prog 3 #[v, .string x, .int .i64 s] w fun e w' => e = .returned (.bool true) ∧ Bw w w' := by
  have HL := Lib.hid (large_any h)
  by_cases h6 : 600 < t.length
  · rw [decide_eq_true h6] at HL
    go_enter Tryd.func3, Tryd.ntmps3
    go_wp2_with (go_at_call 11; (with_reducible refine HL.out.mono ?_); rintro e w1 ⟨rfl, rfl⟩)
    refine (awake_any hT).mono ?_
    rintro e w2 ⟨rfl, hb2⟩
    go_wp2_with fail
    go_ret
    exact ⟨rfl, hb2⟩
  · rw [decide_eq_false h6] at HL
    have H1 := Lib.hid (find_any hT h hx)
    have H2 := Lib.hid (fun (w' : World) (hb : Bw w w') => rfind_any (x := x) (h.after hb))
    have H3 := Lib.hid (fun (w' : World) (hb : Bw w w') => name_any (s := s) (hT.after hb) (h.after hb))
    have H4 := Lib.hid (fun (w' : World) (hb : Bw w w') => rname_any (s := s) (h.after hb))
    have H5 := Lib.hid (fun (w' : World) (hb : Bw w w') => valid_any (hT.after hb) (h.after hb))
    have H6 := Lib.hid (fun (w' : World) (hb : Bw w w') => rvalid_any (h.after hb))
    generalize fnd t x = o at *
    generalize nam t s = p at *
    generalize vT t = q at *
    unfold FnR at H1 H2
    unfold NmR at H3 H4
    generalize fS o = z at *
    generalize fB o = b at *
    generalize nS p = y at *
    generalize nB p = c at *
    have e1 := str_eq y
    cases q <;> cases b <;> cases c
    all_goals
      go_enter Tryd.func3, Tryd.ntmps3
      go_wp2_with (go_at_call 11; (with_reducible refine HL.out.mono ?_); rintro e w1 ⟨rfl, rfl⟩)
      refine H1.out.mono ?_
      rintro e w2 ⟨rfl, hb1⟩
      go_wp2_with fail
      refine (H2.out _ hb1).mono ?_
      rintro e w3 ⟨rfl, hb2⟩
      have hb12 := hb1.then hb2
      go_wp2_with fail
      refine (H3.out _ hb12).mono ?_
      rintro e w4 ⟨rfl, hb3⟩
      have hb13 := hb12.then hb3
      go_wp2_with fail
      refine (H4.out _ hb13).mono ?_
      rintro e w5 ⟨rfl, hb4⟩
      have hb14 := hb13.then hb4
      go_wp2_with fail
      refine (H5.out _ hb14).mono ?_
      rintro e w6 ⟨rfl, hb5⟩
      have hb15 := hb14.then hb5
      go_wp2_with fail
      refine (H6.out _ hb15).mono ?_
      rintro e w7 ⟨rfl, hb6⟩
      have hb16 := hb15.then hb6
      go_wp2_with fail
      refine (awake_any (hT.after hb16)).mono ?_
      rintro e w8 ⟨rfl, hb7⟩
      go_wp2_with fail
      go_ret
      exact ⟨rfl, hb16.then hb7⟩
end Go.Proofs.YtfdmpbihepkjnaaDoor

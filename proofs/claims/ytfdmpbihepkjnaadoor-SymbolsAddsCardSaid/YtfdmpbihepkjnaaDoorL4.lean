/- The walk of the statement SymbolsAdds. -/
import Derived.Test.YtfdmpbihepkjnaaDoorSB
import Derived.Test.YtfdmpbihepkjnaaDoorSE
namespace Go.Proofs.YtfdmpbihepkjnaaDoor
open Go.RowKit Go.Maps
open Pl

set_option maxRecDepth 100000 in
set_option maxHeartbeats 4000000 in
theorem adds_walk {v : Value} {t : List ByteArray} {x : ByteArray} {w : World} (hT : Tb w) (h : Rd tStr w v t) (hx : x.size ≤ maxLen) :
    Calls Tryd.prog 9 #[v, .string x] w fun e w' => e = .returned (.bool true) ∧ Bw w w' := by
  have HL := Lib.hid (large_any h)
  by_cases h6 : 600 < t.length
  · rw [decide_eq_true h6] at HL
    go_enter Tryd.func9, Tryd.ntmps9
    go_wp2_with (go_at_call 11; (with_reducible refine HL.out.mono ?_); rintro e w1 ⟨rfl, rfl⟩)
    refine (awake_any hT).mono ?_
    rintro e w2 ⟨rfl, hb2⟩
    go_wp2_with fail
    go_ret
    exact ⟨rfl, hb2⟩
  · rw [decide_eq_false h6] at HL
    have H1 := Lib.hid (add_any hT h hx)
    have H2 := Lib.hid (fun (w' : World) (k : Bw w w') => radd_any (h.after k) hx)
    generalize addR t x = r at *
    obtain ⟨l, a, b⟩ := r
    go_enter Tryd.func9, Tryd.ntmps9
    go_wp2_with (go_at_call 11; (with_reducible refine HL.out.mono ?_); rintro e w1 ⟨rfl, rfl⟩)
    refine H1.out.mono ?_
    rintro e w2 ⟨u1, rfl, hb1, hu1⟩
    have H3 := Lib.hid (H2.out _ hb1)
    clear H1 H2
    go_wp2_with fail
    refine H3.out.mono ?_
    rintro e w3 ⟨u2, rfl, hb2, hu2⟩
    have hb12 := hb1.then hb2
    have hS : same l l = true := by simp [same]
    have H1 := Lib.hid (val_of (congrArg Value.bool hS) (sameList_any (hu1.rd.after hb2) hu2.rd))
    clear H3
    go_wp2_with fail
    refine H1.out.mono ?_
    rintro e w4 ⟨rfl, hd⟩
    have hb13 := hb12.then hd.bw
    go_wp2_with fail
    refine (awake_any (hT.after hb13)).mono ?_
    rintro e w5 ⟨rfl, hb4⟩
    go_wp2_with fail
    go_ret
    exact ⟨rfl, hb13.then hb4⟩
end Go.Proofs.YtfdmpbihepkjnaaDoor

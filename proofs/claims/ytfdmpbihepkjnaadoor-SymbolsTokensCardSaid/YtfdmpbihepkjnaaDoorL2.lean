/- The walk of the statement SymbolsTokens. -/
import Derived.Test.YtfdmpbihepkjnaaDoorSB
namespace Go.Proofs.YtfdmpbihepkjnaaDoor
open Go.RowKit Go.Maps
open Pl

set_option maxRecDepth 100000 in
set_option maxHeartbeats 2000000 in
theorem tokens_walk {v : Value} {t : List ByteArray} {x : ByteArray} {w : World} (hT : Tb w) (h : Rd tStr w v t) :
    Calls Tryd.prog 4 #[v, .string x] w fun e w' => e = .returned (.bool true) ∧ Bw w w' := by
  have HL := Lib.hid (large_any h)
  by_cases h6 : 600 < t.length
  · rw [decide_eq_true h6] at HL
    go_enter Tryd.func4, Tryd.ntmps4
    go_wp2_with (go_at_call 11; (with_reducible refine HL.out.mono ?_); rintro e w1 ⟨rfl, rfl⟩)
    refine (awake_any hT).mono ?_
    rintro e w2 ⟨rfl, hb2⟩
    go_wp2_with fail
    go_ret
    exact ⟨rfl, hb2⟩
  · rw [decide_eq_false h6] at HL
    by_cases h2 : 20000 < x.size
    · go_enter Tryd.func4, Tryd.ntmps4
      go_wp2_with (go_at_call 11; (with_reducible refine HL.out.mono ?_); rintro e w1 ⟨rfl, rfl⟩)
      refine (awake_any hT).mono ?_
      rintro e w2 ⟨rfl, hb2⟩
      go_wp2_with fail
      go_ret
      exact ⟨rfl, hb2⟩
    · have H1 := Lib.hid (tokens_any (x := x) hT h)
      generalize hr : tok vT t x = r at *
      obtain ⟨l, a, b⟩ := r
      go_enter Tryd.func4, Tryd.ntmps4
      go_wp2_with (go_at_call 11; (with_reducible refine HL.out.mono ?_); rintro e w1 ⟨rfl, rfl⟩)
      refine H1.out.mono ?_
      rintro e w2 ⟨u1, rfl, hb1, hu1⟩
      have H2 := Lib.hid (rtokens_any (x := x) (h.after hb1))
      rw [hr] at H2
      clear H1
      go_wp2_with fail
      refine H2.out.mono ?_
      rintro e w3 ⟨u2, rfl, hb2, hu2⟩
      have hb12 := hb1.then hb2
      have hS : same l l = true := by simp [same]
      have H1 := Lib.hid (val_of (congrArg Value.bool hS) (sameInts_any (hu1.rd.after hb2) hu2.rd))
      clear H2
      go_wp2_with fail
      refine H1.out.mono ?_
      rintro e w4 ⟨rfl, hd⟩
      have hb13 := hb12.then hd.bw
      go_wp2_with fail
      refine (awake_any (hT.after hb13)).mono ?_
      rintro e w5 ⟨rfl, hb4⟩
      go_wp2_with fail
      go_ret
      exact ⟨rfl, hb13.then hb4⟩
end Go.Proofs.YtfdmpbihepkjnaaDoor

/- The walk of the statement SymbolsTexts. -/
import Derived.Test.YtfdmpbihepkjnaaDoorSB
namespace Go.Proofs.YtfdmpbihepkjnaaDoor
open Go.RowKit Go.Maps
open Pl

set_option maxRecDepth 100000 in
set_option maxHeartbeats 2000000 in
theorem texts_walk {v u : Value} {t : List ByteArray} {x : List Int} {w : World} (hT : Tb w) (h : Rd tStr w v t) (hx : Rd tInt w u x) :
    Calls Tryd.prog 5 #[v, u] w fun e w' => e = .returned (.bool true) ∧ Bw w w' := by
  have HL := Lib.hid (large_any h)
  have H1 := Lib.hid (text_any hT h hx)
  have H2 := Lib.hid (fun (w' : World) (hb : Bw w w') => rtext_any (h.after hb) (hx.after hb))
  obtain ⟨A, c, rfl, _, _⟩ := hx.form
  by_cases h6 : 600 < t.length
  · rw [decide_eq_true h6] at HL
    go_enter Tryd.func5, Tryd.ntmps5
    go_wp2_with (go_at_call 11; (with_reducible refine HL.out.mono ?_); rintro e w1 ⟨rfl, rfl⟩)
    refine (awake_any hT).mono ?_
    rintro e w2 ⟨rfl, hb2⟩
    go_wp2_with fail
    go_ret
    exact ⟨rfl, hb2⟩
  · rw [decide_eq_false h6] at HL
    by_cases h2 : 300 < x.length
    · go_enter Tryd.func5, Tryd.ntmps5
      go_wp2_with (go_at_call 11; (with_reducible refine HL.out.mono ?_); rintro e w1 ⟨rfl, rfl⟩)
      refine (awake_any hT).mono ?_
      rintro e w2 ⟨rfl, hb2⟩
      go_wp2_with fail
      go_ret
      exact ⟨rfl, hb2⟩
    · generalize hr : txt vT t x = r at *
      obtain ⟨y, b⟩ := r
      go_enter Tryd.func5, Tryd.ntmps5
      go_wp2_with (go_at_call 11; (with_reducible refine HL.out.mono ?_); rintro e w1 ⟨rfl, rfl⟩)
      refine H1.out.mono ?_
      rintro e w2 ⟨rfl, hb1⟩
      have H3 := Lib.hid (H2.out _ hb1)
      clear H1 H2
      go_wp2_with fail
      refine H3.out.mono ?_
      rintro e w3 ⟨rfl, hb2⟩
      have hb12 := hb1.then hb2
      have e1 := str_eq y
      go_wp2_with fail
      refine (awake_any (hT.after hb12)).mono ?_
      rintro e w5 ⟨rfl, hb4⟩
      go_wp2_with fail
      go_ret
      exact ⟨rfl, hb12.then hb4⟩
end Go.Proofs.YtfdmpbihepkjnaaDoor

/- The walk of the statement ConstrainAgain. -/
import Derived.Test.YthecmbmidoagaaaDoorCC
namespace Go.Proofs.YthecmbmidoagaaaDoor
open Go.RowKit Go.Maps
open Pl

set_option maxRecDepth 100000 in
set_option maxHeartbeats 8000000 in
theorem again_walk {v1 v2 : Value} {rules : List Rul} {l : List Coh} {w : World} (hT : Tb w) (hr : Rd tRul w v1 rules) (hl : Rd tCoh w v2 l) :
    Calls Tryd.prog 8 #[v1, v2] w fun e w' => e = .returned (.bool true) ∧ Bw w w' := by
  go_enter Tryd.func8, Tryd.ntmps8
  go_wp2_with fail
  refine (large_any hl).mono ?_
  rintro e w1 ⟨⟨b, rfl⟩, hb1⟩
  cases b
  · go_wp2_with fail
    refine (many_any (hr.after hb1)).mono ?_
    rintro e w2 ⟨⟨b, rfl⟩, hb2⟩
    have hbw := hb1.then hb2
    cases b
    · skip
      have HA := Lib.hid (apply_any (hT.after hbw) (hr.after hbw) (hl.after hbw))
      by_cases hv : validRs nameB rules = true ∧ validL nameB l = true
      · rw [app_good hv.1 hv.2] at HA
        have HG := Lib.hid (app_good hv.1 (appA_valid (rules := rules) hv.2))
        rw [appA_again] at HG
        have HS := Lib.hid hv
        clear hv
        generalize (appA rules l).1 = out at *
        generalize (appA rules l).2 = st at *
        go_wp2_with fail
        refine HA.out.mono ?_
        intro e w3 hq
        obtain ⟨u, v, rfl, hb3, hu, hv⟩ : ∃ u v, e = .returned (.tuple #[u, v, .int .i64 0]) ∧ Bw w2 w3 ∧ Sl tCoh w3 (Hi w2.heap.size) u out ∧ Sl tStp w3 (Hi w2.heap.size) v st := hq
        clear HA
        have hbw3 := hbw.then hb3
        go_wp2_with fail
        have HA := Lib.hid (apply_any (hT.after hbw3) (hr.after hbw3) hu.rd)
        rw [HG.out] at HA
        refine HA.out.mono ?_
        intro e w4 hq
        obtain ⟨u4, v4, rfl, hb4, hu4, hv4⟩ : ∃ u v, e = .returned (.tuple #[u, v, .int .i64 0]) ∧ Bw w3 w4 ∧ Sl tCoh w4 (Hi w3.heap.size) u out ∧ Sl tStp w4 (Hi w3.heap.size) v [] := hq
        clear HA
        have hbw4 := hbw3.then hb4
        obtain ⟨V4, c4, rfl, _, _⟩ := hv4.form
        have hS : same out out = true := by simp [same]
        have H1 := Lib.hid (val_of (congrArg Value.bool hS) (same_any (hu.rd.after hb4) hu4.rd))
        go_wp2_with fail
        refine H1.out.mono ?_
        rintro e w5 ⟨rfl, hb5⟩
        have hbw5 := hbw4.then hb5
        go_wp2_with fail
        refine (example_any (hT.after hbw5)).mono ?_
        rintro e wE ⟨rfl, hbE⟩
        go_wp2_with fail
        go_ret
        exact ⟨rfl, hbw5.then hbE⟩
      · rw [app_bad hv] at HA
        clear hv
        go_wp2_with fail
        refine HA.out.mono ?_
        intro e w3 hq
        obtain ⟨u, v, rfl, hb3, hu, hv⟩ : ∃ u v, e = .returned (.tuple #[u, v, .int .i64 1]) ∧ Bw w2 w3 ∧ Sl tCoh w3 (Hi w2.heap.size) u [] ∧ Sl tStp w3 (Hi w2.heap.size) v [] := hq
        clear HA
        have hbw3 := hbw.then hb3
        go_wp2_with fail
        refine (example_any (hT.after hbw3)).mono ?_
        rintro e wE ⟨rfl, hbE⟩
        go_wp2_with fail
        go_ret
        exact ⟨rfl, hbw3.then hbE⟩
    · skip
      go_wp2_with fail
      refine (example_any (hT.after hbw)).mono ?_
      rintro e wE ⟨rfl, hbE⟩
      go_wp2_with fail
      go_ret
      exact ⟨rfl, hbw.then hbE⟩
  · have hbw := hb1
    go_wp2_with fail
    refine (example_any (hT.after hbw)).mono ?_
    rintro e wE ⟨rfl, hbE⟩
    go_wp2_with fail
    go_ret
    exact ⟨rfl, hbw.then hbE⟩
end Go.Proofs.YthecmbmidoagaaaDoor

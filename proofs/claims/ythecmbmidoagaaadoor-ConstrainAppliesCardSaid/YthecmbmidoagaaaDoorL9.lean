/- The walk of the statement ConstrainApplies. -/
import Derived.Test.YthecmbmidoagaaaDoorCC
import Derived.Test.YthecmbmidoagaaaDoorCI
namespace Go.Proofs.YthecmbmidoagaaaDoor
open Go.RowKit Go.Maps
open Pl

set_option maxRecDepth 100000 in
set_option maxHeartbeats 8000000 in
theorem applies_walk {v1 v2 : Value} {rules : List Rul} {l : List Coh} {w : World} (hT : Tb w) (hr : Rd tRul w v1 rules) (hl : Rd tCoh w v2 l) :
    Calls Tryd.prog 6 #[v1, v2] w fun e w' => e = .returned (.bool true) ∧ Bw w w' := by
  go_enter Tryd.func6, Tryd.ntmps6
  go_wp2_with fail
  refine (large_any hl).mono ?_
  rintro e w1 ⟨⟨b, rfl⟩, hb1⟩
  cases b
  · go_wp2_with fail
    refine (many_any (hr.after hb1)).mono ?_
    rintro e w2 ⟨⟨b, rfl⟩, hb2⟩
    have hbw := hb1.then hb2
    cases b
    · skip
      have H1 := Lib.hid (apply_any (hT.after hbw) (hr.after hbw) (hl.after hbw))
      have H2 := Lib.hid (fun (W : World) (k : Bw w W) => rapply_any (hr.after k) (hl.after k))
      generalize app nameB rules l = z at *
      obtain ⟨za, zb, zc⟩ := z
      go_wp2_with fail
      with_reducible refine H1.out.mono ?_
      intro e w3 hq
      obtain ⟨u3, v3, rfl, hb3, hu3, hv3⟩ : ∃ u v, e = .returned (.tuple #[u, v, .int .i64 zc]) ∧ Bw w2 w3 ∧ Sl tCoh w3 (Hi w2.heap.size) u za ∧ Sl tStp w3 (Hi w2.heap.size) v zb := hq
      clear H1
      have hbw3 := hbw.then hb3
      have H3 := Lib.hid (H2.out _ hbw3)
      clear H2
      go_wp2_with fail
      with_reducible refine H3.out.mono ?_
      intro e w4 hq
      obtain ⟨u4, v4, rfl, hb4, hu4, hv4⟩ : ∃ u v, e = .returned (.tuple #[u, v, .int .i64 zc]) ∧ Bw w3 w4 ∧ Sl tCoh w4 (Hi w3.heap.size) u za ∧ Sl tStp w4 (Hi w3.heap.size) v zb := hq
      clear H3
      have hbw4 := hbw3.then hb4
      have hS : same za za = true := by simp [same]
      have hS2 : same zb zb = true := by simp [same]
      have H4 := Lib.hid (val_of (congrArg Value.bool hS) (same_any (hu3.rd.after hb4) hu4.rd))
      have H5 := Lib.hid (fun (W : World) (k : Bw w4 W) => val_of (congrArg Value.bool hS2) (sames_any ((hv3.rd.after hb4).after k) (hv4.rd.after k)))
      have hze : (zc == zc) = true := by simp
      clear hS hS2
      go_wp2_with fail
      with_reducible refine H4.out.mono ?_
      rintro e w5 ⟨rfl, hb5⟩
      have hbw5 := hbw4.then hb5
      have H6 := Lib.hid (H5.out _ hb5)
      go_wp2_with fail
      with_reducible refine H6.out.mono ?_
      rintro e w6 ⟨rfl, hb6⟩
      have hbw6 := hbw5.then hb6
      go_wp2_with fail
      refine (example_any (hT.after hbw6)).mono ?_
      rintro e wE ⟨rfl, hbE⟩
      go_wp2_with fail
      go_ret
      exact ⟨rfl, hbw6.then hbE⟩
    · skip
      go_wp2_with fail
      refine (example_any (hT.after hbw)).mono ?_
      rintro e wE ⟨rfl, hbE⟩
      go_wp2_with fail
      go_ret
      exact ⟨rfl, hbw.then hbE⟩
  · have hbw := hb1
    go_wp2_with fail
    refine (example_any (hT.after hbw)).mono ?_
    rintro e wE ⟨rfl, hbE⟩
    go_wp2_with fail
    go_ret
    exact ⟨rfl, hbw.then hbE⟩
end Go.Proofs.YthecmbmidoagaaaDoor

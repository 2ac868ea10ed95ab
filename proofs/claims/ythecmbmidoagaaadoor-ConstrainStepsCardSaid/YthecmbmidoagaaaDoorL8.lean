/- The walk of the statement ConstrainSteps. -/
import Derived.Test.YthecmbmidoagaaaDoorCH
namespace Go.Proofs.YthecmbmidoagaaaDoor
open Go.RowKit Go.Maps
open Pl

set_option maxRecDepth 100000 in
set_option maxHeartbeats 8000000 in
theorem steps_walk {u1 u2 v : Value} {r : Rul} {l : List Coh} {i : Int} {w : World} (hT : Tb w) (hi : inI64 r.op) (h1 : Rd tStr w u1 r.target) (h2 : Rd tTst w u2 r.tests) (hl : Rd tCoh w v l) :
    Calls Tryd.prog 5 #[.agg #[.int .i64 r.op, u1, u2, .bool r.wild], v, .int .i64 i] w fun e w' => e = .returned (.bool true) ∧ Bw w w' := by
  obtain ⟨op, target, tests, wild⟩ := r
  simp only at *
  obtain ⟨A, c, rfl, _, _⟩ := hl.form
  obtain ⟨A1, c1, rfl, _, _⟩ := h1.form
  obtain ⟨A2, c2, rfl, _, _⟩ := h2.form
  have hb0 := bw_refl_al w (.cells #[.int .i64 op, .slice A1 target.length c1, .slice A2 tests.length c2, .bool wild] 34)
  have rt : (w.alloc (.cells #[.int .i64 op, .slice A1 target.length c1, .slice A2 tests.length c2, .bool wild] 34)).heap[w.heap.size]? = _ := at_new rfl
  go_enter Tryd.func5, Tryd.ntmps5
  go_wp2_with fail
  refine (large_any (hl.after hb0)).mono ?_
  rintro e w1 ⟨⟨b, rfl⟩, hb1⟩
  have hbw := hb0.then hb1
  cases b
  case true =>
    go_wp2_with fail
    refine (example_any (hT.after hbw)).mono ?_
    rintro e wE ⟨rfl, hbE⟩
    go_wp2_with fail
    go_ret
    exact ⟨rfl, hbw.then hbE⟩
  have r1 := row_bw hb1 rt
  have a0 := row4_0 r1
  have a1 := row4_1 r1
  have a2 := row4_2 r1
  have a3 := row4_3 r1
  have H1 := Lib.hid (step_any (r := ⟨op, target, tests, wild⟩) (i := i) (hT.after hbw) (h1.after hbw) (h2.after hbw) (hl.after hbw))
  have H2 := Lib.hid (fun (W : World) (k : Bw w W) => rstep_any (r := ⟨op, target, tests, wild⟩) (i := i) (h1.after k) (h2.after k) (hl.after k))
  simp only at H1 H2
  generalize stp nameB ⟨op, target, tests, wild⟩ l i = z at *
  obtain ⟨⟨zf, zr⟩, zb, ze⟩ := z
  clear h1 h2 hl rt
  go_wp2_with fail
  with_reducible refine H1.out.mono ?_
  intro e w2 hq
  obtain ⟨u2, rfl, hb2, hu2⟩ : ∃ u, e = .returned (.tuple #[.agg #[.string zf, u], .bool zb, .int .i64 ze]) ∧ Bw w1 w2 ∧ Sl tRdg w2 (Hi w1.heap.size) u zr := hq
  obtain ⟨U2, n2, d2, rfl, _, _, _⟩ := hu2.form'
  clear H1 a0 a1 a2 a3
  have hb3 : Bw w1 (w2.alloc (.cells #[.string zf, .slice U2 n2 d2] 37)) := bw_al hb2 _
  have b0 := row4_0 (row_bw hb3 r1)
  have b1 := row4_1 (row_bw hb3 r1)
  have b2 := row4_2 (row_bw hb3 r1)
  have b3 := row4_3 (row_bw hb3 r1)
  have hbw3 := hbw.then hb3
  have H3 := Lib.hid (H2.out _ hbw3)
  clear H2
  go_wp2_with fail
  with_reducible refine H3.out.mono ?_
  intro e w4 hq
  obtain ⟨u4, rfl, hb4, hu4⟩ : ∃ u, e = .returned (.tuple #[.agg #[.string zf, u], .bool zb, .int .i64 ze]) ∧ Bw (w2.alloc (.cells #[.string zf, .slice U2 n2 d2] 37)) w4 ∧ Sl tRdg w4 (Hi (w2.alloc (.cells #[.string zf, .slice U2 n2 d2] 37)).heap.size) u zr := hq
  obtain ⟨U4, n4, d4, rfl, _, _, _⟩ := hu4.form'
  clear H3 b0 b1 b2 b3
  have hb5 := bw_al hb4 (.cells #[.string zf, .slice U4 n4 d4] 37)
  have p0 := bw_cell hb5 (row2_0 (w := w2.alloc (.cells #[.string zf, .slice U2 n2 d2] 37)) (at_new rfl))
  have p1 := bw_cell hb5 (row2_1 (w := w2.alloc (.cells #[.string zf, .slice U2 n2 d2] 37)) (at_new rfl))
  have q0 := row2_0 (w := w4.alloc (.cells #[.string zf, .slice U4 n4 d4] 37)) (at_new rfl)
  have q1 := row2_1 (w := w4.alloc (.cells #[.string zf, .slice U4 n4 d4] 37)) (at_new rfl)
  have hbw5 := hbw3.then hb5
  have hq : eqC (zf, zr) (zf, zr) = true := by simp [eqC]
  have HC := Lib.hid (val_of (congrArg Value.bool hq) (samec_any (f1 := zf) (f2 := zf) ((hu2.rd.after (bw_refl_al w2 _)).after hb5) (hu4.rd.after (bw_refl_al w4 (.cells #[.string zf, .slice U4 n4 d4] 37)))))
  have hzb : (zb == zb) = true := by cases zb <;> rfl
  have hze : (ze == ze) = true := by simp
  go_wp2_with fail
  with_reducible refine HC.out.mono ?_
  rintro e wD ⟨rfl, hbD⟩
  have hwD := hbw5.then hbD
  go_wp2_with fail
  refine (example_any (hT.after hwD)).mono ?_
  rintro e wE ⟨rfl, hbE⟩
  go_wp2_with fail
  go_ret
  exact ⟨rfl, hwD.then hbE⟩
end Go.Proofs.YthecmbmidoagaaaDoor

/- The walk of the statement ConstrainHolds. -/
import Derived.Test.YthecmbmidoagaaaDoorCE
namespace Go.Proofs.YthecmbmidoagaaaDoor
open Go.RowKit Go.Maps
open Pl

set_option maxRecDepth 100000 in
set_option maxHeartbeats 8000000 in
theorem holds_walk {u1 u2 v : Value} {t : Tst} {l : List Coh} {i : Int} {w : World} (hT : Tb w) (hi : inI64 t.at') (h1 : Rd tStr w u1 t.tags) (h2 : Rd tStr w u2 t.bar) (hl : Rd tCoh w v l) :
    Calls Tryd.prog 4 #[.agg #[.int .i64 t.at', .bool t.scan, .bool t.neg, .bool t.care, u1, u2], v, .int .i64 i] w fun e w' => e = .returned (.bool true) ∧ Bw w w' := by
  obtain ⟨at', scan, neg, care, tags, bar⟩ := t
  simp only at *
  obtain ⟨A, c, rfl, _, _⟩ := hl.form
  obtain ⟨A1, c1, rfl, _, _⟩ := h1.form
  obtain ⟨A2, c2, rfl, _, _⟩ := h2.form
  have hb0 := bw_refl_al w (.cells #[.int .i64 at', .bool scan, .bool neg, .bool care, .slice A1 tags.length c1, .slice A2 bar.length c2] 28)
  have rt : (w.alloc (.cells #[.int .i64 at', .bool scan, .bool neg, .bool care, .slice A1 tags.length c1, .slice A2 bar.length c2] 28)).heap[w.heap.size]? = _ := at_new rfl
  go_enter Tryd.func4, Tryd.ntmps4
  go_wp2_with fail
  refine (large_any (hl.after hb0)).mono ?_
  rintro e w1 ⟨⟨b, rfl⟩, hb1⟩
  have hbw := hb0.then hb1
  cases b
  case true =>
    go_wp2_with fail
    refine (example_any (hT.after hbw)).mono ?_
    rintro e wE ⟨rfl, hbE⟩
    go_wp2_with fail
    go_ret
    exact ⟨rfl, hbw.then hbE⟩
  have K : ∀ w', Bw w1 w' → w'.cell? ⟨w.heap.size, 0, none⟩ = some (.int .i64 at') ∧ w'.cell? ⟨w.heap.size, 1, none⟩ = some (.bool scan) ∧ w'.cell? ⟨w.heap.size, 2, none⟩ = some (.bool neg) ∧ w'.cell? ⟨w.heap.size, 3, none⟩ = some (.bool care) ∧ w'.cell? ⟨w.heap.size, 4, none⟩ = some (.slice A1 tags.length c1) ∧ w'.cell? ⟨w.heap.size, 5, none⟩ = some (.slice A2 bar.length c2) := fun w' kk => box6 (row_bw hb1 rt) kk
  have H1 := Lib.hid (fun (W : World) (k : Bw w1 W) => pHolds_any (t := ⟨at', scan, neg, care, tags, bar⟩) (i := i) (hT.after (hbw.then k)) hi (h1.after (hbw.then k)) (h2.after (hbw.then k)) (hl.after (hbw.then k)))
  have H2 := Lib.hid (fun (W : World) (k : Bw w1 W) => rHolds_any (t := ⟨at', scan, neg, care, tags, bar⟩) (i := i) hi (h1.after (hbw.then k)) (h2.after (hbw.then k)) (hl.after (hbw.then k)))
  have HE := Lib.hid (fun (W : World) (k : Bw w1 W) => example_any (hT.after (hbw.then k)))
  simp only at H1 H2
  generalize holdsB nameB ⟨at', scan, neg, care, tags, bar⟩ l i = q at *
  have hq : (q == q) = true := by cases q <;> rfl
  clear h1 h2 hl rt
  go_wp2_with fail
  go_region_held3 (fun w' => w'.cell? ⟨w.heap.size, 0, none⟩ = some (.int .i64 at') ∧ w'.cell? ⟨w.heap.size, 1, none⟩ = some (.bool scan) ∧ w'.cell? ⟨w.heap.size, 2, none⟩ = some (.bool neg) ∧ w'.cell? ⟨w.heap.size, 3, none⟩ = some (.bool care) ∧ w'.cell? ⟨w.heap.size, 4, none⟩ = some (.slice A1 tags.length c1) ∧ w'.cell? ⟨w.heap.size, 5, none⟩ = some (.slice A2 bar.length c2)) (exact K _ (by (repeat' first | with_reducible exact Below.refl _ _ | with_reducible assumption | with_reducible refine Bw.drew ?_ | with_reducible refine Bw.drewN ?_ _ | with_reducible refine bw_al ?_ _ | with_reducible refine Bw.then ?_ (by with_reducible assumption))))
    (first
      | (go_at_call 16; (with_reducible refine (H1.out _ (by (repeat' first | with_reducible exact Below.refl _ _ | with_reducible assumption | with_reducible refine Bw.drew ?_ | with_reducible refine Bw.drewN ?_ _ | with_reducible refine bw_al ?_ _ | with_reducible refine Bw.then ?_ (by with_reducible assumption)))).mono ?_); rintro e wA ⟨rfl, hbA⟩)
      | (go_at_call 17; (with_reducible refine (H2.out _ (by (repeat' first | with_reducible exact Below.refl _ _ | with_reducible assumption | with_reducible refine Bw.drew ?_ | with_reducible refine Bw.drewN ?_ _ | with_reducible refine bw_al ?_ _ | with_reducible refine Bw.then ?_ (by with_reducible assumption)))).mono ?_); rintro e wB ⟨rfl, hbB⟩)
      | (go_at_call 12; (with_reducible refine (HE.out _ (by (repeat' first | with_reducible exact Below.refl _ _ | with_reducible assumption | with_reducible refine Bw.drew ?_ | with_reducible refine Bw.drewN ?_ _ | with_reducible refine bw_al ?_ _ | with_reducible refine Bw.then ?_ (by with_reducible assumption)))).mono ?_); rintro e wC ⟨rfl, hbC⟩))
  go_wp2_with fail
  go_ret
  exact ⟨rfl, hbw.then (by (repeat' first | with_reducible exact Below.refl _ _ | with_reducible assumption | with_reducible refine Bw.drew ?_ | with_reducible refine Bw.drewN ?_ _ | with_reducible refine bw_al ?_ _ | with_reducible refine Bw.then ?_ (by with_reducible assumption)))⟩
end Go.Proofs.YthecmbmidoagaaaDoor

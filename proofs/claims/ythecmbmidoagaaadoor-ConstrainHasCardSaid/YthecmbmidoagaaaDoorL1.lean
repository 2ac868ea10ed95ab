/- The walk of the statement ConstrainHas. -/
import Derived.Test.YthecmbmidoagaaaDoorCC
namespace Go.Proofs.YthecmbmidoagaaaDoor
open Go.RowKit Go.Maps
open Pl

set_option maxRecDepth 100000 in
set_option maxHeartbeats 4000000 in
theorem has_walk {u v : Value} {r tags : List ByteArray} {w : World} (hT : Tb w) (hr : Rd tStr w u r) (ht : Rd tStr w v tags) :
    Calls Tryd.prog 3 #[.agg #[u], v] w fun e w' => e = .returned (.bool true) ∧ Bw w w' := by
  have hm := hr.len_le
  have hm2 := ht.len_le
  obtain ⟨A, c, rfl, _, _⟩ := hr.form
  obtain ⟨A', c', rfl, _, _⟩ := ht.form
  have hb := bw_refl_al w (.cells #[.slice A r.length c] 24)
  by_cases h1 : r.length ≤ 300
  · by_cases h2 : tags.length ≤ 300
    · have H1 := Lib.hid (fun (W : World) (k : Bw w W) => has_any (hr.after k) (ht.after k))
      have H2 := Lib.hid (fun (W : World) (k : Bw w W) => rhas_any (hr.after k) (ht.after k))
      generalize hasB r tags = q at *
      clear hr ht
      go_enter Tryd.func3, Tryd.ntmps3
      go_wp2_with fail
      have hq : (q == q) = true := by cases q <;> rfl
      have kc : ∀ w', Bw (w.alloc (.cells #[.slice A r.length c] 24)) w' → w'.cell? ⟨w.heap.size, 0, none⟩ = some (.slice A r.length c) := fun w' kk => bw_cell kk (by go_simp)
      have HE := Lib.hid (fun (W : World) (k : Bw w W) => example_any (hT.after k))
      go_region_held3 (fun w' => w'.cell? ⟨w.heap.size, 0, none⟩ = some (.slice A r.length c)) (exact kc _ (by (repeat' first | with_reducible exact Below.refl _ _ | with_reducible assumption | with_reducible refine Bw.drew ?_ | with_reducible refine Bw.drewN ?_ _ | with_reducible refine bw_al ?_ _ | with_reducible refine Bw.then ?_ (by with_reducible assumption)))) (first
        | (go_at_call 13; (with_reducible refine (H1.out _ (by (repeat' first | with_reducible exact Below.refl _ _ | with_reducible assumption | with_reducible refine Bw.drew ?_ | with_reducible refine Bw.drewN ?_ _ | with_reducible refine bw_al ?_ _ | with_reducible refine Bw.then ?_ (by with_reducible assumption)))).mono ?_); rintro e wA ⟨rfl, hbA⟩)
        | (go_at_call 14; (with_reducible refine (H2.out _ (by (repeat' first | with_reducible exact Below.refl _ _ | with_reducible assumption | with_reducible refine Bw.drew ?_ | with_reducible refine Bw.drewN ?_ _ | with_reducible refine bw_al ?_ _ | with_reducible refine Bw.then ?_ (by with_reducible assumption)))).mono ?_); rintro e wB ⟨rfl, hbB⟩)
        | (go_at_call 12; (with_reducible refine (HE.out _ (by (repeat' first | with_reducible exact Below.refl _ _ | with_reducible assumption | with_reducible refine Bw.drew ?_ | with_reducible refine Bw.drewN ?_ _ | with_reducible refine bw_al ?_ _ | with_reducible refine Bw.then ?_ (by with_reducible assumption)))).mono ?_); rintro e wC ⟨rfl, hbC⟩))
      go_wp2_with fail
      go_ret
      exact ⟨rfl, (by (repeat' first | with_reducible exact Below.refl _ _ | with_reducible assumption | with_reducible refine Bw.drew ?_ | with_reducible refine Bw.drewN ?_ _ | with_reducible refine bw_al ?_ _ | with_reducible refine Bw.then ?_ (by with_reducible assumption)))⟩
    · go_enter Tryd.func3, Tryd.ntmps3
      go_wp2_with fail
      refine (example_any (hT.after hb)).mono ?_
      rintro e w2 ⟨rfl, hb2⟩
      go_wp2_with fail
      go_ret
      exact ⟨rfl, hb.then hb2⟩
  · go_enter Tryd.func3, Tryd.ntmps3
    go_wp2_with fail
    refine (example_any (hT.after hb)).mono ?_
    rintro e w2 ⟨rfl, hb2⟩
    go_wp2_with fail
    go_ret
    exact ⟨rfl, hb.then hb2⟩
end Go.Proofs.YthecmbmidoagaaaDoor

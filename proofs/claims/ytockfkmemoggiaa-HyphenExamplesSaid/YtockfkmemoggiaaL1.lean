/- The walk of the statement HyphenDivides. -/
import Derived.Test.YtockfkmemoggiaaSJ
import Derived.Test.YtockfkmemoggiaaR3
import Derived.Deep.RegionHeld3
namespace Go.Proofs.Ytockfkmemoggiaa
open Go.RowKit
open Pl

set_option maxRecDepth 100000 in
set_option maxHeartbeats 4000000 in
theorem divides_walk {a b c v : Value} {s : Snd} {x : List Int} {m : Int} {w : World} (h : SndR w a b c s) (hx : Rd tInt w v x) (hm1 : -9223372036854775808 ≤ m) (hm2 : m ≤ 9223372036854775807) :
    Calls Try.prog 3 #[.agg #[a, b, c], v, .int .i64 m] w fun e w' => e = .returned (.bool true) ∧ Bw w w' := by
  have hB : Bw w (w.alloc (.cells #[a, b, c] 25)) := (Below.refl _ _).alloc (Nat.le_refl _) _
  have hs0 := h.alloc (.cells #[a, b, c] 25)
  have hx0 := hx.alloc (.cells #[a, b, c] 25)
  have HL := Lib.hid (large_any hs0)
  obtain ⟨A, cc, rfl, _, _⟩ := hx.form
  clear h hx
  cases hl : largeB s
  · have Hl := Lib.hid hl
    clear hl
    by_cases h3 : 300 < x.length
    · go_enter Try.func3, Try.ntmps3
      go_wp2_with fail
      refine (val_of (congrArg Value.bool Hl.out) HL.out).mono ?_
      rintro e w1 ⟨rfl, hb1⟩
      go_wp2_with fail
      refine awake_any.mono ?_
      rintro e w2 ⟨rfl, hb2⟩
      go_wp2_with fail
      go_ret
      exact ⟨rfl, (hB.then hb1).then hb2⟩
    · go_enter Try.func3, Try.ntmps3
      go_wp2_with fail
      refine (val_of (congrArg Value.bool Hl.out) HL.out).mono ?_
      rintro e w1 ⟨rfl, hb1⟩
      obtain ⟨p0, p1, p2⟩ := box3 hb1
      have H1 := Lib.hid (syllables_any (hs0.after hb1) (hx0.after hb1))
      go_wp2_with fail
      refine H1.out.mono ?_
      rintro e w2 ⟨u1, rfl, hb2, hu1⟩
      generalize hEE : (if okB s x = true then (0 : Int) else 1) = E
      have hc2 := hb1.then hb2
      obtain ⟨q0, q1, q2⟩ := box3 hc2
      have H2 := Lib.hid (rsyllables_any (hs0.after hc2) (hx0.after hc2))
      clear H1 p0 p1 p2
      go_wp2_with fail
      refine H2.out.mono ?_
      rintro e w3 ⟨u2, rfl, hb3, hu2⟩
      rw [hEE]
      have hc3 := hc2.then hb3
      obtain ⟨p0, p1, p2⟩ := box3 hc3
      have H1 := Lib.hid (hyph_any (hs0.after hc3) (hx0.after hc3) hm1 hm2)
      clear H2 q0 q1 q2
      go_wp2_with fail
      refine H1.out.mono ?_
      rintro e w4 ⟨u3, rfl, hb4, hu3⟩
      have hc4 := hc3.then hb4
      obtain ⟨q0, q1, q2⟩ := box3 hc4
      have H2 := Lib.hid (rhyph_any (hs0.after hc4) (hx0.after hc4) hm1 hm2)
      clear H1 p0 p1 p2
      go_wp2_with fail
      refine H2.out.mono ?_
      rintro e w5 ⟨u4, rfl, hb5, hu4⟩
      have hc5 := hc4.then hb5
      have hs5 := hs0.after hc5
      have r1 := hu1.rd.after ((hb3.then hb4).then hb5)
      have r2 := hu2.rd.after (hb4.then hb5)
      have r3 := hu3.rd.after hb5
      have r4 := hu4.rd
      generalize (if okB s x = true then sylR s x else []) = S at *
      clear hEE
      generalize (if hyE s x m = 0 then hyw s x m else []) = Y at *
      generalize hyE s x m = E2 at *
      have hSW : sameW S S = true := by simp [sameW]
      have hYY : sameB Y Y = true := by simp [sameB]
      have K3 : ∀ w', Bw w5 w' → w'.cell? ⟨w.heap.size, 0, none⟩ = some a ∧ w'.cell? ⟨w.heap.size, 1, none⟩ = some b ∧ w'.cell? ⟨w.heap.size, 2, none⟩ = some c := fun w' hb => box3 (hc5.then hb)
      clear H2 q0 q1 q2 hu1 hu2 hu3 hu4
      cases hv : validB s <;> have Hv := Lib.hid hv <;> clear hv
      all_goals
        go_wp2_with fail
        go_region_held3 (fun w' => w'.cell? ⟨w.heap.size, 0, none⟩ = some a ∧ w'.cell? ⟨w.heap.size, 1, none⟩ = some b ∧ w'.cell? ⟨w.heap.size, 2, none⟩ = some c)
          (exact K3 _ (by (repeat' first | with_reducible exact Below.refl _ _ | with_reducible refine Bw.then ?_ hb13 | with_reducible refine Bw.then ?_ hb14 | with_reducible refine Bw.then ?_ hb8 | with_reducible refine Bw.drew ?_ | with_reducible refine Bw.drewN ?_ _)))
          ((first
            | (go_at_call 13; (with_reducible refine (val_of (congrArg Value.bool Hv.out) (pvalid_any (hs5.after (by (repeat' first | with_reducible exact Below.refl _ _ | with_reducible refine Bw.then ?_ hb13 | with_reducible refine Bw.then ?_ hb14 | with_reducible refine Bw.then ?_ hb8 | with_reducible refine Bw.drew ?_ | with_reducible refine Bw.drewN ?_ _))))).mono ?_); rintro e w13 ⟨rfl, hb13⟩)
            | (go_at_call 14; (with_reducible refine (val_of (congrArg Value.bool Hv.out) (valid_any (hs5.after (by (repeat' first | with_reducible exact Below.refl _ _ | with_reducible refine Bw.then ?_ hb13 | with_reducible refine Bw.then ?_ hb14 | with_reducible refine Bw.then ?_ hb8 | with_reducible refine Bw.drew ?_ | with_reducible refine Bw.drewN ?_ _))))).mono ?_); rintro e w14 ⟨rfl, hb14⟩)
            | (go_at_call 15; (with_reducible refine (val_of (congrArg Value.bool hSW) (sameWords_any (r1.after (by (repeat' first | with_reducible exact Below.refl _ _ | with_reducible refine Bw.then ?_ hb13 | with_reducible refine Bw.then ?_ hb14 | with_reducible refine Bw.then ?_ hb8 | with_reducible refine Bw.drew ?_ | with_reducible refine Bw.drewN ?_ _))) (r2.after (by (repeat' first | with_reducible exact Below.refl _ _ | with_reducible refine Bw.then ?_ hb13 | with_reducible refine Bw.then ?_ hb14 | with_reducible refine Bw.then ?_ hb8 | with_reducible refine Bw.drew ?_ | with_reducible refine Bw.drewN ?_ _))))).mono ?_); rintro e w15 ⟨rfl, n15, rfl⟩)
            | (go_at_call 16; (with_reducible refine (val_of (congrArg Value.bool hYY) (sameInts_any (r3.after (by (repeat' first | with_reducible exact Below.refl _ _ | with_reducible refine Bw.then ?_ hb13 | with_reducible refine Bw.then ?_ hb14 | with_reducible refine Bw.then ?_ hb8 | with_reducible refine Bw.drew ?_ | with_reducible refine Bw.drewN ?_ _))) (r4.after (by (repeat' first | with_reducible exact Below.refl _ _ | with_reducible refine Bw.then ?_ hb13 | with_reducible refine Bw.then ?_ hb14 | with_reducible refine Bw.then ?_ hb8 | with_reducible refine Bw.drew ?_ | with_reducible refine Bw.drewN ?_ _))))).mono ?_); rintro e w16 ⟨rfl, n16, rfl⟩)
            | (go_at_call 8; (with_reducible refine awake_any.mono ?_); rintro e w8 ⟨rfl, hb8⟩)))
        all_goals
          go_wp2_with fail
          go_ret
          exact ⟨rfl, hB.then (hc5.then (by (repeat' first | with_reducible exact Below.refl _ _ | with_reducible refine Bw.then ?_ hb13 | with_reducible refine Bw.then ?_ hb14 | with_reducible refine Bw.then ?_ hb8 | with_reducible refine Bw.drew ?_ | with_reducible refine Bw.drewN ?_ _)))⟩
  · have Hl := Lib.hid hl
    clear hl
    go_enter Try.func3, Try.ntmps3
    go_wp2_with fail
    refine (val_of (congrArg Value.bool Hl.out) HL.out).mono ?_
    rintro e w1 ⟨rfl, hb1⟩
    go_wp2_with fail
    refine awake_any.mono ?_
    rintro e w2 ⟨rfl, hb2⟩
    go_wp2_with fail
    go_ret
    exact ⟨rfl, (hB.then hb1).then hb2⟩
end Go.Proofs.Ytockfkmemoggiaa

/- The contract of the law's awake: the chapter's examples. Conditions: the library's two tables stand in the world. -/
import Derived.Test.YtonadloonidmjaaDoorGA
import Derived.Test.YtonadloonidmjaaDoorGC
namespace Go.Proofs.YtonadloonidmjaaDoor
open Go.RowKit
open Pl

theorem learn_of {v : Value} {l : List Kn} {m e : Int} {g : List En} {w : World} (hT : Tb w) (h : Rd tKn w v l) (hl : learnP l m = (g, e)) :
    Calls Tryd.prog 10 #[v, .int .i64 m] w fun z w' => ∃ u, z = .returned (.tuple #[u, .int .i64 e]) ∧ Bw w w' ∧ Sl tEn w' (Hi w.heap.size) u g := by
  refine (learn_any hT h).mono ?_
  rintro z w' ⟨u, rfl, hb, hu⟩
  rw [hl] at hu ⊢
  exact ⟨u, rfl, hb, hu⟩
theorem guess_of {v u : Value} {g : List En} {x : List Int} {e : Int} {r : List En} {w : World} (hT : Tb w) (h : Rd tEn w v g) (hx : Rd tInt w u x) (hn : g.length < 20) (hl : guessP g x = (r, e)) :
    Calls Tryd.prog 13 #[v, u] w fun z w' => ∃ u, z = .returned (.tuple #[u, .int .i64 e]) ∧ Bw w w' ∧ Sl tEn w' (Hi w.heap.size) u r := by
  refine (guess_few hT h hx hn).mono ?_
  rintro z w' ⟨u, rfl, hb, hu⟩
  rw [hl] at hu ⊢
  exact ⟨u, rfl, hb, hu⟩
theorem whole_of {v u : Value} {l : List Kn} {x : List Int} {r : List ByteArray} {w : World} (hT : Tb w) (h : Rd tKn w v l) (hx : Rd tInt w u x) (hn : l.length ≤ 1000000) (hl : wholeP l x = r) : Calls Tryd.prog 15 #[v, u] w (Fr tStr w r) := by
  subst hl; exact whole_any hT h hx hn
theorem rd_ints {w : World} {xs : List Int} {n : Nat} (hn : n = xs.length) (hl : xs.length ≤ 100) (hr : (xs.all fun y => decide (0 ≤ y) && decide (y ≤ 1000)) = true) :
    Rd tInt (w.alloc (.cells (xs.map (Value.int .i64)).toArray 3)) (.slice (some ⟨w.heap.size, 0, none⟩) n n) xs := sl_ints (at_new rfl) (by simp) hn hl hr
theorem bw_hi {α : Type} {T : Ty α} {w w' : World} {n : Nat} {v : Value} {xs : List α} (h : Sl T w (Hi n) v xs) (hb : Bw w w') : Rd T w' v xs := h.rd.after hb
set_option maxRecDepth 100000 in
set_option maxHeartbeats 16000000 in
theorem awake_any {w : World} (hT : Tb w) : Calls Tryd.prog 9 #[] w fun e w' => e = .returned (.bool true) ∧ Bw w w' := by
  go_enter Tryd.func9, Tryd.ntmps9
  go_wp2_with fail
  with_reducible refine nouns_any.mono ?_
  rintro e w1 ⟨v1, rfl, k1, hv1⟩
  obtain ⟨A1, n1, c1, rfl, _, _, _⟩ := hv1.form'
  have HL1 := Lib.hid (learn_of (hT.after k1) hv1.rd learn1)
  clear hv1
  go_wp2_with fail
  with_reducible refine HL1.out.mono ?_
  rintro e w2 ⟨v2, rfl, k2', hv2⟩
  have k2 := k1.then k2'
  clear HL1
  obtain ⟨A2, n2, c2, rfl, _, _, _⟩ := hv2.form'
  have Hv2 := Lib.hid hv2
  clear hv2
  go_wp2_with fail
  with_reducible refine nouns_any.mono ?_
  rintro e w3 ⟨v3, rfl, k3', hv3⟩
  have k3 := k2.then k3'
  obtain ⟨A3, n3, c3, rfl, _, _, _⟩ := hv3.form'
  have HL3 := Lib.hid (learn_of (hT.after k3) hv3.rd learn2)
  clear hv3
  go_wp2_with fail
  with_reducible refine HL3.out.mono ?_
  rintro e w4 ⟨v4, rfl, k4', hv4⟩
  have k4 := k3.then k4'
  clear HL3
  obtain ⟨A4, n4, c4, rfl, hc4, hc4', hn4⟩ := hv4.form'
  have hn4' : n4 = 6 := hn4.out
  subst hn4'
  have Hv4 := Lib.hid hv4
  clear hv4
  go_wp2_with fail
  refine (guess_of (g := oneL) (hT.after (bw_al k4 _)) ((bw_hi Hv2.out (k3'.then k4')).alloc _) (rd_ints (xs := [9, 2]) rfl (by decide) rfl) (by decide) guess1).mono ?_
  rintro e w5 ⟨v5, rfl, k5', hv5⟩
  have k5' := (bw_refl_al w4 _).then k5'
  have k5 := k4.then k5'
  obtain ⟨A5, n5, c5, rfl, _, _, _⟩ := hv5.form'
  have Hv5 := Lib.hid hv5
  clear hv5
  go_wp2_with fail
  refine (guess_of (g := twoL) (hT.after (bw_al k5 _)) ((bw_hi Hv4.out k5').alloc _) (rd_ints (xs := [3, 2]) rfl (by decide) rfl) (by decide) guess2).mono ?_
  rintro e w6 ⟨v6, rfl, k6', hv6⟩
  have k6' := (bw_refl_al w5 _).then k6'
  have k6 := k5.then k6'
  obtain ⟨A6, n6, c6, rfl, _, _, _⟩ := hv6.form'
  have Hv6 := Lib.hid hv6
  clear hv6
  go_wp2_with fail
  refine (guess_of (g := twoL) (hT.after (bw_al k6 _)) ((bw_hi Hv4.out (k5'.then k6')).alloc _) (rd_ints (xs := [9]) rfl (by decide) rfl) (by decide) guess3).mono ?_
  rintro e w7 ⟨v7, rfl, k7', hv7⟩
  have k7' := (bw_refl_al w6 _).then k7'
  have k7 := k6.then k7'
  obtain ⟨A7, n7, c7, rfl, _, _, _⟩ := hv7.form'
  have Hv7 := Lib.hid hv7
  clear hv7
  go_wp2_with fail
  refine (guess_of (g := []) (hT.after (bw_al k7 _)) Sl.nil (rd_ints (xs := [9]) rfl (by decide) rfl) (by decide) guess4).mono ?_
  rintro e w8 ⟨v8, rfl, k8', hv8⟩
  have k8' := (bw_refl_al w7 _).then k8'
  have k8 := k7.then k8'
  obtain ⟨A8, n8, c8, rfl, _, _, _⟩ := hv8.form'
  clear hv8
  go_wp2_with fail
  with_reducible refine nouns_any.mono ?_
  rintro e w9 ⟨v9, rfl, k9', hv9⟩
  have k9 := k8.then k9'
  obtain ⟨A9, n9, c9, rfl, _, _, _⟩ := hv9.form'
  have Hv9 := Lib.hid hv9
  clear hv9
  go_wp2_with fail
  refine (whole_of (l := nounsL) (hT.after (bw_al k9 _)) (Hv9.out.rd.alloc _) (rd_ints (xs := [3, 2]) rfl (by decide) rfl) (by decide) whole1).mono ?_
  rintro e wA ⟨vA, rfl, kA', hvA⟩
  have kA' := (bw_refl_al w9 _).then kA'
  have kA := k9.then kA'
  obtain ⟨AA, nA, cA, rfl, _, _, hnA⟩ := hvA.form'
  have hnA' : nA = 1 := hnA.out
  subst hnA'
  have HvA := Lib.hid hvA
  clear hvA
  go_wp2_with fail
  have hcell : ∃ b off, AA = some ⟨b, off, none⟩ ∧ wA.cell? ⟨b, off, none⟩ = some (.string sV) := by
    obtain ⟨b, off, y, h1, h2, _, h3⟩ := HvA.out.str (k := 0) (by decide)
    have : y = sV := by have := h2.out; injection this with this; exact this.symm
    subst this
    exact ⟨b, off, h1, by simpa using h3⟩
  obtain ⟨bA, oA, rfl, hcA⟩ := hcell
  have G1 := bw_hi Hv2.out (k3'.then (k4'.then (k5'.then (k6'.then (k7'.then (k8'.then (k9'.then kA')))))))
  have G3 := bw_hi Hv4.out (k5'.then (k6'.then (k7'.then (k8'.then (k9'.then kA')))))
  have G5 := bw_hi Hv5.out (k6'.then (k7'.then (k8'.then (k9'.then kA'))))
  have G7 := bw_hi Hv6.out (k7'.then (k8'.then (k9'.then kA')))
  have G9 := bw_hi Hv7.out (k8'.then (k9'.then kA'))
  refine wp_region_inv (ops := opsA) (N := 130) (ins := insA) (Ik kindsA) (by kernel_rfl) (by kernel_rfl) rfl (fun d w w' v hb h => holdk_keep hb _ h) ?_ (fun i o ho a w _ H => stepsA i o ho a w H) ?_
  · intro d hd
    simp only [insA, List.mem_cons, List.not_mem_nil, or_false] at hd
    rcases hd with rfl | rfl | rfl | rfl | rfl | rfl | rfl | rfl | rfl | rfl
    · exact G1
    · exact ⟨⟨A4, c4, rfl, hc4, hc4'⟩, G3⟩
    · exact G5
    · exact rfl
    · exact G7
    · exact rfl
    · exact G9
    · exact rfl
    · exact rfl
    · exact ⟨bA, oA, cA, rfl, hcA⟩
  · intro a w' hb hs hdf H
    have h0 : a.eval (.tmp 0) = .bool true := H 0 ⟨69, by kernel_rfl⟩
    have hbw : Bw w w' := kA.then hb
    obtain ⟨tmps, defers⟩ := a
    have hdf : defers = [] := hdf
    subst hdf
    clear H Hv2 Hv4 Hv5 Hv6 Hv7 Hv9 HvA G1 G3 G5 G7 G9
    have h1 : tmps.getD 0 undef = .bool true := h0
    clear hdf h0 hb
    go_wp2_with fail
    refine bodyPost_ret (results_tmp rfl _ _ _) rfl ?_
    exact ⟨congrArg Ending.returned h1, hbw⟩
end Go.Proofs.YtonadloonidmjaaDoor

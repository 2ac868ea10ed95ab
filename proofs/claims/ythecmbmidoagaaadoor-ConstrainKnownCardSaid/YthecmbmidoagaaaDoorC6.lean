/- The contracts of 'Valid', 'ValidRule', 'ValidTest', 'ValidRules' (the program's and the reference's). Conditions: what the arguments read as; the library's tables. -/
import Derived.Test.YthecmbmidoagaaaDoorC5
namespace Go.Proofs.YthecmbmidoagaaaDoor
open Go.RowKit Go.Maps
open Pl

theorem test_plain (t : Tst) : validT nameB t = (decide (-99 ≤ t.at') && decide (t.at' ≤ 99) && !(t.scan && decide (t.at' = 0)) && nmT nameB t.tags 1 20 && (decide (t.bar.length ≤ 20) && t.bar.all nameB) && (t.scan || decide (t.bar.length = 0))) := by
  unfold validT
  rw [show nmT nameB t.bar 0 20 = (decide (t.bar.length ≤ 20) && t.bar.all nameB) by unfold nmT; simp]

set_option maxRecDepth 100000 in
set_option maxHeartbeats 4000000 in
theorem rule_any {u1 u2 : Value} {r : Rul} {w : World} (hT : Tb w) (h1 : Rd tStr w u1 r.target) (h2 : Rd tTst w u2 r.tests) :
    Calls Tryd.prog 27 #[.agg #[.int .i64 r.op, u1, u2, .bool r.wild]] w fun e w' => e = .returned (.bool (validR nameB r)) ∧ Bw w w' := by
  obtain ⟨op, target, tests, wild⟩ := r
  simp only at *
  have hm := h2.len_le
  obtain ⟨A, cc, rfl, _, _⟩ := h2.form
  have hb1 := bw_refl_al w (.cells #[.int .i64 op, u1, .slice A tests.length cc, .bool wild] 34)
  have HT := Lib.hid (tags_any (hT.after hb1) (h1.after hb1))
  have Hv : Hid (validR nameB ⟨op, target, tests, wild⟩ = ((decide (op = 1) || decide (op = 2)) && nmT nameB target 1 20 && decide (tests.length ≤ 10) && tests.all (validT nameB))) := rfl
  generalize validR nameB ⟨op, target, tests, wild⟩ = R at *
  by_cases hop : op = 1 ∨ op = 2
  · cases q : nmT nameB target 1 20 <;> rw [q] at HT
    · have hR : Hid (false = R) := by show _ = _; rw [Hv.out, q]; simp
      clear q Hv h1 h2
      rcases hop with rfl | rfl
      all_goals
        go_enter Tryd.func27, Tryd.ntmps27
        go_wp2_with ((with_reducible refine HT.out.mono ?_); rintro e w1 ⟨rfl, hb⟩)
        go_ret
        exact ⟨ret_b hR.out, hb1.then hb⟩
    · by_cases h10 : tests.length ≤ 10
      · have h10' : ¬ (10 : Int) < tests.length := by omega
        have h10'' : decide ((10 : Int) < tests.length) = false := decide_eq_false h10'
        have hR : Hid (R = tests.all (validT nameB)) := by show _ = _; rw [Hv.out, q, decide_eq_true h10]; rcases hop with rfl | rfl <;> simp
        clear q Hv h1
        rcases hop with rfl | rfl
        all_goals
          go_enter Tryd.func27, Tryd.ntmps27
          go_wp2_with ((with_reducible refine HT.out.mono ?_); rintro e w1 ⟨rfl, hb⟩; have hc2 : w1.cell? ⟨w.heap.size, 2, none⟩ = some (.slice A tests.length cc) := bw_cell hb (by go_simp))
          go_loopw [28] (fun i wr => ∃ k : Nat, k ≤ tests.length ∧ i = .int .i64 k ∧ Bw w1 wr ∧ Pre k (fun j => ∀ y, tests[j]? = some y → validT nameB y = true)) (fun i _ => tests.length - (intOf i).toNat)
          case atStart => exact ⟨0, Nat.zero_le _, rfl, Below.refl _ _, Pre.zero⟩
          case round =>
            obtain ⟨k, hk, rfl, hd, hpre⟩ := hrel
            have hbw := (hb1.then hb).then hd
            clear hc2
            by_cases hlt : k < tests.length
            · obtain ⟨bb, off, y, v1, v2, rfl, hy, hi, hr1, hr2, hc0, hc1, hc2, hc3, hc4, hc5⟩ := (h2.after hbw).tst hlt
              obtain ⟨at', scan, neg, care, tags, bar⟩ := y
              simp only at *
              have hmb := hr2.len_le
              obtain ⟨A2, cc2, rfl, _, _⟩ := hr2.form
              obtain ⟨A1, cc1, rfl, _, _⟩ := hr1.form
              have hbx := bw_refl_al wr (.cells #[.int .i64 at', .bool scan, .bool neg, .bool care, .slice A1 tags.length cc1, .slice A2 bar.length cc2] 28)
              have HG := Lib.hid (tags_any (hT.after (hbw.then hbx)) (hr1.rd.after hbx))
              have HN := Lib.hid (fun (W : World) (k : Bw (wr.alloc (.cells #[.int .i64 at', .bool scan, .bool neg, .bool care, .slice A1 tags.length cc1, .slice A2 bar.length cc2] 28)) W) => named_pr_any (hT.after ((hbw.then hbx).then k)) ((hr2.rd.after hbx).after k))
              have hv : Hid (validT nameB ⟨at', scan, neg, care, tags, bar⟩ = _) := test_plain _
              simp only at hv
              have hgood : Hid (validT nameB ⟨at', scan, neg, care, tags, bar⟩ = true → ∀ z, tests[k]? = some z → validT nameB z = true) := fun h => pre_one hy.out h
              have hbad : Hid (validT nameB ⟨at', scan, neg, care, tags, bar⟩ = false → false = R) := fun h => (hR.out.trans (all_bad hy.out h)).symm
              generalize validT nameB ⟨at', scan, neg, care, tags, bar⟩ = V at hv hgood hbad
              clear hr1 hr2 h2 hT hi hy
              by_cases hA : -99 ≤ at'
              · have hA' : ¬ at' < -99 := by omega
                by_cases hB : at' ≤ 99
                · have hB' : ¬ (99 : Int) < at' := by omega
                  have hAB : Hid ((decide (-99 ≤ at') && decide (at' ≤ 99)) = true) := by show _ = _; rw [decide_eq_true hA, decide_eq_true hB]; rfl
                  clear hA hB
                  cases scan
                  · cases q : nmT nameB tags 1 20 <;> rw [q] at HG
                    · have hV : V = false := by rw [hv.out, hAB.out, q]; try simp
                      have hF := Lib.hid (hbad.out hV)
                      clear hv hgood hbad hV
                      go_wp2_with ((with_reducible refine HG.out.mono ?_); rintro e w2 ⟨rfl, hbT⟩; have hd1 : w2.cell? ⟨wr.heap.size, 1, none⟩ = some (.bool false) := bw_cell hbT (by go_simp); have hd5 : w2.cell? ⟨wr.heap.size, 5, none⟩ = some (.slice A2 bar.length cc2) := bw_cell hbT (by go_simp))
                      go_ret
                      exact ⟨ret_b hF.out, ((hbw.then hbx).then hbT)⟩
                    · by_cases h20 : bar.length ≤ 20
                      · have h20' : ¬ (20 : Int) < bar.length := by omega
                        generalize hqq : bar.all nameB = Q at *
                        cases Q
                        · have hV : V = false := by rw [hv.out, hAB.out, q, decide_eq_true h20]; try simp
                          have hF := Lib.hid (hbad.out hV)
                          clear hv hgood hbad hV
                          go_wp2_with (first | ((with_reducible refine HG.out.mono ?_); rintro e w2 ⟨rfl, hbT⟩; have hd1 : w2.cell? ⟨wr.heap.size, 1, none⟩ = some (.bool false) := bw_cell hbT (by go_simp); have hd5 : w2.cell? ⟨wr.heap.size, 5, none⟩ = some (.slice A2 bar.length cc2) := bw_cell hbT (by go_simp)) | ((with_reducible refine (HN.out _ hbT).mono ?_); rintro e w3 ⟨rfl, hbN⟩; have he1 : w3.cell? ⟨wr.heap.size, 1, none⟩ = some (.bool false) := bw_cell hbN hd1; have he5 : w3.cell? ⟨wr.heap.size, 5, none⟩ = some (.slice A2 bar.length cc2) := bw_cell hbN hd5))
                          go_ret
                          exact ⟨ret_b hF.out, (((hbw.then hbx).then hbT).then hbN)⟩
                        · by_cases h0 : bar.length = 0
                          · have h0' : ¬ (0 : Int) < bar.length := by omega
                            have hV : V = true := by rw [hv.out, hAB.out, q, decide_eq_true h20, decide_eq_true h0]; try simp
                            have hF := Lib.hid (hgood.out hV)
                            clear hv hgood hbad hV h0
                            go_wp2_with (first | ((with_reducible refine HG.out.mono ?_); rintro e w2 ⟨rfl, hbT⟩; have hd1 : w2.cell? ⟨wr.heap.size, 1, none⟩ = some (.bool false) := bw_cell hbT (by go_simp); have hd5 : w2.cell? ⟨wr.heap.size, 5, none⟩ = some (.slice A2 bar.length cc2) := bw_cell hbT (by go_simp)) | ((with_reducible refine (HN.out _ hbT).mono ?_); rintro e w3 ⟨rfl, hbN⟩; have he1 : w3.cell? ⟨wr.heap.size, 1, none⟩ = some (.bool false) := bw_cell hbN hd1; have he5 : w3.cell? ⟨wr.heap.size, 5, none⟩ = some (.slice A2 bar.length cc2) := bw_cell hbN hd5))
                            exact ⟨⟨k + 1, hlt, by go_num, (((hd.then hbx).then hbT).then hbN), hpre.snoc hF.out⟩, by simp [intOf]; omega⟩
                          · have h0' : (0 : Int) < bar.length := by omega
                            have hV : V = false := by rw [hv.out, hAB.out, q, decide_eq_true h20, decide_eq_false h0]; try simp
                            have hF := Lib.hid (hbad.out hV)
                            clear hv hgood hbad hV
                            go_wp2_with (first | ((with_reducible refine HG.out.mono ?_); rintro e w2 ⟨rfl, hbT⟩; have hd1 : w2.cell? ⟨wr.heap.size, 1, none⟩ = some (.bool false) := bw_cell hbT (by go_simp); have hd5 : w2.cell? ⟨wr.heap.size, 5, none⟩ = some (.slice A2 bar.length cc2) := bw_cell hbT (by go_simp)) | ((with_reducible refine (HN.out _ hbT).mono ?_); rintro e w3 ⟨rfl, hbN⟩; have he1 : w3.cell? ⟨wr.heap.size, 1, none⟩ = some (.bool false) := bw_cell hbN hd1; have he5 : w3.cell? ⟨wr.heap.size, 5, none⟩ = some (.slice A2 bar.length cc2) := bw_cell hbN hd5))
                            go_ret
                            exact ⟨ret_b hF.out, (((hbw.then hbx).then hbT).then hbN)⟩
                      · have h20' : (20 : Int) < bar.length := by omega
                        have hV : V = false := by rw [hv.out, hAB.out, q, decide_eq_false h20]; try simp
                        have hF := Lib.hid (hbad.out hV)
                        clear hv hgood hbad hV
                        go_wp2_with ((with_reducible refine HG.out.mono ?_); rintro e w2 ⟨rfl, hbT⟩; have hd1 : w2.cell? ⟨wr.heap.size, 1, none⟩ = some (.bool false) := bw_cell hbT (by go_simp); have hd5 : w2.cell? ⟨wr.heap.size, 5, none⟩ = some (.slice A2 bar.length cc2) := bw_cell hbT (by go_simp))
                        go_ret
                        exact ⟨ret_b hF.out, ((hbw.then hbx).then hbT)⟩
                  · by_cases hz : at' = 0
                    · subst hz
                      have hV : V = false := by rw [hv.out, hAB.out]; try simp
                      have hF := Lib.hid (hbad.out hV)
                      clear hv hgood hbad hV
                      go_wp2_with fail
                      go_ret
                      exact ⟨ret_b hF.out, (hbw.then hbx)⟩
                    · have hz' : (at' == 0) = false := by simpa using hz
                      have hz2 := decide_eq_false hz
                      cases q : nmT nameB tags 1 20 <;> rw [q] at HG
                      · have hV : V = false := by rw [hv.out, hAB.out, hz2, q]; try simp
                        have hF := Lib.hid (hbad.out hV)
                        clear hv hgood hbad hV
                        go_wp2_with ((with_reducible refine HG.out.mono ?_); rintro e w2 ⟨rfl, hbT⟩; have hd1 : w2.cell? ⟨wr.heap.size, 1, none⟩ = some (.bool true) := bw_cell hbT (by go_simp); have hd5 : w2.cell? ⟨wr.heap.size, 5, none⟩ = some (.slice A2 bar.length cc2) := bw_cell hbT (by go_simp))
                        go_ret
                        exact ⟨ret_b hF.out, ((hbw.then hbx).then hbT)⟩
                      · by_cases h20 : bar.length ≤ 20
                        · have h20' : ¬ (20 : Int) < bar.length := by omega
                          generalize hqq : bar.all nameB = Q at *
                          cases Q
                          · have hV : V = false := by rw [hv.out, hAB.out, hz2, q, decide_eq_true h20]; try simp
                            have hF := Lib.hid (hbad.out hV)
                            clear hv hgood hbad hV
                            go_wp2_with (first | ((with_reducible refine HG.out.mono ?_); rintro e w2 ⟨rfl, hbT⟩; have hd1 : w2.cell? ⟨wr.heap.size, 1, none⟩ = some (.bool true) := bw_cell hbT (by go_simp); have hd5 : w2.cell? ⟨wr.heap.size, 5, none⟩ = some (.slice A2 bar.length cc2) := bw_cell hbT (by go_simp)) | ((with_reducible refine (HN.out _ hbT).mono ?_); rintro e w3 ⟨rfl, hbN⟩; have he1 : w3.cell? ⟨wr.heap.size, 1, none⟩ = some (.bool true) := bw_cell hbN hd1; have he5 : w3.cell? ⟨wr.heap.size, 5, none⟩ = some (.slice A2 bar.length cc2) := bw_cell hbN hd5))
                            go_ret
                            exact ⟨ret_b hF.out, (((hbw.then hbx).then hbT).then hbN)⟩
                          · have hV : V = true := by rw [hv.out, hAB.out, hz2, q, decide_eq_true h20]; try simp
                            have hF := Lib.hid (hgood.out hV)
                            clear hv hgood hbad hV
                            go_wp2_with (first | ((with_reducible refine HG.out.mono ?_); rintro e w2 ⟨rfl, hbT⟩; have hd1 : w2.cell? ⟨wr.heap.size, 1, none⟩ = some (.bool true) := bw_cell hbT (by go_simp); have hd5 : w2.cell? ⟨wr.heap.size, 5, none⟩ = some (.slice A2 bar.length cc2) := bw_cell hbT (by go_simp)) | ((with_reducible refine (HN.out _ hbT).mono ?_); rintro e w3 ⟨rfl, hbN⟩; have he1 : w3.cell? ⟨wr.heap.size, 1, none⟩ = some (.bool true) := bw_cell hbN hd1; have he5 : w3.cell? ⟨wr.heap.size, 5, none⟩ = some (.slice A2 bar.length cc2) := bw_cell hbN hd5))
                            exact ⟨⟨k + 1, hlt, by go_num, (((hd.then hbx).then hbT).then hbN), hpre.snoc hF.out⟩, by simp [intOf]; omega⟩
                        · have h20' : (20 : Int) < bar.length := by omega
                          have hV : V = false := by rw [hv.out, hAB.out, hz2, q, decide_eq_false h20]; try simp
                          have hF := Lib.hid (hbad.out hV)
                          clear hv hgood hbad hV
                          go_wp2_with ((with_reducible refine HG.out.mono ?_); rintro e w2 ⟨rfl, hbT⟩; have hd1 : w2.cell? ⟨wr.heap.size, 1, none⟩ = some (.bool true) := bw_cell hbT (by go_simp); have hd5 : w2.cell? ⟨wr.heap.size, 5, none⟩ = some (.slice A2 bar.length cc2) := bw_cell hbT (by go_simp))
                          go_ret
                          exact ⟨ret_b hF.out, ((hbw.then hbx).then hbT)⟩
                · have hB' : (99 : Int) < at' := by omega
                  have hV : V = false := by rw [hv.out, decide_eq_true hA, decide_eq_false hB]; try simp
                  have hF := Lib.hid (hbad.out hV)
                  clear hv hgood hbad hV
                  go_wp2_with fail
                  go_ret
                  exact ⟨ret_b hF.out, (hbw.then hbx)⟩
              · have hA' : at' < -99 := by omega
                have hV : V = false := by rw [hv.out, decide_eq_false hA]; try simp
                have hF := Lib.hid (hbad.out hV)
                clear hv hgood hbad hV
                go_wp2_with fail
                go_ret
                exact ⟨ret_b hF.out, (hbw.then hbx)⟩
            · have hg := Lib.hid (all_good hlt hpre)
              go_wp2_with fail
              go_ret
              exact ⟨ret_b (hR.out.trans hg.out).symm, hbw⟩
      · have h10' : (10 : Int) < tests.length := by omega
        have h10'' : decide ((10 : Int) < tests.length) = true := decide_eq_true h10'
        have hR : Hid (false = R) := by show _ = _; rw [Hv.out, decide_eq_false h10]; simp
        clear q Hv h1 h2
        rcases hop with rfl | rfl
        all_goals
          go_enter Tryd.func27, Tryd.ntmps27
          go_wp2_with ((with_reducible refine HT.out.mono ?_); rintro e w1 ⟨rfl, hb⟩; have hc2 : w1.cell? ⟨w.heap.size, 2, none⟩ = some (.slice A tests.length cc) := bw_cell hb (by go_simp))
          go_ret
          exact ⟨ret_b hR.out, hb1.then hb⟩
  · rw [not_or] at hop
    have hR : Hid (false = R) := by show _ = _; rw [Hv.out, decide_eq_false hop.1, decide_eq_false hop.2]; simp
    obtain ⟨n1, n2⟩ := hop
    have e1 : (op != 1) = true := by simpa using n1
    have e2 : (op != 2) = true := by simpa using n2
    clear Hv h1 h2 HT
    go_enter Tryd.func27, Tryd.ntmps27
    go_wp2_with fail
    go_ret
    exact ⟨ret_b hR.out, hb1⟩
end Go.Proofs.YthecmbmidoagaaaDoor

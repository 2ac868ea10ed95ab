/- The contracts of 'ValidTest', 'ValidRule', 'ValidRules' (the reference's). Conditions: what the arguments read as. -/
import Derived.Test.YthecmbmidoagaaaDoorC6b
import Derived.Test.YthecmbmidoagaaaDoorSpec2
namespace Go.Proofs.YthecmbmidoagaaaDoor
open Go.RowKit Go.Maps
open Pl

set_option maxRecDepth 100000 in
set_option maxHeartbeats 4000000 in
theorem rtest_any {t : Tst} {u1 u2 : Value} {w : World} (h1 : Rd tStr w u1 t.tags) (h2 : Rd tStr w u2 t.bar) :
    Calls Tryd.prog 63 #[.agg #[.int .i64 t.at', .bool t.scan, .bool t.neg, .bool t.care, u1, u2]] w fun e w' => e = .returned (.bool (validT nameB t)) ∧ Bw w w' := by
  obtain ⟨at', scan, neg, care, tags, bar⟩ := t
  simp only at *
  have hmb := h2.len_le
  obtain ⟨A2, cc2, rfl, _, _⟩ := h2.form
  have hb1 := bw_refl_al w (.cells #[.int .i64 at', .bool scan, .bool neg, .bool care, u1, .slice A2 bar.length cc2] 28)
  have HG := Lib.hid (rtags1_any (h1.after hb1))
  have HN := Lib.hid (fun (W : World) (k : Bw w W) => rtags0_any (h2.after k))
  have hv : Hid (validT nameB ⟨at', scan, neg, care, tags, bar⟩ = (decide (-99 ≤ at') && decide (at' ≤ 99) && !(scan && decide (at' = 0)) && nmT nameB tags 1 20 && nmT nameB bar 0 20 && (scan || decide (bar.length = 0)))) := rfl
  clear h1 h2
  generalize validT nameB ⟨at', scan, neg, care, tags, bar⟩ = V at *
  by_cases hA : -99 ≤ at'
  · by_cases hB : at' ≤ 99
    · have hAB : Hid ((decide (-99 ≤ at') && decide (at' ≤ 99)) = true) := by show _ = _; rw [decide_eq_true hA, decide_eq_true hB]; rfl
      cases scan
      · cases q : nmT nameB tags 1 20 <;> rw [q] at HG
        · have hF : Hid (false = V) := by show _ = _; rw [hv.out, hAB.out, q]; try simp
          clear hv
          go_enter Tryd.func63, Tryd.ntmps63
          go_wp2_with ((with_reducible refine HG.out.mono ?_); rintro e w2 ⟨rfl, hbT⟩; have hd1 : w2.cell? ⟨w.heap.size, 1, none⟩ = some (.bool false) := bw_cell hbT (by go_simp); have hd5 : w2.cell? ⟨w.heap.size, 5, none⟩ = some (.slice A2 bar.length cc2) := bw_cell hbT (by go_simp))
          go_ret
          exact ⟨ret_b hF.out, (hb1.then hbT)⟩
        · cases q2 : nmT nameB bar 0 20 <;> rw [q2] at HN
          · have hF : Hid (false = V) := by show _ = _; rw [hv.out, hAB.out, q, q2]; try simp
            clear hv
            go_enter Tryd.func63, Tryd.ntmps63
            go_wp2_with (first | ((with_reducible refine HG.out.mono ?_); rintro e w2 ⟨rfl, hbT⟩; have hd1 : w2.cell? ⟨w.heap.size, 1, none⟩ = some (.bool false) := bw_cell hbT (by go_simp); have hd5 : w2.cell? ⟨w.heap.size, 5, none⟩ = some (.slice A2 bar.length cc2) := bw_cell hbT (by go_simp)) | ((with_reducible refine (HN.out _ (hb1.then hbT)).mono ?_); rintro e w3 ⟨rfl, hbN⟩; have he1 : w3.cell? ⟨w.heap.size, 1, none⟩ = some (.bool false) := bw_cell hbN hd1; have he5 : w3.cell? ⟨w.heap.size, 5, none⟩ = some (.slice A2 bar.length cc2) := bw_cell hbN hd5))
            go_ret
            exact ⟨ret_b hF.out, ((hb1.then hbT).then hbN)⟩
          · by_cases h0 : bar.length = 0
            · have h0' : ((bar.length : Int) == 0) = true := by rw [h0]; rfl
              have hF : Hid (true = V) := by show _ = _; rw [hv.out, hAB.out, q, q2, decide_eq_true h0]; try simp
              clear hv h0
              go_enter Tryd.func63, Tryd.ntmps63
              go_wp2_with (first | ((with_reducible refine HG.out.mono ?_); rintro e w2 ⟨rfl, hbT⟩; have hd1 : w2.cell? ⟨w.heap.size, 1, none⟩ = some (.bool false) := bw_cell hbT (by go_simp); have hd5 : w2.cell? ⟨w.heap.size, 5, none⟩ = some (.slice A2 bar.length cc2) := bw_cell hbT (by go_simp)) | ((with_reducible refine (HN.out _ (hb1.then hbT)).mono ?_); rintro e w3 ⟨rfl, hbN⟩; have he1 : w3.cell? ⟨w.heap.size, 1, none⟩ = some (.bool false) := bw_cell hbN hd1; have he5 : w3.cell? ⟨w.heap.size, 5, none⟩ = some (.slice A2 bar.length cc2) := bw_cell hbN hd5))
              go_ret
              exact ⟨ret_b hF.out, ((hb1.then hbT).then hbN)⟩
            · have h0' : ((bar.length : Int) == 0) = false := by simpa using h0
              have hF : Hid (false = V) := by show _ = _; rw [hv.out, hAB.out, q, q2, decide_eq_false h0]; try simp
              clear hv
              go_enter Tryd.func63, Tryd.ntmps63
              go_wp2_with (first | ((with_reducible refine HG.out.mono ?_); rintro e w2 ⟨rfl, hbT⟩; have hd1 : w2.cell? ⟨w.heap.size, 1, none⟩ = some (.bool false) := bw_cell hbT (by go_simp); have hd5 : w2.cell? ⟨w.heap.size, 5, none⟩ = some (.slice A2 bar.length cc2) := bw_cell hbT (by go_simp)) | ((with_reducible refine (HN.out _ (hb1.then hbT)).mono ?_); rintro e w3 ⟨rfl, hbN⟩; have he1 : w3.cell? ⟨w.heap.size, 1, none⟩ = some (.bool false) := bw_cell hbN hd1; have he5 : w3.cell? ⟨w.heap.size, 5, none⟩ = some (.slice A2 bar.length cc2) := bw_cell hbN hd5))
              go_ret
              exact ⟨ret_b hF.out, ((hb1.then hbT).then hbN)⟩
      · by_cases hz : at' = 0
        · subst hz
          have hF : Hid (false = V) := by show _ = _; rw [hv.out, hAB.out]; try simp
          clear hv
          go_enter Tryd.func63, Tryd.ntmps63
          go_wp2_with fail
          go_ret
          exact ⟨ret_b hF.out, hb1⟩
        · have hz' : (at' != 0) = true := by simpa using hz
          have hz2 := decide_eq_false hz
          cases q : nmT nameB tags 1 20 <;> rw [q] at HG
          · have hF : Hid (false = V) := by show _ = _; rw [hv.out, hAB.out, hz2, q]; try simp
            clear hv
            go_enter Tryd.func63, Tryd.ntmps63
            go_wp2_with ((with_reducible refine HG.out.mono ?_); rintro e w2 ⟨rfl, hbT⟩; have hd1 : w2.cell? ⟨w.heap.size, 1, none⟩ = some (.bool true) := bw_cell hbT (by go_simp); have hd5 : w2.cell? ⟨w.heap.size, 5, none⟩ = some (.slice A2 bar.length cc2) := bw_cell hbT (by go_simp))
            go_ret
            exact ⟨ret_b hF.out, (hb1.then hbT)⟩
          · cases q2 : nmT nameB bar 0 20 <;> rw [q2] at HN
            · have hF : Hid (false = V) := by show _ = _; rw [hv.out, hAB.out, hz2, q, q2]; try simp
              clear hv
              go_enter Tryd.func63, Tryd.ntmps63
              go_wp2_with (first | ((with_reducible refine HG.out.mono ?_); rintro e w2 ⟨rfl, hbT⟩; have hd1 : w2.cell? ⟨w.heap.size, 1, none⟩ = some (.bool true) := bw_cell hbT (by go_simp); have hd5 : w2.cell? ⟨w.heap.size, 5, none⟩ = some (.slice A2 bar.length cc2) := bw_cell hbT (by go_simp)) | ((with_reducible refine (HN.out _ (hb1.then hbT)).mono ?_); rintro e w3 ⟨rfl, hbN⟩; have he1 : w3.cell? ⟨w.heap.size, 1, none⟩ = some (.bool true) := bw_cell hbN hd1; have he5 : w3.cell? ⟨w.heap.size, 5, none⟩ = some (.slice A2 bar.length cc2) := bw_cell hbN hd5))
              go_ret
              exact ⟨ret_b hF.out, ((hb1.then hbT).then hbN)⟩
            · have hF : Hid (true = V) := by show _ = _; rw [hv.out, hAB.out, hz2, q, q2]; try simp
              clear hv
              go_enter Tryd.func63, Tryd.ntmps63
              go_wp2_with (first | ((with_reducible refine HG.out.mono ?_); rintro e w2 ⟨rfl, hbT⟩; have hd1 : w2.cell? ⟨w.heap.size, 1, none⟩ = some (.bool true) := bw_cell hbT (by go_simp); have hd5 : w2.cell? ⟨w.heap.size, 5, none⟩ = some (.slice A2 bar.length cc2) := bw_cell hbT (by go_simp)) | ((with_reducible refine (HN.out _ (hb1.then hbT)).mono ?_); rintro e w3 ⟨rfl, hbN⟩; have he1 : w3.cell? ⟨w.heap.size, 1, none⟩ = some (.bool true) := bw_cell hbN hd1; have he5 : w3.cell? ⟨w.heap.size, 5, none⟩ = some (.slice A2 bar.length cc2) := bw_cell hbN hd5))
              go_ret
              exact ⟨ret_b hF.out, ((hb1.then hbT).then hbN)⟩
    · have hF : Hid (false = V) := by show _ = _; rw [hv.out, decide_eq_true hA, decide_eq_false hB]; try simp
      clear hv
      go_enter Tryd.func63, Tryd.ntmps63
      go_wp2_with fail
      go_ret
      exact ⟨ret_b hF.out, hb1⟩
  · have hF : Hid (false = V) := by show _ = _; rw [hv.out, decide_eq_false hA]; try simp
    clear hv
    go_enter Tryd.func63, Tryd.ntmps63
    go_wp2_with fail
    go_ret
    exact ⟨ret_b hF.out, hb1⟩

set_option maxRecDepth 100000 in
set_option maxHeartbeats 4000000 in
theorem rrule_any {u1 u2 : Value} {r : Rul} {w : World} (h1 : Rd tStr w u1 r.target) (h2 : Rd tTst w u2 r.tests) :
    Calls Tryd.prog 41 #[.agg #[.int .i64 r.op, u1, u2, .bool r.wild]] w fun e w' => e = .returned (.bool (validR nameB r)) ∧ Bw w w' := by
  obtain ⟨op, target, tests, wild⟩ := r
  simp only at *
  have hm := h2.len_le
  obtain ⟨A, cc, rfl, _, _⟩ := h2.form
  have hb1 := bw_refl_al w (.cells #[.int .i64 op, u1, .slice A tests.length cc, .bool wild] 34)
  have HT := Lib.hid (rtags1_any (h1.after hb1))
  have Hv : Hid (validR nameB ⟨op, target, tests, wild⟩ = ((decide (op = 1) || decide (op = 2)) && nmT nameB target 1 20 && decide (tests.length ≤ 10) && tests.all (validT nameB))) := rfl
  generalize validR nameB ⟨op, target, tests, wild⟩ = R at *
  by_cases hop : op = 1 ∨ op = 2
  · cases q : nmT nameB target 1 20 <;> rw [q] at HT
    · have hR : Hid (false = R) := by show _ = _; rw [Hv.out, q]; simp
      clear q Hv h1 h2
      rcases hop with rfl | rfl
      all_goals
        go_enter Tryd.func41, Tryd.ntmps41
        go_wp2_with ((with_reducible refine HT.out.mono ?_); rintro e w1 ⟨rfl, hb⟩)
        go_ret
        exact ⟨ret_b hR.out, hb1.then hb⟩
    · by_cases h10 : tests.length ≤ 10
      · have h10' : ¬ (10 : Int) < tests.length := by omega
        have h10'' : decide ((10 : Int) < tests.length) = false := decide_eq_false h10'
        have hR : Hid (R = tests.all (validT nameB)) := by show _ = _; rw [Hv.out, q, decide_eq_true h10]; rcases hop with rfl | rfl <;> simp
        clear q Hv h1
        rcases hop with rfl | rfl
        all_goals
          go_enter Tryd.func41, Tryd.ntmps41
          go_wp2_with ((with_reducible refine HT.out.mono ?_); rintro e w1 ⟨rfl, hb⟩; have hc2 : w1.cell? ⟨w.heap.size, 2, none⟩ = some (.slice A tests.length cc) := bw_cell hb (by go_simp))
          go_loopw [3] (fun i wr => ∃ k : Nat, k ≤ tests.length ∧ i = .int .i64 k ∧ Bw w1 wr ∧ Pre k (fun j => ∀ y, tests[j]? = some y → validT nameB y = true)) (fun i _ => tests.length - (intOf i).toNat)
          case atStart => exact ⟨0, Nat.zero_le _, rfl, Below.refl _ _, Pre.zero⟩
          case round =>
            obtain ⟨k, hk, rfl, hd, hpre⟩ := hrel
            have hbw := (hb1.then hb).then hd
            have hcr := bw_cell hd hc2
            clear hc2
            by_cases hlt : k < tests.length
            · obtain ⟨bb, off, y, v1, v2, rfl, hy, hi, hr1, hr2, hc0, hc1, hc2, hc3, hc4, hc5⟩ := (h2.after hbw).tst hlt
              have HC := Lib.hid (rtest_any (t := y) hr1.rd hr2.rd)
              clear hr1 hr2 h2 hi
              cases q : validT nameB y <;> rw [q] at HC
              · have hb0 := Lib.hid (all_bad hy.out q)
                clear q
                go_wp2_with ((with_reducible refine HC.out.mono ?_); rintro e w' ⟨rfl, hb⟩)
                go_ret
                exact ⟨ret_b (hR.out.trans hb0.out).symm, hbw.then hb⟩
              · have hq := Lib.hid q
                clear q
                go_wp2_with ((with_reducible refine HC.out.mono ?_); rintro e w' ⟨rfl, hb⟩)
                exact ⟨⟨k + 1, hlt, by go_num, hd.then hb, hpre.snoc (pre_one hy.out hq.out)⟩, by simp [intOf]; omega⟩
            · have hg := Lib.hid (all_good hlt hpre)
              go_wp2_with fail
              go_ret
              exact ⟨ret_b (hR.out.trans hg.out).symm, hbw⟩
      · have h10' : (10 : Int) < tests.length := by omega
        have h10'' : decide ((10 : Int) < tests.length) = true := decide_eq_true h10'
        have hR : Hid (false = R) := by show _ = _; rw [Hv.out, decide_eq_false h10]; simp
        clear q Hv h1 h2
        rcases hop with rfl | rfl
        all_goals
          go_enter Tryd.func41, Tryd.ntmps41
          go_wp2_with ((with_reducible refine HT.out.mono ?_); rintro e w1 ⟨rfl, hb⟩; have hc2 : w1.cell? ⟨w.heap.size, 2, none⟩ = some (.slice A tests.length cc) := bw_cell hb (by go_simp))
          go_ret
          exact ⟨ret_b hR.out, hb1.then hb⟩
  · rw [not_or] at hop
    have hR : Hid (false = R) := by show _ = _; rw [Hv.out, decide_eq_false hop.1, decide_eq_false hop.2]; simp
    obtain ⟨n1, n2⟩ := hop
    have e1 : (op != 1) = true := by simpa using n1
    have e2 : (op != 2) = true := by simpa using n2
    clear Hv h1 h2 HT
    go_enter Tryd.func41, Tryd.ntmps41
    go_wp2_with fail
    go_ret
    exact ⟨ret_b hR.out, hb1⟩

/-- A rule of one test. -/
theorem one_rule (t : Tst) : validR nameB ⟨1, [⟨#[120]⟩], [t], false⟩ = validT nameB t := by
  have hx : nmT nameB [⟨#[120]⟩] 1 20 = true := by decide +kernel
  unfold validR
  simp only
  rw [hx]
  simp
theorem rd_one_tst {w : World} {g : Nat} {t : Tst} {u1 u2 : Value} {e : TypeId} {fz : Nat × Nat} (hg : w.heap[g]? = some (.cells #[.int .i64 t.at', .bool t.scan, .bool t.neg, .bool t.care, u1, u2] e fz)) (hi : inI64 t.at') (h1 : Rd tStr w u1 t.tags) (h2 : Rd tStr w u2 t.bar) : Rd tTst w (.slice (some ⟨g, 0, none⟩) 1 1) [t] :=
  sl_one (cs := [.int .i64 t.at', .bool t.scan, .bool t.neg, .bool t.care, u1, u2]) hg (Array.getElem?_eq_some_iff.1 hg).1 (tst_rep hi h1 h2)

set_option maxRecDepth 100000 in
set_option maxHeartbeats 4000000 in
theorem rvt_any {t : Tst} {u1 u2 : Value} {w : World} (hi : inI64 t.at') (h1 : Rd tStr w u1 t.tags) (h2 : Rd tStr w u2 t.bar) :
    Calls Tryd.prog 37 #[.agg #[.int .i64 t.at', .bool t.scan, .bool t.neg, .bool t.care, u1, u2]] w fun e w' => e = .returned (.bool (validT nameB t)) ∧ Bw w w' := by
  have hb3 := bw_al (bw_al (bw_refl_al w (.cells #[.int .i64 t.at', .bool t.scan, .bool t.neg, .bool t.care, u1, u2] 28)) (.cells #[.string ⟨#[120]⟩] 9)) (.cells #[.int .i64 t.at', .bool t.scan, .bool t.neg, .bool t.care, u1, u2] 28)
  have HC := Lib.hid (rrule_any (r := ⟨1, [⟨#[120]⟩], [t], false⟩) (lit1 (g := w.heap.size + 1) (at_old (at_new (by simp))) (by decide)) (rd_one_tst (g := w.heap.size + 2) (at_new (by simp)) hi (h1.after hb3) (h2.after hb3)))
  rw [one_rule] at HC
  obtain ⟨A1, c1, rfl, _, _⟩ := h1.form
  obtain ⟨A2, c2, rfl, _, _⟩ := h2.form
  clear h1 h2
  go_enter Tryd.func37, Tryd.ntmps37
  go_wp2_with ((with_reducible refine HC.out.mono ?_); rintro e w' ⟨rfl, hb⟩)
  go_ret
  exact ⟨rfl, hb3.then hb⟩

set_option maxRecDepth 100000 in
set_option maxHeartbeats 4000000 in
theorem rrules_any {v : Value} {l : List Rul} {w : World} (h : Rd tRul w v l) :
    Calls Tryd.prog 47 #[v] w fun e w' => e = .returned (.bool (validRs nameB l)) ∧ Bw w w' := by
  have hm := h.len_le
  obtain ⟨A, c, rfl, _, _⟩ := h.form
  have Hv : Hid (validRs nameB l = (decide (l.length ≤ 100) && l.all (validR nameB))) := rfl
  generalize validRs nameB l = R at *
  by_cases h2 : l.length ≤ 100
  · have h2' : ¬ (100 : Int) < l.length := by omega
    have hR : Hid (R = l.all (validR nameB)) := by show _ = _; rw [Hv.out, decide_eq_true h2]; rfl
    clear Hv
    go_enter Tryd.func47, Tryd.ntmps47
    go_wp2_with fail
    go_loopw [3] (fun i wr => ∃ k : Nat, k ≤ l.length ∧ i = .int .i64 k ∧ Bw w wr ∧ Pre k (fun j => ∀ y, l[j]? = some y → validR nameB y = true)) (fun i _ => l.length - (intOf i).toNat)
    case atStart => exact ⟨0, Nat.zero_le _, rfl, Below.refl _ _, Pre.zero⟩
    case round =>
      obtain ⟨k, hk, rfl, hd, hpre⟩ := hrel
      by_cases hlt : k < l.length
      · obtain ⟨bb, off, y, u1, u2, rfl, hy, hi, h1, h2, hc0, hc1, hc2, hc3⟩ := (h.after hd).rul hlt
        have HC := Lib.hid (rrule_any (r := y) h1.rd h2.rd)
        clear h1 h2 h hi
        cases q : validR nameB y <;> rw [q] at HC
        · have hb0 := Lib.hid (all_bad hy.out q)
          clear q
          go_wp2_with ((with_reducible refine HC.out.mono ?_); rintro e w' ⟨rfl, hb⟩)
          go_ret
          exact ⟨ret_b (hR.out.trans hb0.out).symm, hd.then hb⟩
        · have hq := Lib.hid q
          clear q
          go_wp2_with ((with_reducible refine HC.out.mono ?_); rintro e w' ⟨rfl, hb⟩)
          exact ⟨⟨k + 1, hlt, by go_num, hd.then hb, hpre.snoc (pre_one hy.out hq.out)⟩, by simp [intOf]; omega⟩
      · have hg := Lib.hid (all_good hlt hpre)
        go_wp2_with fail
        go_ret
        exact ⟨ret_b (hR.out.trans hg.out).symm, hd⟩
  · have h2' : (100 : Int) < l.length := by omega
    have hR : Hid (false = R) := by show _ = _; rw [Hv.out, decide_eq_false h2]; rfl
    go_enter Tryd.func47, Tryd.ntmps47
    go_wp2_with fail
    go_ret
    exact ⟨ret_b hR.out, Below.refl _ _⟩
end Go.Proofs.YthecmbmidoagaaaDoor

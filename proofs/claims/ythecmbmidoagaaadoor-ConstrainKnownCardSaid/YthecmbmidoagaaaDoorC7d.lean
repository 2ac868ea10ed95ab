/- The contract of the program's 'Holds'. Conditions: what the arguments read as; the library's tables. -/
import Derived.Test.YthecmbmidoagaaaDoorC7c
import Derived.Test.YthecmbmidoagaaaDoorC6c
namespace Go.Proofs.YthecmbmidoagaaaDoor
open Go.RowKit
open Pl

theorem validT_at {t : Tst} (h : validT nameB t = true) : -99 ≤ t.at' ∧ t.at' ≤ 99 := by
  unfold validT at h
  simp only [Bool.and_eq_true, decide_eq_true_eq] at h
  obtain ⟨⟨⟨⟨⟨h1, h2⟩, _⟩, _⟩, _⟩, _⟩ := h
  exact ⟨h1, h2⟩
theorem validL_len {l : List Coh} (h : validL nameB l = true) : l.length ≤ 200 := by
  unfold validL at h
  simp only [Bool.and_eq_true, decide_eq_true_eq] at h
  exact h.1

set_option maxRecDepth 100000 in
set_option maxHeartbeats 4000000 in
theorem pHolds_any {t : Tst} {u1 u2 v : Value} {l : List Coh} {i : Int} {w : World} (hT : Tb w) (hi : inI64 t.at') (h1 : Rd tStr w u1 t.tags) (h2 : Rd tStr w u2 t.bar) (hl : Rd tCoh w v l) :
    Calls Tryd.prog 16 #[.agg #[.int .i64 t.at', .bool t.scan, .bool t.neg, .bool t.care, u1, u2], v, .int .i64 i] w fun e w' => e = .returned (.bool (holdsB nameB t l i)) ∧ Bw w w' := by
  obtain ⟨at', scan, neg, care, tags, bar⟩ := t
  simp only at *
  obtain ⟨A, c, rfl, _, _⟩ := hl.form
  obtain ⟨A1, c1, rfl, _, _⟩ := h1.form
  obtain ⟨A2, c2, rfl, _, _⟩ := h2.form
  have hb4 : Bw w ((((w.alloc (.cells #[.int .i64 at', .bool scan, .bool neg, .bool care, .slice A1 tags.length c1, .slice A2 bar.length c2] 28)).alloc (.cells #[.string ⟨#[120]⟩] 9)).alloc (.cells #[.int .i64 at', .bool scan, .bool neg, .bool care, .slice A1 tags.length c1, .slice A2 bar.length c2] 28)).alloc (.cells #[.int .i64 1, .slice (some ⟨w.heap.size + 1, 0, none⟩) 1 1, .slice (some ⟨w.heap.size + 2, 0, none⟩) 1 1, .bool false] 34)) := bw_al (bw_al (bw_al (bw_refl_al w _) _) _) _
  have HC := Lib.hid (rule_any (r := ⟨1, [⟨#[120]⟩], [⟨at', scan, neg, care, tags, bar⟩], false⟩) (hT.after hb4) (lit1 (g := w.heap.size + 1) (at_old (at_old (at_new (by simp)))) (by decide)) (rd_one_tst (t := ⟨at', scan, neg, care, tags, bar⟩) (g := w.heap.size + 2) (at_old (at_new (by simp))) hi (h1.after hb4) (h2.after hb4)))
  rw [one_rule] at HC
  have HL := Lib.hid (fun (W : World) (k : Bw w W) => valid_any (hT.after k) (hl.after k))
  have HH := Lib.hid (fun (W : World) (k : Bw w W) (hi : 0 ≤ i ∧ i < l.length) (ha : -99 ≤ at' ∧ at' ≤ 99) (hm : l.length ≤ 200) => holds_any (t := ⟨at', scan, neg, care, tags, bar⟩) (h1.after k) (h2.after k) (hl.after k) hi ha hm)
  have hq1 := validT_at (t := ⟨at', scan, neg, care, tags, bar⟩)
  have hq2 := validL_len (l := l)
  have K : ∀ w', Bw ((((w.alloc (.cells #[.int .i64 at', .bool scan, .bool neg, .bool care, .slice A1 tags.length c1, .slice A2 bar.length c2] 28)).alloc (.cells #[.string ⟨#[120]⟩] 9)).alloc (.cells #[.int .i64 at', .bool scan, .bool neg, .bool care, .slice A1 tags.length c1, .slice A2 bar.length c2] 28)).alloc (.cells #[.int .i64 1, .slice (some ⟨w.heap.size + 1, 0, none⟩) 1 1, .slice (some ⟨w.heap.size + 2, 0, none⟩) 1 1, .bool false] 34)) w' → w'.cell? ⟨w.heap.size, 0, none⟩ = some (.int .i64 at') ∧ w'.cell? ⟨w.heap.size, 1, none⟩ = some (.bool scan) ∧ w'.cell? ⟨w.heap.size, 2, none⟩ = some (.bool neg) ∧ w'.cell? ⟨w.heap.size, 3, none⟩ = some (.bool care) ∧ w'.cell? ⟨w.heap.size, 4, none⟩ = some (.slice A1 tags.length c1) ∧ w'.cell? ⟨w.heap.size, 5, none⟩ = some (.slice A2 bar.length c2) := fun w' k => box6 (at_old (at_old (at_old (at_new rfl)))) k
  have Hv : Hid (holdsB nameB ⟨at', scan, neg, care, tags, bar⟩ l i = (validT nameB ⟨at', scan, neg, care, tags, bar⟩ && validL nameB l && (decide (0 ≤ i) && decide (i < l.length)) && holdB ⟨at', scan, neg, care, tags, bar⟩ l i)) := rfl
  have hlm := hl.len_le
  clear h1 h2 hl
  generalize holdsB nameB ⟨at', scan, neg, care, tags, bar⟩ l i = R at *
  generalize validT nameB ⟨at', scan, neg, care, tags, bar⟩ = q1 at *
  generalize validL nameB l = q2 at *
  generalize holdB ⟨at', scan, neg, care, tags, bar⟩ l i = q3 at *
  cases q1
  · have HR : Hid (false = R) := by show _ = _; rw [Hv.out]; simp
    clear Hv hq1 hq2 K
    go_enter Tryd.func16, Tryd.ntmps16
    go_wp2_with ((with_reducible refine HC.out.mono ?_); rintro e wA ⟨rfl, hbA⟩)
    go_ret
    exact ⟨ret_b HR.out, hb4.then hbA⟩
  · cases q2
    · have HR : Hid (false = R) := by show _ = _; rw [Hv.out]; simp
      clear Hv hq1 hq2 K
      go_enter Tryd.func16, Tryd.ntmps16
      go_wp2_with (first
        | ((with_reducible refine HC.out.mono ?_); rintro e wA ⟨rfl, hbA⟩)
        | ((with_reducible refine (HL.out _ (hb4.then hbA)).mono ?_); rintro e wB ⟨rfl, hbB⟩))
      go_ret
      exact ⟨ret_b HR.out, (hb4.then hbA).then hbB⟩
    · by_cases hin0 : 0 ≤ i
      · by_cases hin1 : i < l.length
        · have HR : Hid (q3 = R) := by show _ = _; rw [Hv.out, decide_eq_true hin0, decide_eq_true hin1]; simp
          have HX := Lib.hid (fun (W : World) (k : Bw w W) => HH.out W k ⟨hin0, hin1⟩ (hq1 rfl) (hq2 rfl))
          clear Hv hq1 hq2 HH
          go_enter Tryd.func16, Tryd.ntmps16
          go_wp2_with (first
            | ((with_reducible refine HC.out.mono ?_); rintro e wA ⟨rfl, hbA⟩)
            | ((with_reducible refine (HL.out _ (hb4.then hbA)).mono ?_); rintro e wB ⟨rfl, hbB⟩; obtain ⟨k0, k1, k2, k3, k4, k5⟩ := K _ (hbA.then hbB))
            | ((with_reducible refine (HX.out _ ((hb4.then hbA).then hbB)).mono ?_); rintro e wC ⟨rfl, hbC⟩))
          go_ret
          exact ⟨ret_b HR.out, ((hb4.then hbA).then hbB).then hbC⟩
        · have HR : Hid (false = R) := by show _ = _; rw [Hv.out, decide_eq_true hin0, decide_eq_false hin1]; simp
          clear Hv hq1 hq2 K HH
          go_enter Tryd.func16, Tryd.ntmps16
          go_wp2_with (first
            | ((with_reducible refine HC.out.mono ?_); rintro e wA ⟨rfl, hbA⟩)
            | ((with_reducible refine (HL.out _ (hb4.then hbA)).mono ?_); rintro e wB ⟨rfl, hbB⟩))
          go_ret
          exact ⟨ret_b HR.out, (hb4.then hbA).then hbB⟩
      · have HR : Hid (false = R) := by show _ = _; rw [Hv.out, decide_eq_false hin0]; simp
        clear Hv hq1 hq2 K HH
        go_enter Tryd.func16, Tryd.ntmps16
        go_wp2_with (first
          | ((with_reducible refine HC.out.mono ?_); rintro e wA ⟨rfl, hbA⟩)
          | ((with_reducible refine (HL.out _ (hb4.then hbA)).mono ?_); rintro e wB ⟨rfl, hbB⟩))
        go_ret
        exact ⟨ret_b HR.out, (hb4.then hbA).then hbB⟩

end Go.Proofs.YthecmbmidoagaaaDoor

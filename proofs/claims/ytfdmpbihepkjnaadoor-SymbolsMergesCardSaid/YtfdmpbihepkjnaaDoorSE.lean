/- The contracts of the reference's 'Add' and 'Merge'. Conditions: what the slices read as; the bounds of a string. -/
import Derived.Test.YtfdmpbihepkjnaaDoorSD
namespace Go.Proofs.YtfdmpbihepkjnaaDoor
open Go.RowKit Go.Maps
open Pl

set_option maxRecDepth 100000 in
set_option maxHeartbeats 2000000 in
theorem radd_any {v : Value} {t : List ByteArray} {x : ByteArray} {w : World} (h : Rd tStr w v t) (hx : x.size ≤ maxLen) :
    Calls Tryd.prog 29 #[v, .string x] w (AdR w (addR t x)) := by
  obtain ⟨i0, hi, hz0, hz1, hzb⟩ := info_parts infoStr
  have HV := Lib.hid (rvalid_any h)
  have HI := Lib.hid (fun (w' : World) => named_any (s := x) (w := w'))
  have HP := Lib.hid (fun (w' : World) (k : Bw w w') => position_any (x := x) (h.after k))
  have h0 := Lib.hid h
  obtain ⟨A, c, rfl, _, _⟩ := h.form
  clear h
  cases q : vT t
  · have Hr : Hid (addR t x = ([], 0, 1)) := by show _ = _; unfold addR; rw [q]; rfl
    rw [q] at HV
    clear q
    go_enter Tryd.func29, Tryd.ntmps29
    go_wp2_with (go_at_call 18; (with_reducible refine HV.out.mono ?_); rintro e w1 ⟨rfl, hb1⟩)
    go_ret3
    exact adr_end Hr.out rfl hb1 Sl.nil
  · rw [q] at HV
    cases q2 : nameB x
    · have Hr : Hid (addR t x = ([], 0, 1)) := by show _ = _; unfold addR; rw [q, q2]; rfl
      rw [q2] at HI
      clear q q2
      go_enter Tryd.func29, Tryd.ntmps29
      go_wp2_with (first
        | (go_at_call 18; (with_reducible refine HV.out.mono ?_); rintro e w1 ⟨rfl, hb1⟩)
        | (go_at_call 35; (with_reducible refine (HI.out _).mono ?_); rintro e w2 ⟨rfl, hb2⟩))
      go_ret3
      exact adr_end Hr.out rfl (hb1.then hb2) Sl.nil
    · have hr : addR t x = (match posN x t with | some k => (t, (k : Int) + 1, 0) | none => if 500 ≤ t.length then ([], 0, 2) else (t ++ [x], (t.length : Int) + 1, 0)) := by unfold addR; rw [q, q2]; rfl
      rw [q2] at HI
      have h500 := (vT_parts q).1
      have Hx := Lib.hid hx
      clear q q2
      unfold posI at HP
      cases hp : posN x t with
      | some k =>
        have hk : k < t.length := (List.getElem?_eq_some_iff.1 (posN_spec hp).1).1
        rw [hp] at hr HP
        simp only at HP
        have Hr := Lib.hid hr
        clear hr hp
        go_enter Tryd.func29, Tryd.ntmps29
        go_wp2_with (first
          | (go_at_call 18; (with_reducible refine HV.out.mono ?_); rintro e w1 ⟨rfl, hb1⟩)
          | (go_at_call 35; (with_reducible refine (HI.out _).mono ?_); rintro e w2 ⟨rfl, hb2⟩
             have hb12 := hb1.then hb2
             have hE : Acc tStr 9 (w2.alloc (.cells #[] 9)) w2.heap.size (.slice (some ⟨w2.heap.size, 0, none⟩) 0 0) [] := Acc.made (Nat.le_refl _) (at_new rfl) (Nat.zero_le _) rfl
             have hbE := bw_al hb12 (.cells #[] 9)
             have hbE2 := bw_al (Below.refl w2.heap.size w2) (.cells #[] 9)
             have ha2 := (h0.out.after hb12).alloc (.cells #[] 9)
             have hzE := hbE2.size)
          | (at_builtin; first
            | (refine wpList_app_sl rfl _ _ rfl Tryd.underlying22 hi hz0 hz1 hzb rfl rfl hE rfl ha2 str_free (by simp [maxLen]; omega) (by simp; omega) hzE ?_
               intro n1 w3 hn1 hg1 hat1
               rw [List.nil_append] at hn1
               have hb3 := Acc.bw hbE hg1 (fun g e => (hE.own g e).1) hb12.size))
          | (go_at_call 32; (with_reducible refine (HP.out _ hb3).mono ?_); rintro e w4 ⟨rfl, rfl⟩))
        go_ret3
        exact adr_end Hr.out rfl hb3 (hn1.hi.weaken fun b hb => Nat.le_trans hb12.size hb)
      | none =>
        rw [hp] at hr HP
        simp only at hr HP
        clear hp
        by_cases h5 : 500 ≤ t.length
        · rw [if_pos h5] at hr
          have Hr := Lib.hid hr
          clear hr
          go_enter Tryd.func29, Tryd.ntmps29
          go_wp2_with (first
            | (go_at_call 18; (with_reducible refine HV.out.mono ?_); rintro e w1 ⟨rfl, hb1⟩)
            | (go_at_call 35; (with_reducible refine (HI.out _).mono ?_); rintro e w2 ⟨rfl, hb2⟩
               have hb12 := hb1.then hb2
               have hE : Acc tStr 9 (w2.alloc (.cells #[] 9)) w2.heap.size (.slice (some ⟨w2.heap.size, 0, none⟩) 0 0) [] := Acc.made (Nat.le_refl _) (at_new rfl) (Nat.zero_le _) rfl
               have hbE := bw_al hb12 (.cells #[] 9)
               have hbE2 := bw_al (Below.refl w2.heap.size w2) (.cells #[] 9)
               have ha2 := (h0.out.after hb12).alloc (.cells #[] 9)
               have hzE := hbE2.size)
            | (at_builtin; first
              | (refine wpList_app_sl rfl _ _ rfl Tryd.underlying22 hi hz0 hz1 hzb rfl rfl hE rfl ha2 str_free (by simp [maxLen]; omega) (by simp; omega) hzE ?_
                 intro n1 w3 hn1 hg1 hat1
                 rw [List.nil_append] at hn1
                 have hb3 := Acc.bw hbE hg1 (fun g e => (hE.own g e).1) hb12.size))
            | (go_at_call 32; (with_reducible refine (HP.out _ hb3).mono ?_); rintro e w4 ⟨rfl, rfl⟩))
          go_ret3
          exact adr_end Hr.out rfl hb3 Sl.nil
        · rw [if_neg h5] at hr
          have Hr := Lib.hid hr
          clear hr
          go_enter Tryd.func29, Tryd.ntmps29
          go_wp2_with (first
            | (go_at_call 18; (with_reducible refine HV.out.mono ?_); rintro e w1 ⟨rfl, hb1⟩)
            | (go_at_call 35; (with_reducible refine (HI.out _).mono ?_); rintro e w2 ⟨rfl, hb2⟩
               have hb12 := hb1.then hb2
               have hE : Acc tStr 9 (w2.alloc (.cells #[] 9)) w2.heap.size (.slice (some ⟨w2.heap.size, 0, none⟩) 0 0) [] := Acc.made (Nat.le_refl _) (at_new rfl) (Nat.zero_le _) rfl
               have hbE := bw_al hb12 (.cells #[] 9)
               have hbE2 := bw_al (Below.refl w2.heap.size w2) (.cells #[] 9)
               have ha2 := (h0.out.after hb12).alloc (.cells #[] 9)
               have hzE := hbE2.size)
            | (at_builtin; first
              | (refine wpList_app_sl rfl _ _ rfl Tryd.underlying22 hi hz0 hz1 hzb rfl rfl hE rfl ha2 str_free (by simp [maxLen]; omega) (by simp; omega) hzE ?_
                 intro n1 w3 hn1 hg1 hat1
                 rw [List.nil_append] at hn1
                 have hb3 := Acc.bw hbE hg1 (fun g e => (hE.own g e).1) hb12.size
                 have hz3 := hg1.size
                 have hA2 := hn1.alloc (.cells #[.string x] 9)
                 have hb4 := bw_al hb3 (.cells #[.string x] 9)
                 have hz4 : w2.heap.size ≤ (w3.alloc (.cells #[.string x] 9)).heap.size := by rw [sz_alloc]; omega)
              | (refine wpList_app_one rfl _ _ rfl Tryd.underlying22 hi hz0 hz1 hzb rfl rfl hA2 rfl (at_new rfl) ⟨rfl, Hx.out⟩ (by unfold maxLen; omega) (by omega) hz4 ?_
                 intro v1 w5 hA3 hg3 hat3
                 have hb6 := Acc.bw hb4 hg3 (fun g e => (hA2.own g e).1) hb12.size))
            | (go_at_call 32; (with_reducible refine (HP.out _ hb3).mono ?_); rintro e w4 ⟨rfl, rfl⟩))
          go_ret3
          exact adr_end Hr.out rfl hb6 (hA3.hi.weaken fun b hb => Nat.le_trans hb12.size hb)

set_option maxRecDepth 100000 in
set_option maxHeartbeats 4000000 in
theorem rmerge_any {v u : Value} {a b : List ByteArray} {w : World} (ha : Rd tStr w v a) (hb : Rd tStr w u b) :
    Calls Tryd.prog 26 #[v, u] w (MgR w (mrg vT a b)) := by
  obtain ⟨i0, hi, hz0, hz1, hzb⟩ := info_parts infoStr
  obtain ⟨i1, hj, hq0, hq1, hqb⟩ := info_parts infoI
  have HV := Lib.hid (rvalid_any ha)
  have HV2 := Lib.hid (fun (w' : World) (k : Bw w w') => rvalid_any (hb.after k))
  have ha0 := Lib.hid ha
  have hb0 := Lib.hid hb
  obtain ⟨A, ca, rfl, _, _⟩ := ha.form
  obtain ⟨B, cb, rfl, _, _⟩ := hb.form
  clear ha hb
  cases q : vT a
  · have Hr : Hid (mrg vT a b = ([], [], 1)) := by show _ = _; unfold mrg; rw [q]; rfl
    rw [q] at HV
    clear q
    go_enter Tryd.func26, Tryd.ntmps26
    go_wp2_with (go_at_call 18; (with_reducible refine HV.out.mono ?_); rintro e w1 ⟨rfl, hb1⟩)
    go_ret3
    exact mgr_end Hr.out rfl hb1 Sl.nil Sl.nil
  · rw [q] at HV
    cases q2 : vT b
    · have Hr : Hid (mrg vT a b = ([], [], 1)) := by show _ = _; unfold mrg; rw [q, q2]; rfl
      rw [q2] at HV2
      clear q q2
      go_enter Tryd.func26, Tryd.ntmps26
      go_wp2_with (first
        | (go_at_call 18; (with_reducible refine HV.out.mono ?_); rintro e w1 ⟨rfl, hb1⟩)
        | (go_at_call 18; (with_reducible refine (HV2.out _ hb1).mono ?_); rintro e w2 ⟨rfl, hb2⟩))
      go_ret3
      exact mgr_end Hr.out rfl (hb1.then hb2) Sl.nil Sl.nil
    · have hr : mrg vT a b = if 500 < (mgTo a b b.length).1.length then ([], [], 2) else ((mgTo a b b.length).1, (mgTo a b b.length).2, 0) := by unfold mrg; rw [q, q2]; rfl
      rw [q2] at HV2
      have Hr := Lib.hid hr
      have h5a := (vT_parts q).1
      have h5b := (vT_parts q2).1
      clear q q2 hr
      go_enter Tryd.func26, Tryd.ntmps26
      go_wp2_with (first
        | (go_at_call 18; (with_reducible refine HV.out.mono ?_); rintro e w1 ⟨rfl, hb1⟩)
        | (go_at_call 18; (with_reducible refine (HV2.out _ hb1).mono ?_); rintro e w2 ⟨rfl, hb2⟩
           have hb12 := hb1.then hb2
           have hE : Acc tStr 9 (w2.alloc (.cells #[] 9)) w2.heap.size (.slice (some ⟨w2.heap.size, 0, none⟩) 0 0) [] := Acc.made (Nat.le_refl _) (at_new rfl) (Nat.zero_le _) rfl
           have hbE2 := bw_al (Below.refl w2.heap.size w2) (.cells #[] 9)
           have ha2 := (ha0.out.after hb12).alloc (.cells #[] 9)
           have hzE := hbE2.size)
        | (at_builtin; first
          | (refine wpList_app_sl rfl _ _ rfl Tryd.underlying22 hi hz0 hz1 hzb rfl rfl hE rfl ha2 str_free (by simp [maxLen]; omega) (by simp; omega) hzE ?_
             intro n1 w3 hn1 hg1 hat1
             rw [List.nil_append] at hn1
             have hb23 : Bw w2 w3 := Acc.bw hbE2 hg1 (fun g e => (hE.own g e).1) (Nat.le_refl _))))
      have hb2' := Lib.hid (hb0.out.after hb12)
      clear hE ha2 hat1 hg1
      go_loopw [7, 8, 9] (fun n l i wr => ∃ k : Nat, k ≤ b.length ∧ i = .int .i64 k ∧ Bw w2 wr ∧ Acc tStr 9 wr w2.heap.size n (mgTo a b k).1 ∧ Acc tInt 3 wr w2.heap.size l (mgTo a b k).2 ∧ Dj n l) (fun _ _ i _ => b.length - (intOf i).toNat)
      case atStart => exact ⟨0, Nat.zero_le _, rfl, hb23, hn1, Acc.nil _ _, (fun g _ e => by cases e)⟩
      case round =>
        obtain ⟨k, hk, rfl, hbr, hA, hL, hdj⟩ := hrel
        have hle := mg_le a b k
        have hle2 := mg_to a b k
        have hbs := hbr.size
        by_cases hlt : k < b.length
        · obtain ⟨bb, off, y, rfl, hy, hy1, hc0⟩ := hb2'.out.str hlt
          have hbl := World.block_lt_of_cell? w2 _ hc0
          have hc := (World.cell?_of_block (w := w2) (hbr.block _ hbl)).trans hc0
          have HC := Lib.hid (fun (w' : World) (k : Bw w2 w') => (World.cell?_of_block (w := w2) (k.block _ hbl)).trans hc0)
          have hys : y.size ≤ maxLen := by unfold maxLen; omega
          have hst : mgTo a b (k + 1) = mgStep (mgTo a b k) y := by rw [mgTo, getD_of hy.out]
          generalize mgTo a b k = st at *
          obtain ⟨nn, tt⟩ := st
          simp only at hA hL hle hle2 hst
          unfold mgStep at hst
          have HP := Lib.hid (position_any (x := y) hA.hi.rd)
          unfold posI at HP
          cases hp : posN y nn with
          | some i =>
            rw [hp] at HP hst
            have hil := (List.getElem?_eq_some_iff.1 (posN_spec hp).1).1
            simp only at HP
            have Hst := Lib.hid hst
            have hL2 := hL.alloc (.cells #[.int .i64 ((i : Int) + 1)] 3)
            have hA2 := hA.alloc (.cells #[.int .i64 ((i : Int) + 1)] 3)
            have hb4 := bw_al hbr (.cells #[.int .i64 ((i : Int) + 1)] 3)
            clear hp hst
            go_wp2_with (first
              | (go_at_call 32; (with_reducible refine HP.out.mono ?_); rintro e w4 ⟨rfl, rfl⟩)
              | (at_builtin; first
                | (refine wpList_app_one rfl _ _ rfl Tryd.underlying30 hj hq0 hq1 hqb rfl rfl hL2 rfl (at_new rfl) ⟨rfl, by omega, by omega⟩ (by unfold maxLen; omega) (by omega) hb4.size ?_
                   intro v1 w5 hL3 hg3 hat3
                   have hb5 := Acc.bw hb4 hg3 (fun g e => (hL2.own g e).1) (Nat.le_refl _)
                   have hA3 := hA2.grownF flat_str hg3 hdj.ne
                   have hd3 := hdj.step hat3 (fun g e => (hA2.own g e).2))))
            exact ⟨⟨k + 1, hlt, by go_num, hb5, by rw [Hst.out]; exact hA3, by rw [Hst.out]; exact hL3, hd3⟩, by simp [intOf]; omega⟩
          | none =>
            rw [hp] at HP hst
            simp only at HP
            have Hst := Lib.hid hst
            have hA2 := hA.alloc (.cells #[.string y] 9)
            have hL2 := hL.alloc (.cells #[.string y] 9)
            have hb4 := bw_al hbr (.cells #[.string y] 9)
            have Hys := Lib.hid hys
            obtain ⟨N, nc, hv, _, _⟩ := hA.form
            subst hv
            clear hp hst hys
            go_wp2_with (first
              | (go_at_call 32; (with_reducible refine HP.out.mono ?_); rintro e w4 ⟨rfl, rfl⟩)
              | (at_builtin; first
                | (refine wpList_app_one rfl _ _ rfl Tryd.underlying22 hi hz0 hz1 hzb rfl rfl hA2 rfl (at_new rfl) ⟨rfl, Hys.out⟩ (by unfold maxLen; omega) (by omega) hb4.size ?_
                   intro v1 w5 hA3 hg3 hat3
                   have hb5 := Acc.bw hb4 hg3 (fun g e => (hA2.own g e).1) (Nat.le_refl _)
                   have hL3 := (hL2.grownF flat_int hg3 hdj.symm.ne).alloc (.cells #[.int .i64 ((nn.length : Int) + 1)] 3)
                   have hA4 := hA3.alloc (.cells #[.int .i64 ((nn.length : Int) + 1)] 3)
                   have hd3 := (hdj.symm.step hat3 (fun g e => (hL2.own g e).2)).symm
                   have hb6 := bw_al hb5 (.cells #[.int .i64 ((nn.length : Int) + 1)] 3)
                   have hc5 := HC.out _ hb5)
                | (refine wpList_app_one rfl _ _ rfl Tryd.underlying30 hj hq0 hq1 hqb rfl rfl hL3 rfl (at_new rfl) ⟨rfl, by omega, by omega⟩ (by unfold maxLen; omega) (by omega) hb6.size ?_
                   intro v2 w8 hL6 hg6 hat6
                   have hb8 := Acc.bw hb6 hg6 (fun g e => (hL3.own g e).1) (Nat.le_refl _)
                   have hA6 := hA4.grownF flat_str hg6 hd3.ne
                   have hd6 := hd3.step hat6 (fun g e => (hA4.own g e).2))))
            exact ⟨⟨k + 1, hlt, by go_num, hb8, by rw [Hst.out]; exact hA6, by rw [Hst.out]; exact hL6, hd6⟩, by simp [intOf]; omega⟩
        · have hk2 : k = b.length := by omega
          subst hk2
          obtain ⟨N, nc, hv, _, _⟩ := hA.form
          subst hv
          have s1 := hA.hi.weaken fun x (hx : w2.heap.size ≤ x) => show w.heap.size ≤ x from Nat.le_trans hb12.size hx
          have s2 := hL.hi.weaken fun x (hx : w2.heap.size ≤ x) => show w.heap.size ≤ x from Nat.le_trans hb12.size hx
          by_cases h5 : 500 < (mgTo a b b.length).1.length
          · have Hf := Lib.hid (Hr.out.trans (if_pos h5))
            go_wp2_with fail
            go_ret3
            exact mgr_end Hf.out rfl (hb12.then hbr) Sl.nil Sl.nil
          · have Hf := Lib.hid (Hr.out.trans (if_neg h5))
            go_wp2_with fail
            go_ret3
            exact mgr_end Hf.out rfl (hb12.then hbr) s1 s2
end Go.Proofs.YtfdmpbihepkjnaaDoor

/- The contract of the reference's 'Apply'. Conditions: what the arguments read as. -/
import Derived.Test.YthecmbmidoagaaaDoorCG
import Derived.Test.YthecmbmidoagaaaDoorC9b
namespace Go.Proofs.YthecmbmidoagaaaDoor
open Go.RowKit Go.Maps
open Pl

/-- The measure of the rounds. -/
def againV : Value → Nat
  | .bool true => 1
  | _ => 0
theorem set_same {α : Type} {l : List α} {i : Nat} {a : α} (h : l[i]? = some a) : l.set i a = l := by
  apply List.ext_getElem?
  intro j
  rw [List.getElem?_set]
  split
  · rename_i e
    subst e
    rw [if_pos (List.getElem?_eq_some_iff.1 h).1, h]
  · rfl

set_option maxRecDepth 100000 in
set_option maxHeartbeats 16000000 in
theorem rapply_any {v1 v2 : Value} {rules : List Rul} {l : List Coh} {w : World} (hr : Rd tRul w v1 rules) (hl : Rd tCoh w v2 l) :
    Calls Tryd.prog 23 #[v1, v2] w (ApR w (app nameB rules l)) := by
  obtain ⟨A1, c1, rfl, _, _⟩ := hr.form
  obtain ⟨A2, c2, rfl, _, _⟩ := hl.form
  have hrm := hr.len_le
  have hlm := hl.len_le
  have HC := Lib.hid (rrules_any hr)
  have HL := Lib.hid (fun (W : World) (k : Bw w W) => rvalid_any (hl.after k))
  obtain ⟨i0, hi, hz0, hz1, hz2⟩ := info_parts infoC
  obtain ⟨j0, hj, hy0, hy1, hy2⟩ := info_parts infoP
  cases q1 : validRs nameB rules <;> rw [q1] at HC
  · have Hs := Lib.hid (app_bad (rules := rules) (l := l) (fun h => by have := h.1; rw [q1] at this; simp at this))
    clear hr hl q1
    go_enter Tryd.func23, Tryd.ntmps23
    go_wp2_with ((with_reducible refine HC.out.mono ?_); rintro e wA ⟨rfl, hbA⟩)
    go_ret3
    exact apr_bad Hs.out rfl hbA
  · cases q2 : validL nameB l <;> rw [q2] at HL
    · have Hs := Lib.hid (app_bad (rules := rules) (l := l) (fun h => by have := h.2; rw [q2] at this; simp at this))
      clear hr hl q1 q2
      go_enter Tryd.func23, Tryd.ntmps23
      go_wp2_with (first | ((with_reducible refine HC.out.mono ?_); rintro e wA ⟨rfl, hbA⟩) | ((with_reducible refine (HL.out _ hbA).mono ?_); rintro e wB ⟨rfl, hbB⟩))
      go_ret3
      exact apr_bad Hs.out rfl (hbA.then hbB)
    · have Hs := Lib.hid (app_good q1 q2)
      have hvr := Lib.hid (show ∀ r ∈ rules, validR nameB r = true by have h := q1; unfold validRs at h; simp only [Bool.and_eq_true] at h; exact List.all_eq_true.1 h.2)
      have h100 : rules.length ≤ 100 := by have h := q1; unfold validRs at h; simp only [Bool.and_eq_true, decide_eq_true_eq] at h; exact h.1
      have hll := validL_len q2
      have Hq2 := Lib.hid q2
      clear q1 q2
      go_enter Tryd.func23, Tryd.ntmps23
      go_wp2_with (first | ((with_reducible refine HC.out.mono ?_); rintro e wA ⟨rfl, hbA⟩) | ((with_reducible refine (HL.out _ hbA).mono ?_); rintro e wB ⟨rfl, hbB⟩))
      go_loopw [8, 7] (fun i v4 wr => ∃ k : Nat, k ≤ l.length ∧ i = .int .i64 k ∧ Bw w wr ∧ Acc tCoh 37 wr w.heap.size v4 (l.take k)) (fun i _ _ => l.length - (intOf i).toNat)
      case atStart => exact ⟨0, Nat.zero_le _, rfl, hbA.then hbB, Acc.nil _ _⟩
      case round =>
        obtain ⟨k, hk, rfl, hbw, hacc⟩ := hrel
        by_cases hlt : k < l.length
        · obtain ⟨b, off, y, uy, rfl, hy, hys, hyr, e0, e1⟩ := (hl.after hbw).coh hlt
          have hsm := validL_small Hq2.out hy.out
          obtain ⟨fm, rs⟩ := y
          simp only at *
          obtain ⟨A3, c3, rfl, _, _⟩ := hyr.form
          have HX := Lib.hid (rclone_any (fm := fm) hyr hsm)
          have hsnoc : Hid (l.take (k + 1) = l.take k ++ [(fm, rs)]) := by show _ = _; rw [List.take_add_one, hy.out]; rfl
          have hkl : (l.take k).length = k := by rw [List.length_take]; omega
          have hys' : fm.size ≤ maxLen := hys
          have hB1 : (l.take k).length + 1 ≤ maxLen := by rw [hkl]; unfold maxLen; omega
          have hB2 : ((l.take k).length + 1) * 40 ≤ 140737488355328 := by rw [hkl]; omega
          have hown := hacc.own
          have hwx : w.heap.size ≤ wr.heap.size := hbw.size
          obtain ⟨A4, n4, c4, rfl, _, _, Hn4⟩ := hacc.sl.form'
          clear hyr hy hr hl
          go_wp2_with (first
            | ((with_reducible refine HX.out.mono ?_); rintro e wC ⟨uC, rfl, hbC, hCC⟩; obtain ⟨PC, nC, cC, rfl, _, _, HnC⟩ := hCC.sl.form')
            | (at_builtin; refine wpList_app_one rfl _ _ rfl Tryd.underlying29 hi hz0 hz1 hz2 rfl rfl ((hacc.after hbC).alloc _) rfl (at_new rfl) (coh_rep (c := (fm, rs)) hys' (hCC.sl.lt.keep fun b hb => ⟨⟨Nat.le_trans hwx hb.1.1, fun e => by have h1 := (hown b e.symm).2; have h2 := hb.1.1; omega⟩, Below.heap_alloc _ _ b hb.2⟩)) hB1 hB2 (Nat.le_trans hbw.size (Nat.le_trans hbC.size (by rw [sz_alloc]; exact Nat.le_succ _))) ?_
               intro v2 w2 hA2 hg2 hat2
               rw [← hsnoc.out] at hA2))
          exact ⟨⟨k + 1, hlt, by go_num, Acc.bw (bw_al (hbw.then hbC) _) hg2 (fun g e => (hown g e).1) (Nat.le_refl _), hA2⟩, by simp [intOf]; omega⟩
        · have hk2 : k = l.length := by omega
          subst hk2
          rw [List.take_length] at hacc
          obtain ⟨A4, c4, rfl, _, _⟩ := hacc.form
          have hI0 : ApI w wr l (.slice A4 l.length c4) (.slice none 0 0) (l, []) := ⟨rfl, Hq2.out, by simp, hbw, acc_p (acc_lo hacc) (fun b _ _ => by simp [Value.ownBlock]), Acc.nil _ _, fun g h1 h2 => by cases h2⟩
          have hres0 : Hid (appF rules (totR (l, ([] : List Stp)).1 + 1) (l, []) = appA rules l) := rfl
          have htot := totR_le Hq2.out
          clear hacc hl hbw
          go_wp2_with fail
          go_loopw [9, 10] (fun v5 ag wr => ∃ (s : St) (b : Bool), ag = .bool b ∧ ApI w wr l (.slice A4 l.length c4) v5 s ∧ Hid (if b = true then appF rules (totR s.1 + 1) s = appA rules l else s = appA rules l)) (fun v5 ag _ => 2 * (totR l + 1 - lenV v5) + againV ag)
          case atStart => exact ⟨_, true, rfl, hI0, Lib.hid (by rw [if_pos rfl]; exact hres0.out)⟩
          case round =>
            obtain ⟨s, b, rfl, hI, hres⟩ := hrel
            clear hI0 hres0
            obtain ⟨A5, n5, c5, rfl, hn5c, hc5m, Hn5⟩ := hI.2.2.2.2.2.1.sl.form'
            have hn5 : n5 ≤ totR l := by have := hI.2.2.1; have := Hn5.out; omega
            have HI := Lib.hid hI
            clear hI
            cases b
            · have hr2 : s = appA rules l := hres.out
              go_wp2_with fail
              go_ret3
              obtain ⟨_, _, _, f4, f5, f6, _⟩ := HI.out
              unfold ApR
              rw [Hs.out, ← hr2]
              exact ⟨_, _, rfl, f4, f5.sl.unlo.weaken fun b hb => hb.1, f6.hi⟩
            · have Hres : Hid (appF rules (totR s.1 + 1) s = appA rules l) := hres
              clear hres
              go_wp2_with fail
              go_loopw [11, 9, 10] (fun i v5 ag wr => ∃ kk : Nat, kk ≤ rules.length ∧ i = .int .i64 kk ∧ ApI w wr l (.slice A4 l.length c4) v5 (outA rules kk s) ∧ ag = .bool (decide (n5 < (outA rules kk s).2.length))) (fun i _ _ _ => rules.length - (intOf i).toNat)
              case atStart => exact ⟨0, Nat.zero_le _, rfl, HI.out, by rw [show outA rules 0 s = s from rfl, decide_eq_false (by have := Hn5.out; omega)]⟩
              case round =>
                obtain ⟨kk, hkk, rfl, hI3, rfl⟩ := hrel
                by_cases hlt3 : kk < rules.length
                · obtain ⟨rb, roff, r, ru1, ru2, rfl, hrr, hri, hr1, hr2, ra0, ra1, ra2, ra3⟩ := hr.rul hlt3
                  have hvr1 := hvr.out r (List.mem_of_getElem? hrr.out)
                  obtain ⟨R1, d1, rfl, _, _⟩ := hr1.form
                  obtain ⟨R2, d2, rfl, _, _⟩ := hr2.form
                  have hout : Hid (outA rules (kk + 1) s = innA r kk l.length (outA rules kk s)) := by
                    show _ = _
                    conv => lhs; unfold outA
                    rw [hrr.out]
                    simp only
                    rw [HI.out.1]
                  have hge1 : n5 ≤ (outA rules kk s).2.length := by have h1 := (out_sum rules kk s).2.1; have h2 := Hn5.out; omega
                  generalize hs1 : outA rules kk s = s1 at *
                  have Hs1 := Lib.hid hs1
                  have Hra := Lib.hid (And.intro ra0 (And.intro ra1 (And.intro ra2 ra3)))
                  clear hs1 ra0 ra1 ra2 ra3
                  go_wp2_with fail
                  go_loopw [12, 9, 10] (fun i v5 ag wr => ∃ jj : Nat, jj ≤ l.length ∧ i = .int .i64 jj ∧ ApI w wr l (.slice A4 l.length c4) v5 (innA r kk jj s1) ∧ ag = .bool (decide (n5 < (innA r kk jj s1).2.length))) (fun i _ _ _ => l.length - (intOf i).toNat)
                  case atStart => exact ⟨0, Nat.zero_le _, rfl, hI3, rfl⟩
                  case round =>
                    clear hI3
                    obtain ⟨jj, hjj, rfl, hI4, rfl⟩ := hrel
                    by_cases hlt4 : jj < l.length
                    · have hinn : Hid (innA r kk (jj + 1) s1 = oneA r kk jj (innA r kk jj s1)) := rfl
                      have hge : n5 ≤ (innA r kk jj s1).2.length := Nat.le_trans hge1 (inn_sum r kk jj s1).2.1
                      generalize innA r kk jj s1 = s2 at *
                      obtain ⟨hlen2, hval2, hsum2, hbw4, hacc4, hac5, hdj⟩ := hI4
                      obtain ⟨y, hy⟩ : ∃ y, s2.1[jj]? = some y := ⟨_, List.getElem?_eq_getElem (by omega)⟩
                      have hone := one_at (r := r) (k := kk) hy
                      have hol := one_len r kk jj s2
                      have hov := one_valid (r := r) (k := kk) (i := jj) hval2
                      have hos := one_sum r kk jj s2
                      obtain ⟨g, cap, hV4, hgb, hgf⟩ := acc_first hacc4 (by omega)
                      rw [hlen2] at hV4
                      injection hV4 with hV4 _ hcap
                      subst hV4; subst hcap
                      have hsl4 := hacc4.sl.unlo
                      obtain ⟨bb, off, y', uy, hA, hy', hys, hyr, e0, e1⟩ := hsl4.coh (k := jj) (by omega)
                      injection hA with hA
                      injection hA with hA1 hA2
                      subst hA1; subst hA2
                      obtain rfl : y = y' := by have := hy'.out; rw [hy] at this; injection this
                      obtain ⟨A6, c6, rfl, _, _⟩ := hyr.form
                      have HX := Lib.hid (rchanged_any (k := jj) (hr1.rd.after hbw4) (hr2.rd.after hbw4) hsl4.rd hy (validR_op hvr1) (fun t ht => validT_at (validR_tests hvr1 t ht)) (validL_len hval2) (validL_small hval2 hy))
                      have hf0 := bw_cell hbw4 Hra.out.1
                      have hf1 := bw_cell hbw4 Hra.out.2.1
                      have hf2 := bw_cell hbw4 Hra.out.2.2.1
                      have hf3 := bw_cell hbw4 Hra.out.2.2.2
                      have hform := Lib.hid (chg_form (r := r) hy)
                      have hsame : Hid (¬ (chg r s2.1 jj).2.length < y.2.length → s2.1.set jj (chg r s2.1 jj) = s2.1) := Lib.hid fun h => by rw [chg_same hy h]; exact set_same hy
                      have hle := chg_len (r := r) hy
                      obtain ⟨A5b, n5b, c5b, rfl, _, _, Hn5b⟩ := hac5.sl.form'
                      have hlt4' : (jj : Int) < l.length := by omega
                      have hlt3' : (kk : Int) < rules.length := by omega
                      have hys' : y.1.size ≤ maxLen := hys
                      rw [Nat.zero_add] at e0 e1
                      have Hone := Lib.hid hone
                      have hlc : Hid ((chg r s2.1 jj) = (y.1, (chg r s2.1 jj).2)) := Lib.hid (by rw [← hform.out])
                      clear hsl4 hyr hone hy' hy hform
                      go_wp2_with fail
                      refine HX.out.mono ?_
                      rintro e w1 ⟨uC, rfl, hb1, hsC⟩
                      obtain ⟨PC, nC, cC, rfl, _, _, HnC⟩ := hsC.form'
                      have hb5 : Bw wr (w1.alloc (.cells #[.string y.1, .slice PC nC cC] 37)) := bw_al hb1 _
                      have k0 := bw_cell hb5 e0
                      have k1 := bw_cell hb5 e1
                      have kb0 := row2_0 (w := (w1.alloc (.cells #[.string y.1, .slice PC nC cC] 37))) (at_new rfl)
                      have kb1 := row2_1 (w := (w1.alloc (.cells #[.string y.1, .slice PC nC cC] 37))) (at_new rfl)
                      have kf0 := (frozen_bw hb5 e0).trans (hgf _)
                      have kf1 := (frozen_bw hb5 e1).trans (hgf _)
                      clear HX hf0 hf1 hf2 hf3
                      have hgw : g < wr.heap.size := World.block_lt_of_cell? wr ⟨g, jj * 2, none⟩ e0
                      have hs1w := hb1.size
                      have hown5 := hac5.own
                      by_cases hless : (chg r s2.1 jj).2.length < y.2.length
                      · have hcmp2 : ((nC : Int) != (y.2.length : Int)) = true := by simpa using (by have := HnC.out; omega : ¬ (nC : Int) = y.2.length)
                        go_wp2_with fail
                        go_quiet (fail)
                        have hsC5 : Sl tRdg (w1.alloc (.cells #[.string y.1, .slice PC nC cC] 37)) (fun b => wr.heap.size ≤ b ∧ b < w1.heap.size) (.slice PC nC cC) (chg r s2.1 jj).2 :=
                          hsC.lt.keep fun b hb => ⟨hb, Below.heap_alloc w1 _ b hb.2⟩
                        have hB1 : s2.2.length + 1 ≤ maxLen := by unfold maxLen; omega
                        have hB2 : (s2.2.length + 1) * 24 ≤ 140737488355328 := by omega
                        have hkI : inI64 (kk : Int) := ⟨by omega, by omega⟩
                        have hjI : inI64 (jj : Int) := ⟨by omega, by omega⟩
                        have hnI : inI64 (nC : Int) := ⟨by omega, by omega⟩
                        have hszL : (((w1.alloc (.cells #[.string y.1, .slice PC nC cC] 37)).drewN nq).alloc (.cells #[.int .i64 kk, .int .i64 jj, .int .i64 nC] 52)).heap.size = w1.heap.size + 2 := by simp
                        have hszX : w.heap.size ≤ (((w1.alloc (.cells #[.string y.1, .slice PC nC cC] 37)).drewN nq).alloc (.cells #[.int .i64 kk, .int .i64 jj, .int .i64 nC] 52)).heap.size := by rw [hszL]; have := hbw4.size; omega
                        have HXrow : Hid ((((w1.alloc (.cells #[.string y.1, .slice PC nC cC] 37)).drewN nq).alloc (.cells #[.int .i64 kk, .int .i64 jj, .int .i64 nC] 52)).heap[w1.heap.size + 1]? = some (.cells #[.int .i64 kk, .int .i64 jj, .int .i64 nC] 52)) := Lib.hid (at_new (by simp))
                        have kb1q : ((w1.alloc (.cells #[.string y.1, .slice PC nC cC] 37)).drewN nq).cell? ⟨w1.heap.size, 1, none⟩ = some (.slice PC nC cC) := kb1
                        go_wp2_with (
                          at_builtin
                          refine wpList_app_one (T := tStp) (v := .slice A5b n5b c5b) (xs := s2.2) rfl _ _ rfl Tryd.underlying45 hj hy0 hy1 hy2 rfl rfl (((hac5.after hb5).dn nq).alloc _) rfl HXrow.out (y := ((kk : Int), (jj : Int), (nC : Int))) (stp_rep (s := ((kk : Int), (jj : Int), (nC : Int))) hkI hjI hnI) hB1 hB2 hszX ?_
                          intro v2 w2 hA2 hg2 hat2
                          have hbL : Bw wr (((w1.alloc (.cells #[.string y.1, .slice PC nC cC] 37)).drewN nq).alloc (.cells #[.int .i64 kk, .int .i64 jj, .int .i64 nC] 52)) := bw_al (hb5.drewN nq) _
                          have hne5 : ∀ q, q < w1.heap.size + 2 → ¬ q < wr.heap.size → some q ≠ (Value.slice A5b n5b c5b).ownBlock := fun q _ h e => by have := (hown5 q e.symm).2; omega
                          have hv5g : (Value.slice A5b n5b c5b).ownBlock ≠ some g := fun e => hdj g rfl e
                          have hrow13 : w2.heap[w1.heap.size]? = some (.cells #[.string y.1, .slice PC nC cC] 37) := (hg2.block _ (by rw [hszL]; omega) (hne5 _ (by omega) (by omega))).trans (at_old (show ((w1.alloc (.cells #[.string y.1, .slice PC nC cC] 37)).drewN nq).heap[w1.heap.size]? = _ from at_new rfl))
                          have m0 := row2_0 hrow13
                          have m1 := row2_1 hrow13
                          have Hrow13 := Lib.hid hrow13
                          clear hrow13
                          have z0 := grown_cell (p := ⟨g, jj * 2, none⟩) hg2 (bw_cell hbL e0) hv5g
                          have z1 := grown_cell (p := ⟨g, jj * 2 + 1, none⟩) hg2 (bw_cell hbL e1) hv5g
                          have k4 := acc_p (P' := fun b => some b ≠ (Value.slice A5b n5b c5b).ownBlock ∧ b < w1.heap.size + 2) (hacc4.after hbL) (fun b hb h => ⟨h, by rw [hszL] at hb; exact hb⟩)
                          have k5 := k4.lo_grown hg2 (.inr (fun e => hv5g e.symm)) (fun q e h => h.1 e.symm)
                          have k6 : Acc (tLo tCoh (fun b => some b ≠ v2.ownBlock)) 37 w2 w.heap.size (.slice (some ⟨g, 0, none⟩) l.length c4) s2.1 := acc_p k5 (fun b _ h => by
                            rcases hat2 with e | e
                            · rw [e]; exact h.1
                            · rw [e, hszL]; intro e2; injection e2 with e2; omega)
                          obtain ⟨g', cap', eV, _, hgf2⟩ := acc_first k6 (by omega)
                          obtain rfl : g = g' := by injection eV with h _ _; injection h with h; injection h with h _
                          clear eV
                          have zf0 := hgf2 (jj * 2)
                          have zf1 := hgf2 (jj * 2 + 1))
                        have hone' := Hone.out
                        rw [if_pos hless] at hone'
                        have hsC2 : Sl tRdg w2 (fun b => (w.heap.size ≤ b ∧ b ≠ g) ∧ some b ≠ v2.ownBlock) (.slice PC nC cC) (chg r s2.1 jj).2 :=
                          hsC5.keep fun b hb => ⟨⟨⟨Nat.le_trans hbw4.size hb.1, by omega⟩, by
                            rcases hat2 with e | e
                            · rw [e]; exact hne5 b (by omega) (by omega)
                            · rw [e, hszL]; intro e2; injection e2 with e2; omega⟩, (hg2.block b (by rw [hszL]; omega) (hne5 b (by omega) (by omega))).trans (at_old_eq (show b < (w1.alloc (.cells #[.string y.1, .slice PC nC cC] 37)).heap.size by rw [sz_alloc]; omega))⟩
                        have hset := acc_setC k6 (j := jj) (by omega) hys' hsC2
                        rw [← hlc.out] at hset
                        rw [HnC.out] at hA2
                        have hv2g : v2.ownBlock ≠ some g := by
                          rcases hat2 with e | e
                          · rw [e]; exact hv5g
                          · rw [e, hszL]; intro e2; injection e2 with e2; omega
                        have hbX : Bw w w2 := Acc.bw (hbw4.then hbL) hg2 (fun q e => (hown5 q e).1) (Nat.le_refl _)
                        have hI5 : ApI w ((w2.setCell ⟨g, jj * 2, none⟩ (.string y.1)).setCell ⟨g, jj * 2 + 1, none⟩ (.slice PC nC cC)) l (.slice (some ⟨g, 0, none⟩) l.length c4) v2 (oneA r kk jj s2) := by
                          refine ⟨hol.trans hlen2, hov, Nat.le_trans hos.1 hsum2, bw_grown hbX hset.2 hgb, by rw [hone']; exact hset.1, by rw [hone']; exact hA2.grownF flat_stp hset.2 (by
                            cases ho : v2.ownBlock with
                            | none => exact .inl rfl
                            | some q => exact .inr (fun e => hv2g (by rw [ho]; exact e))), fun q e1 e2 => by
                              have e3 : some g = some q := e1
                              injection e3 with e3
                              subst e3
                              exact hv2g e2⟩
                        exact ⟨⟨jj + 1, hlt4, by go_num, by rw [hinn.out]; exact hI5, by rw [hinn.out, hone', decide_eq_true (by rw [List.length_append, List.length_singleton]; omega)]⟩, by simp [intOf]; omega⟩
                      · have hcmp2 : ((nC : Int) != (y.2.length : Int)) = false := by simpa using (by have := HnC.out; omega : (nC : Int) = y.2.length)
                        go_wp2_with fail
                        go_quiet (fail)
                        go_wp2_with fail
                        have hone' := Hone.out
                        rw [if_neg hless] at hone'
                        have hsC5 : Sl tRdg (w1.alloc (.cells #[.string y.1, .slice PC nC cC] 37)) (fun b => (w.heap.size ≤ b ∧ b ≠ g) ∧ some b ≠ (Value.slice A5b n5b c5b).ownBlock) (.slice PC nC cC) (chg r s2.1 jj).2 :=
                          hsC.lt.keep fun b hb => ⟨⟨⟨Nat.le_trans hbw4.size hb.1, fun e => by have h2 : wr.heap.size ≤ b := hb.1; omega⟩, fun e => by have h1 := (hown5 b e.symm).2; have h2 : wr.heap.size ≤ b := hb.1; omega⟩, Below.heap_alloc w1 _ b hb.2⟩
                        have hset := acc_setC ((hacc4.after hb5).dn nq) (j := jj) (by omega) hys' (hsC5.drewN nq)
                        rw [← hlc.out, hsame.out hless] at hset
                        have hI5 : ApI w ((((w1.alloc (.cells #[.string y.1, .slice PC nC cC] 37)).drewN nq).setCell ⟨g, jj * 2, none⟩ (.string y.1)).setCell ⟨g, jj * 2 + 1, none⟩ (.slice PC nC cC)) l (.slice (some ⟨g, 0, none⟩) l.length c4) (.slice A5b n5b c5b) s2 :=
                          ⟨hlen2, hval2, hsum2, bw_grown ((hbw4.then hb5).drewN nq) hset.2 hgb, hset.1, ((hac5.after hb5).dn nq).grownF flat_stp hset.2 (by
                            cases ho : (Value.slice A5b n5b c5b).ownBlock with
                            | none => exact .inl rfl
                            | some q => exact .inr (fun e => hdj g rfl (by rw [ho]; exact e))), hdj⟩
                        exact ⟨⟨jj + 1, hlt4, by go_num, by rw [hinn.out, hone']; exact hI5, by rw [hinn.out, hone']⟩, by simp [intOf]; omega⟩
                    · have hj4 : jj = l.length := by omega
                      subst hj4
                      go_wp2_with fail
                      exact ⟨⟨kk + 1, hlt3, by go_num, by rw [hout.out]; exact hI4, by rw [hout.out]⟩, by simp [intOf]; omega⟩
                · have hk3 : kk = rules.length := by omega
                  subst hk3
                  have hpass : Hid (outA rules rules.length s = passA rules s) := rfl
                  rw [hpass.out] at hI3 ⊢
                  obtain ⟨A6, n6, c6, rfl, _, _, Hn6⟩ := hI3.2.2.2.2.2.1.sl.form'
                  have hps := Lib.hid (pass_sum rules s)
                  have hI6 := Lib.hid hI3
                  clear hI3
                  have g1 := hI6.out.2.2.1
                  have g2 := hps.out.2.1
                  have g3 := Hn6.out
                  have g4 := Hn5.out
                  by_cases hpe : (passA rules s).2.length = s.2.length
                  · have Hp := Lib.hid hpe
                    rw [decide_eq_false (by omega : ¬ n5 < (passA rules s).2.length)]
                    clear hpe g1 g2 g3 g4
                    go_wp2_with fail
                    refine ⟨⟨passA rules s, false, rfl, hI6.out, Lib.hid (by rw [if_neg (by decide)]; exact appF_stop Hres.out Hp.out)⟩, ?_⟩
                    have g3 := Hn6.out
                    have g4 := Hn5.out
                    have g5 := Hp.out
                    show 2 * (totR l + 1 - n6) + 0 < 2 * (totR l + 1 - n5) + 1
                    omega
                  · have Hp := Lib.hid hpe
                    rw [decide_eq_true (by omega : n5 < (passA rules s).2.length)]
                    clear hpe g1 g2 g3 g4
                    go_wp2_with fail
                    refine ⟨⟨passA rules s, true, rfl, hI6.out, Lib.hid (by rw [if_pos rfl]; exact (appF_go Hres.out Hp.out).1)⟩, ?_⟩
                    have g1 := hI6.out.2.2.1
                    have g2 := hps.out.2.1
                    have g3 := Hn6.out
                    have g4 := Hn5.out
                    have g5 := Hp.out
                    show 2 * (totR l + 1 - n6) + 1 < 2 * (totR l + 1 - n5) + 1
                    omega
end Go.Proofs.YthecmbmidoagaaaDoor

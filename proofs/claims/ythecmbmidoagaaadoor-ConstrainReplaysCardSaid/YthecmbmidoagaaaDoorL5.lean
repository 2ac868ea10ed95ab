/- The walk of the statement ConstrainReplays. -/
import Derived.Test.YthecmbmidoagaaaDoorKW
namespace Go.Proofs.YthecmbmidoagaaaDoor
open Go.RowKit Go.Maps
open Pl

theorem row3_0 {w : World} {g : Nat} {a b c : Value} {e : TypeId} {fz : Nat × Nat} (h : w.heap[g]? = some (.cells #[a, b, c] e fz)) : w.cell? ⟨g, 0, none⟩ = some a := by rw [cell_of_row w g 0 _ _ _ h]; rfl
theorem row3_1 {w : World} {g : Nat} {a b c : Value} {e : TypeId} {fz : Nat × Nat} (h : w.heap[g]? = some (.cells #[a, b, c] e fz)) : w.cell? ⟨g, 1, none⟩ = some b := by rw [cell_of_row w g 1 _ _ _ h]; rfl
theorem row3_2 {w : World} {g : Nat} {a b c : Value} {e : TypeId} {fz : Nat × Nat} (h : w.heap[g]? = some (.cells #[a, b, c] e fz)) : w.cell? ⟨g, 2, none⟩ = some c := by rw [cell_of_row w g 2 _ _ _ h]; rfl
theorem replay_cons {rules : List Rul} {x : Int × Int × Int} {xs : List (Int × Int × Int)} {l o : List Coh} (h : replay rules (x :: xs) l = some o) : ∃ (a j : Nat) (r : Rul) (c : Coh), x.1 = a ∧ x.2.1 = j ∧ rules[a]? = some r ∧ l[j]? = some c ∧ x.2.2 = ((chg r l j).2.length : Int) ∧ (chg r l j).2.length < c.2.length ∧ replay rules xs (l.set j (chg r l j)) = some o := by
  unfold replay at h
  split at h
  · rename_i h0
    split at h
    · rename_i r c hr hc
      split at h
      · rename_i h1
        exact ⟨x.1.toNat, x.2.1.toNat, r, c, by omega, by omega, hr, hc, h1.1.symm, h1.2, h⟩
      · cases h
    · cases h
  · cases h

set_option maxRecDepth 100000 in
set_option maxHeartbeats 8000000 in
theorem replays_walk {v1 v2 : Value} {rules : List Rul} {l : List Coh} {w : World} (hT : Tb w) (hr : Rd tRul w v1 rules) (hl : Rd tCoh w v2 l) :
    Calls Tryd.prog 9 #[v1, v2] w fun e w' => e = .returned (.bool true) ∧ Bw w w' := by
  go_enter Tryd.func9, Tryd.ntmps9
  go_wp2_with fail
  refine (large_any hl).mono ?_
  rintro e w1 ⟨⟨b, rfl⟩, hb1⟩
  cases b
  · go_wp2_with fail
    refine (many_any (hr.after hb1)).mono ?_
    rintro e w2 ⟨⟨b, rfl⟩, hb2⟩
    have hbw := hb1.then hb2
    cases b
    · skip
      have HA := Lib.hid (apply_any (hT.after hbw) (hr.after hbw) (hl.after hbw))
      by_cases hv : validRs nameB rules = true ∧ validL nameB l = true
      case neg =>
        rw [app_bad hv] at HA
        clear hv
        go_wp2_with fail
        refine HA.out.mono ?_
        intro e w3 hq
        obtain ⟨u, v, rfl, hb3, hu, hv⟩ : ∃ u v, e = .returned (.tuple #[u, v, .int .i64 1]) ∧ Bw w2 w3 ∧ Sl tCoh w3 (Hi w2.heap.size) u [] ∧ Sl tStp w3 (Hi w2.heap.size) v [] := hq
        clear HA
        have hbw3 := hbw.then hb3
        go_wp2_with fail
        refine (example_any (hT.after hbw3)).mono ?_
        rintro e wE ⟨rfl, hbE⟩
        go_wp2_with fail
        go_ret
        exact ⟨rfl, hbw3.then hbE⟩
      have hrep := Lib.hid (appA_replay rules l)
      have htot := totR_le hv.2
      have hll := validL_len hv.2
      rw [app_good hv.1 hv.2] at HA
      have Hv := Lib.hid hv
      clear hv
      generalize (appA rules l).1 = out at *
      generalize (appA rules l).2 = st at *
      go_wp2_with fail
      refine HA.out.mono ?_
      intro e w3 hq
      obtain ⟨u, v, rfl, hb3, hu, hst⟩ : ∃ u v, e = .returned (.tuple #[u, v, .int .i64 0]) ∧ Bw w2 w3 ∧ Sl tCoh w3 (Hi w2.heap.size) u out ∧ Sl tStp w3 (Hi w2.heap.size) v st := hq
      clear HA
      have hbw3 := hbw.then hb3
      obtain ⟨A3, c3, rfl, _, _⟩ := hu.form
      obtain ⟨A4, c4, rfl, hc4, hc4m⟩ := hst.form
      obtain ⟨A1, c1, rfl, _, _⟩ := hr.form
      obtain ⟨A2, c2, rfl, _, _⟩ := hl.form
      have hrm := hr.len_le
      have hlm := hl.len_le
      have hsm := hst.len_le
      obtain ⟨i0, hi, hz0, hz1, hz2⟩ := info_parts infoC
      have hl3 := hl.after hbw3
      have hE : Acc (tLo tCoh (fun _ => True)) 37 (w3.alloc (.cells #[] 37)) 0 (.slice (some ⟨w3.heap.size, 0, none⟩) 0 0) [] := Acc.made (cap := 0) (Nat.zero_le _) (at_new rfl) (Nat.zero_le _) rfl
      have hlx : Sl (tLo tCoh (fun _ => True)) (w3.alloc (.cells #[] 37)) (fun b => b < w3.heap.size) (.slice A2 l.length c2) l := (hl3.keep fun b hb => ⟨hb, Below.heap_alloc _ _ b hb⟩).lo (fun _ _ => trivial)
      have hfr : ∀ x cs, (tLo tCoh (fun _ => True)).rep (w3.alloc (.cells #[] 37)) (fun b => b < w3.heap.size) cs x → (tLo tCoh (fun _ => True)).rep (w3.alloc (.cells #[] 37)) (fun b => 0 ≤ b ∧ some b ≠ (Value.slice (some ⟨w3.heap.size, 0, none⟩) 0 0).ownBlock) cs x := fun x cs h => tCoh.keep (show tCoh.rep _ _ cs x from h) fun b hb => ⟨⟨⟨Nat.zero_le _, fun e => by have e2 : some b = some w3.heap.size := e; injection e2 with e2; have := hb.1; omega⟩, trivial⟩, rfl⟩
      have hB1 : ([] : List Coh).length + l.length ≤ maxLen := by simp [maxLen]; omega
      have hB2 : (([] : List Coh).length + l.length) * 40 ≤ 140737488355328 := by simp; omega
      go_wp2_with (at_builtin; refine Hid.out (?_ : Hid _))
      show wpList _ _ _ _ _ _
      refine wpList_app_sl (T := tLo tCoh (fun _ => True)) rfl _ _ rfl Tryd.underlying29 hi hz0 hz1 hz2 rfl rfl hE rfl hlx hfr hB1 hB2 (Nat.zero_le _) ?_
      intro V8 w4 hA8 hg8 hat8
      rw [List.nil_append] at hA8
      have hb34 : Bw w3 w4 := Acc.bw (bw_refl_al w3 _) hg8 (fun g e => by have e2 : some w3.heap.size = some g := e; injection e2 with e2; omega) (Nat.le_refl _)
      have hown8 : ∀ g, V8.ownBlock = some g → w3.heap.size ≤ g := fun g e => by
        rcases hat8 with h | h
        · rw [h] at e; have e2 : some w3.heap.size = some g := e; injection e2 with e2; omega
        · rw [h] at e; injection e with e; rw [sz_alloc] at e; omega
      clear hE hlx hfr
      go_wp2_with fail
      go_loopw [9] (fun i wr => ∃ (k : Nat) (now : List Coh), k ≤ st.length ∧ i = .int .i64 k ∧ Bw w3 wr ∧ Acc (tLo tCoh (fun _ => True)) 37 wr 0 V8 now ∧ now.length = l.length ∧ validL nameB now = true ∧ Hid (replay rules (st.drop k) now = some out)) (fun i _ => st.length - (intOf i).toNat)
      case atStart => exact ⟨0, l, Nat.zero_le _, rfl, hb34, hA8, rfl, Hv.out.2, hrep⟩
      case round =>
        obtain ⟨k, now, hk, rfl, hbr, hA, hlen0, hval, hrp⟩ := hrel
        have hlen := Lib.hid hlen0
        have hnl : now.length ≤ 9223372036854775807 := by omega
        clear hlen0
        obtain ⟨A8, c8, rfl, _, _⟩ := hA.form
        by_cases hlt : k < st.length
        · have hbw4 := hbw3.then hbr
          obtain ⟨bs, os, x, rfl, hx, hx1, hx2, hx3, y0, y1, y2⟩ := (hst.rd.after hbr).stp hlt
          have hd : st.drop k = x :: st.drop (k + 1) := by
            obtain ⟨h1, h2⟩ := List.getElem?_eq_some_iff.1 hx.out
            rw [List.drop_eq_getElem_cons h1, h2]
          have hrp2 := hrp.out
          rw [hd] at hrp2
          obtain ⟨a, j, r, y, e1, e2, hra, hy, e3, hless, hrp3⟩ := replay_cons hrp2
          obtain ⟨x1', x2', x3'⟩ := x
          simp only at e1 e2 e3 hx1 hx2 hx3 y0 y1 y2
          subst e1; subst e2; subst e3
          obtain ⟨ha, _⟩ := List.getElem?_eq_some_iff.1 hra
          obtain ⟨hj, _⟩ := List.getElem?_eq_some_iff.1 hy
          clear hrp hrp2 hd
          have Hrp := Lib.hid hrp3
          clear hrp3
          obtain ⟨rb, roff, r', ru1, ru2, rfl, hrr, hri, hr1, hr2, ra0, ra1, ra2, ra3⟩ := (hr.after hbw4).rul ha
          obtain rfl : r = r' := by have := hrr.out; rw [hra] at this; injection this
          have hvr1 : validR nameB r = true := by have h := Hv.out.1; unfold validRs at h; simp only [Bool.and_eq_true] at h; exact List.all_eq_true.1 h.2 r (List.mem_of_getElem? hra)
          obtain ⟨g, cap, hV4, _, hgf⟩ := acc_first hA (by have := hlen.out; omega)
          injection hV4 with hV4 _ hcap
          subst hV4; subst hcap
          have hgb := hown8 g rfl
          have hsl4 := hA.sl.unlo
          obtain ⟨bb, off, y', uy, hA', hy', hys, hyr, z0, z1⟩ := hsl4.coh (k := j) (by omega)
          injection hA' with hA'
          injection hA' with hA1 hA2
          subst hA1; subst hA2
          obtain rfl : y = y' := by have := hy'.out; rw [hy] at this; injection this
          obtain ⟨A6, c6, rfl, _, _⟩ := hyr.form
          rw [Nat.zero_add] at z0 z1
          have hys' : (chg r now j).1.size ≤ maxLen := by rw [chg_form hy]; exact hys
          have Hvs : Hid (validL nameB (now.set j (chg r now j)) = true) := Lib.hid (validL_set hval hy (chg_form hy) (chg_sub hy))
          obtain ⟨R1, q1, rfl, _, _⟩ := hr1.form
          obtain ⟨R2, q2, rfl, _, _⟩ := hr2.form
          have hg := stp_good hvr1 hval hy
          rw [decide_eq_true hless] at hg
          have Hg := Lib.hid hg
          have hless' : ¬ y.2.length ≤ (chg r now j).2.length := by omega
          have hless2 : ¬ (y.2.length : Int) ≤ ((chg r now j).2.length : Int) := by omega
          clear hg hless hy' hra hrr hx
          generalize chg r now j = z at *
          obtain ⟨zf, zr⟩ := z
          simp only at *
          have hi1 : (k : Int) < st.length := by omega
          have hi2 : (a : Int) < rules.length := by omega
          have hi3 : (j : Int) < now.length := by omega
          have hi4 : ¬ (rules.length : Int) ≤ a := by omega
          have hi5 : ¬ (now.length : Int) ≤ j := by omega
          clear hat8 hg8 hA8
          go_wp2_with fail
          obtain ⟨W4, hW4⟩ : ∃ W4, W4 = wr.alloc (.cells #[.int .i64 a, .int .i64 j, .int .i64 zr.length] 52) := ⟨_, rfl⟩
          have hb4 : Bw wr W4 := by rw [hW4]; exact bw_refl_al _ _
          have row10 : W4.heap[wr.heap.size]? = some (.cells #[.int .i64 a, .int .i64 j, .int .i64 zr.length] 52) := by rw [hW4]; exact at_new rfl
          rw [← hW4]
          clear hW4
          have K : ∀ w', Bw W4 w' → (w'.cell? ⟨wr.heap.size, 0, none⟩ = some (.int .i64 a) ∧ w'.cell? ⟨wr.heap.size, 1, none⟩ = some (.int .i64 j)) ∧ w'.cell? ⟨rb, roff + a * 4, none⟩ = some (.int .i64 r.op) ∧ w'.cell? ⟨rb, roff + a * 4 + 1, none⟩ = some (.slice R1 r.target.length q1) ∧ w'.cell? ⟨rb, roff + a * 4 + 2, none⟩ = some (.slice R2 r.tests.length q2) ∧ w'.cell? ⟨rb, roff + a * 4 + 3, none⟩ = some (.bool r.wild) := fun w' kk => ⟨⟨bw_cell kk (row3_0 row10), bw_cell kk (row3_1 row10)⟩, bw_cell (hb4.then kk) ra0, bw_cell (hb4.then kk) ra1, bw_cell (hb4.then kk) ra2, bw_cell (hb4.then kk) ra3⟩
          have HX := Lib.hid (fun (W : World) (kk : Bw W4 W) => step_any (r := r) (i := j) (hT.after ((hbw4.then hb4).then kk)) (hr1.rd.after (hb4.then kk)) (hr2.rd.after (hb4.then kk)) (hsl4.rd.after (hb4.then kk)))
          rw [Hg.out] at HX
          clear hr1 hr2 hsl4 hyr
          go_region_held3 (fun w' => (w'.cell? ⟨wr.heap.size, 0, none⟩ = some (.int .i64 a) ∧ w'.cell? ⟨wr.heap.size, 1, none⟩ = some (.int .i64 j)) ∧ w'.cell? ⟨rb, roff + a * 4, none⟩ = some (.int .i64 r.op) ∧ w'.cell? ⟨rb, roff + a * 4 + 1, none⟩ = some (.slice R1 r.target.length q1) ∧ w'.cell? ⟨rb, roff + a * 4 + 2, none⟩ = some (.slice R2 r.tests.length q2) ∧ w'.cell? ⟨rb, roff + a * 4 + 3, none⟩ = some (.bool r.wild)) (exact K _ (by (repeat' first | with_reducible exact Below.refl _ _ | with_reducible assumption | with_reducible refine Bw.drew ?_ | with_reducible refine Bw.drewN ?_ _ | with_reducible refine bw_al ?_ _ | with_reducible refine bw_grown ?_ (set_grown _ _ _ _) (Nat.le_refl _) | with_reducible refine Bw.then ?_ (by with_reducible assumption))))
            ((go_at_call 18; (with_reducible refine (HX.out _ (by (repeat' first | with_reducible exact Below.refl _ _ | with_reducible assumption | with_reducible refine Bw.drew ?_ | with_reducible refine Bw.drewN ?_ _ | with_reducible refine bw_al ?_ _ | with_reducible refine bw_grown ?_ (set_grown _ _ _ _) (Nat.le_refl _) | with_reducible refine Bw.then ?_ (by with_reducible assumption)))).mono ?_); intro e w5 hq5; obtain ⟨u5, rfl, hb5, hu5⟩ := hq5; obtain ⟨U5, d5, rfl, _, _⟩ := hu5.form; try (have rz : w5.heap[W4.heap.size]? = some (.cells #[.string ⟨#[]⟩, .slice none 0 0] 37) := row_bw hb5 (show (W4.alloc _).heap[W4.heap.size]? = _ from at_new rfl); have cz0 := row2_0 rz; have cz1 := row2_1 rz; have cf0 := frozen_of_cells (i := 0) rz; have cf1 := frozen_of_cells (i := 1) rz)))
          · skip
            obtain ⟨WZ, hWZ⟩ : ∃ WZ, WZ = w5.alloc (.cells #[.string zf, .slice U5 zr.length d5] 37) := ⟨_, rfl⟩
            have hb4Z : Bw W4 WZ := by rw [hWZ]; exact (by (repeat' first | with_reducible exact Below.refl _ _ | with_reducible assumption | with_reducible refine Bw.drew ?_ | with_reducible refine Bw.drewN ?_ _ | with_reducible refine bw_al ?_ _ | with_reducible refine bw_grown ?_ (set_grown _ _ _ _) (Nat.le_refl _) | with_reducible refine Bw.then ?_ (by with_reducible assumption)))
            have rowc : WZ.heap[w5.heap.size]? = some (.cells #[.string zf, .slice U5 zr.length d5] 37) := by rw [hWZ]; exact at_new rfl
            rw [← hWZ]
            have hgw : g < wr.heap.size := World.block_lt_of_cell? wr _ z0
            have hw4s := hb4.size
            have hus : Sl tRdg WZ (fun b => (0 ≤ b ∧ b ≠ g) ∧ True) (.slice U5 zr.length d5) zr := by rw [hWZ]; exact hu5.lt.keep fun b hb => ⟨⟨⟨Nat.zero_le _, by have h : W4.heap.size ≤ b := hb.1; omega⟩, trivial⟩, at_old_eq hb.2⟩
            clear hWZ
            have hbZ : Bw wr WZ := hb4.then hb4Z
            have m0 := row2_0 rowc
            have m1 := row2_1 rowc
            have n1 := bw_cell hb4Z (row3_1 row10)
            have n2 := bw_cell hb4Z (row3_2 row10)
            have z0' := bw_cell hbZ z0
            have z1' := bw_cell hbZ z1
            have kf0 := (frozen_bw hbZ z0).trans (hgf _)
            have kf1 := (frozen_bw hbZ z1).trans (hgf _)
            go_wp2_with fail
            go_quiet (fail)
            go_wp2_with fail
            have hset := acc_setC ((hA.after hbZ).dn nq) (j := j) hj hys' (hus.drewN nq)
            exact ⟨⟨k + 1, now.set j (zf, zr), hlt, by go_num, bw_grown ((hbr.then hbZ).drewN nq) hset.2 hgb, hset.1, by rw [List.length_set]; exact hlen.out, Hvs.out, Hrp⟩, by simp [intOf]; omega⟩
          · skip
            obtain ⟨WZ, hWZ⟩ : ∃ WZ, WZ = (w5.setCell ⟨W4.heap.size, 0, none⟩ (.string zf)).setCell ⟨W4.heap.size, 1, none⟩ (.slice U5 zr.length d5) := ⟨_, rfl⟩
            have hb4Z : Bw W4 WZ := by rw [hWZ]; exact (by (repeat' first | with_reducible exact Below.refl _ _ | with_reducible assumption | with_reducible refine Bw.drew ?_ | with_reducible refine Bw.drewN ?_ _ | with_reducible refine bw_al ?_ _ | with_reducible refine bw_grown ?_ (set_grown _ _ _ _) (Nat.le_refl _) | with_reducible refine Bw.then ?_ (by with_reducible assumption)))
            have rowc : WZ.heap[W4.heap.size]? = some (.cells #[.string zf, .slice U5 zr.length d5] 37) := by rw [hWZ]; rw [heap_setCell_same _ W4.heap.size 1 _ _ _ (heap_setCell_same _ W4.heap.size 0 _ _ _ rz)]; rfl
            rw [← hWZ]
            have hgw : g < wr.heap.size := World.block_lt_of_cell? wr _ z0
            have hw4s := hb4.size
            have hus : Sl tRdg WZ (fun b => (0 ≤ b ∧ b ≠ g) ∧ True) (.slice U5 zr.length d5) zr := by rw [hWZ]; exact hu5.lt.keep fun b hb => (by have h : W4.heap.size + 1 ≤ b := Nat.le_trans (Nat.le_of_eq (sz_alloc W4 (.cells #[.string ⟨#[]⟩, .slice none 0 0] 37)).symm) hb.1; exact ⟨⟨⟨Nat.zero_le _, by omega⟩, trivial⟩, (set_old (by omega)).trans (set_old (by omega))⟩)
            clear hWZ
            have hbZ : Bw wr WZ := hb4.then hb4Z
            have m0 := row2_0 rowc
            have m1 := row2_1 rowc
            have n1 := bw_cell hb4Z (row3_1 row10)
            have n2 := bw_cell hb4Z (row3_2 row10)
            have z0' := bw_cell hbZ z0
            have z1' := bw_cell hbZ z1
            have kf0 := (frozen_bw hbZ z0).trans (hgf _)
            have kf1 := (frozen_bw hbZ z1).trans (hgf _)
            go_wp2_with fail
            go_quiet (fail)
            go_wp2_with fail
            have hset := acc_setC ((hA.after hbZ).dn nq) (j := j) hj hys' (hus.drewN nq)
            exact ⟨⟨k + 1, now.set j (zf, zr), hlt, by go_num, bw_grown ((hbr.then hbZ).drewN nq) hset.2 hgb, hset.1, by rw [List.length_set]; exact hlen.out, Hvs.out, Hrp⟩, by simp [intOf]; omega⟩
        · have hk2 : k = st.length := by omega
          subst hk2
          have hq := hrp.out
          rw [List.drop_length] at hq
          obtain rfl : now = out := by unfold replay at hq; injection hq
          have hS : same now now = true := by simp [same]
          have HS := Lib.hid (val_of (congrArg Value.bool hS) (same_any hA.sl.unlo.rd (hu.rd.after hbr)))
          have hbw4 := hbw3.then hbr
          go_wp2_with fail
          with_reducible refine HS.out.mono ?_
          rintro e w5 ⟨rfl, hb5⟩
          have hbw5 := hbw4.then hb5
          go_wp2_with fail
          refine (example_any (hT.after hbw5)).mono ?_
          rintro e wE ⟨rfl, hbE⟩
          go_wp2_with fail
          go_ret
          exact ⟨rfl, hbw5.then hbE⟩
    · skip
      go_wp2_with fail
      refine (example_any (hT.after hbw)).mono ?_
      rintro e wE ⟨rfl, hbE⟩
      go_wp2_with fail
      go_ret
      exact ⟨rfl, hbw.then hbE⟩
  · have hbw := hb1
    go_wp2_with fail
    refine (example_any (hT.after hbw)).mono ?_
    rintro e wE ⟨rfl, hbE⟩
    go_wp2_with fail
    go_ret
    exact ⟨rfl, hbw.then hbE⟩
end Go.Proofs.YthecmbmidoagaaaDoor

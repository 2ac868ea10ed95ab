/- The contract of the reference's 'changed'. Conditions: what the arguments read as; a place that there is; tests within their bounds; bounds on lengths. -/
import Derived.Test.YthecmbmidoagaaaDoorCF
import Derived.Test.YthecmbmidoagaaaDoorC8d
namespace Go.Proofs.YthecmbmidoagaaaDoor
open Go.RowKit Go.Maps
open Pl

theorem Sl.after' {α : Type} {T : Ty α} {w w' : World} {D : Nat → Prop} {v : Value} {xs : List α} (h : Sl T w (fun b => D b ∧ b < w.heap.size) v xs) (hb : Bw w w') : Sl T w' (fun b => D b ∧ b < w.heap.size) v xs := h.below hb (fun _ hb => hb.2)

set_option maxRecDepth 100000 in
set_option maxHeartbeats 16000000 in
theorem rchanged_any {u1 u2 v : Value} {r : Rul} {l : List Coh} {k : Nat} {y : Coh} {w : World} (h1 : Rd tStr w u1 r.target) (h2 : Rd tTst w u2 r.tests) (hl : Rd tCoh w v l) (hy : l[k]? = some y) (hop : r.op = 1 ∨ r.op = 2)
    (ha : ∀ t ∈ r.tests, -99 ≤ t.at' ∧ t.at' ≤ 99) (hm : l.length ≤ 200) (hs : SmallR y.2) :
    Calls Tryd.prog 42 #[.agg #[.int .i64 r.op, u1, u2, .bool r.wild], v, .int .i64 k] w fun e w' => ∃ u', e = .returned (.agg #[.string y.1, u']) ∧ Bw w w' ∧ Sl tRdg w' (Hi w.heap.size) u' (chg r l k).2 := by
  obtain ⟨op, target, tests, wild⟩ := r
  simp only at *
  have hkl : k < l.length := (List.getElem?_eq_some_iff.1 hy).1
  obtain ⟨A, c, rfl, _, _⟩ := hl.form
  obtain ⟨U1, d1, rfl, _, _⟩ := h1.form
  obtain ⟨U2, d2, rfl, _, _⟩ := h2.form
  have htm := h2.len_le
  obtain ⟨bb, off, y', uy, rfl, hy', _, hyr, e0, e1⟩ := hl.coh hkl
  rw [hy] at hy'
  obtain rfl : y = y' := by have := hy'.out; injection this
  obtain ⟨fm, rs⟩ := y
  simp only at *
  obtain ⟨UY, dy, rfl, _, _⟩ := hyr.form
  obtain ⟨i0, hi, hz0, hz1, hz2⟩ := info_parts infoR
  have hkl' : (k : Int) < l.length := by omega
  have Hv : Hid ((chg ⟨op, target, tests, wild⟩ l k).2 = if tests.all fun t => holdB t l k then leftB ⟨op, target, tests, wild⟩ rs else rs) := by
    show _ = _
    rw [chg_of hy]; split <;> rfl
  have HL : Hid (leftB ⟨op, target, tests, wild⟩ rs = if (decide (op = 1) && decide (cnt rs target = 0)) || (decide (op = 2) && decide (cnt rs target = rs.length) && !wild) then rs else rs.filter fun x => hasB x target == decide (op = 1)) := rfl
  generalize (chg ⟨op, target, tests, wild⟩ l k).2 = R at *
  generalize leftB ⟨op, target, tests, wild⟩ rs = LB at *
  obtain ⟨W2, hW2⟩ : ∃ W2, W2 = ((w.alloc (.cells #[.int .i64 op, .slice U1 target.length d1, .slice U2 tests.length d2, .bool wild] 34)).alloc (.cells #[.string ⟨#[]⟩, .slice none 0 0] 37)) := ⟨_, rfl⟩
  have hb2 : Bw w W2 := by rw [hW2]; exact bw_al (bw_refl_al w _) _
  have hsz2 : W2.heap.size = w.heap.size + 2 := by rw [hW2]; simp
  have r0 : W2.heap[w.heap.size]? = some (.cells #[.int .i64 op, .slice U1 target.length d1, .slice U2 tests.length d2, .bool wild] 34) := by rw [hW2]; exact at_old (at_new rfl)
  have r3 : W2.heap[w.heap.size + 1]? = some (.cells #[.string ⟨#[]⟩, .slice none 0 0] 37) := by rw [hW2]; exact at_new (by simp)
  have HC := Lib.hid (rclone_any (fm := fm) (hyr.rd.after hb2) hs)
  have R0 := Lib.hid r0
  have R3 := Lib.hid r3
  have hs500 := hs.1
  have e0' := bw_cell hb2 e0
  have e1' := bw_cell hb2 e1
  have q0 := row4_0 r0
  have q1 := row4_1 r0
  have q2 := row4_2 r0
  have q3 := row4_3 r0
  clear r0 r3 hyr hy hy' hs
  rw [hW2] at e0' e1' HC
  go_enter Tryd.func42, Tryd.ntmps42
  go_wp2_with fail
  refine HC.out.mono ?_
  rintro e w1 ⟨uc, rfl, hb1, hacc⟩
  rw [← hW2] at hb1 hacc
  clear e0' e1' HC hW2
  obtain ⟨PA, cA, rfl, _, _⟩ := hacc.form
  have s1 := hb1.size
  have hown1 := hacc.own
  go_wp2_with fail
  obtain ⟨W5, hW5⟩ : ∃ W5, W5 = w1.alloc (.cells #[.string fm, .slice PA rs.length cA] 37) := ⟨_, rfl⟩
  have hb5' : Bw w1 W5 := by rw [hW5]; exact bw_refl_al _ _
  have hb5 : Bw W2 W5 := hb1.then hb5'
  have s5 : W5.heap.size = w1.heap.size + 1 := by rw [hW5]; simp
  have Bc : Hid (W5.heap[w1.heap.size]? = some (.cells #[.string fm, .slice PA rs.length cA] 37)) := by show _ = _; rw [hW5]; exact at_new rfl
  have hbW := hb2.then hb5
  rw [← hW5]
  go_loopw [8] (fun i wr => ∃ j : Nat, j ≤ tests.length ∧ i = .int .i64 j ∧ Bw W5 wr ∧ Hid (((tests.take j).all fun t => holdB t l k) = true)) (fun i _ => tests.length - (intOf i).toNat)
  case atStart => exact ⟨0, Nat.zero_le _, rfl, Below.refl _ _, Lib.hid rfl⟩
  case round =>
    obtain ⟨j, hj, rfl, hb', hall⟩ := hrel
    have d2' := bw_cell (hb5.then hb') q2
    by_cases hlt : j < tests.length
    · have hlt' : (j : Int) < tests.length := by omega
      obtain ⟨tb, toff, x, ux1, ux2, rfl, hx, hxi, hx1, hx2, x0, x1, x2, x3, x4, x5⟩ := ((h2.after hbW).after hb').tst hlt
      obtain ⟨X1, f1, rfl, _, _⟩ := hx1.form
      obtain ⟨X2, f2, rfl, _, _⟩ := hx2.form
      have hmem := List.mem_of_getElem? hx.out
      have HA := Lib.hid (fun (W : World) (kk : Bw wr W) => rcond_any (t := x) (i := k) (hx1.rd.after kk) (hx2.rd.after kk) (hl.after ((hbW.then hb').then kk)) ⟨by omega, hkl'⟩ (ha x hmem) hm)
      have hsn : Hid (((tests.take (j + 1)).all fun t => holdB t l k) = (((tests.take j).all fun t => holdB t l k) && holdB x l k)) := by show _ = _; rw [List.take_add_one, hx.out]; simp
      have hh : Hid (holdB x l k = (condB x l k != x.neg)) := rfl
      have K : ∀ w', Bw wr w' → w'.cell? ⟨w.heap.size, 2, none⟩ = some (.slice (some ⟨tb, toff, none⟩) tests.length d2) ∧ w'.cell? ⟨tb, toff + j * 6, none⟩ = some (.int .i64 x.at') ∧ w'.cell? ⟨tb, toff + j * 6 + 1, none⟩ = some (.bool x.scan) ∧ w'.cell? ⟨tb, toff + j * 6 + 2, none⟩ = some (.bool x.neg) ∧ w'.cell? ⟨tb, toff + j * 6 + 3, none⟩ = some (.bool x.care) ∧ w'.cell? ⟨tb, toff + j * 6 + 4, none⟩ = some (.slice X1 x.tags.length f1) ∧ w'.cell? ⟨tb, toff + j * 6 + 5, none⟩ = some (.slice X2 x.bar.length f2) := fun w' kk => ⟨bw_cell kk d2', bw_cell kk x0, bw_cell kk x1, bw_cell kk x2, bw_cell kk x3, bw_cell kk x4, bw_cell kk x5⟩
      by_cases q : condB x l k = x.neg
      · have HR : Hid (R = rs) := by
          show _ = _
          rw [Hv.out, if_neg]
          intro h
          have := List.all_eq_true.1 h x hmem
          rw [hh.out, q] at this
          simp at this
        rw [q] at HA
        clear q hh hsn
        have hqq : (x.neg == x.neg) = true := by simp
        go_wp2_with fail
        go_region_held3 (fun w' => w'.cell? ⟨w.heap.size, 2, none⟩ = some (.slice (some ⟨tb, toff, none⟩) tests.length d2) ∧ w'.cell? ⟨tb, toff + j * 6, none⟩ = some (.int .i64 x.at') ∧ w'.cell? ⟨tb, toff + j * 6 + 1, none⟩ = some (.bool x.scan) ∧ w'.cell? ⟨tb, toff + j * 6 + 2, none⟩ = some (.bool x.neg) ∧ w'.cell? ⟨tb, toff + j * 6 + 3, none⟩ = some (.bool x.care) ∧ w'.cell? ⟨tb, toff + j * 6 + 4, none⟩ = some (.slice X1 x.tags.length f1) ∧ w'.cell? ⟨tb, toff + j * 6 + 5, none⟩ = some (.slice X2 x.bar.length f2)) (exact K _ (by (repeat' first | with_reducible exact Below.refl _ _ | with_reducible assumption | with_reducible refine Bw.drew ?_ | with_reducible refine Bw.drewN ?_ _ | with_reducible refine bw_al ?_ _ | with_reducible refine Bw.then ?_ (by with_reducible assumption))))
          ((go_at_call 39; (with_reducible refine (HA.out _ (by (repeat' first | with_reducible exact Below.refl _ _ | with_reducible assumption | with_reducible refine Bw.drew ?_ | with_reducible refine Bw.drewN ?_ _ | with_reducible refine bw_al ?_ _ | with_reducible refine Bw.then ?_ (by with_reducible assumption)))).mono ?_); rintro e wA ⟨rfl, hbA⟩))
        have hbN : Bw W5 wA := (by (repeat' first | with_reducible exact Below.refl _ _ | with_reducible assumption | with_reducible refine Bw.drew ?_ | with_reducible refine Bw.drewN ?_ _ | with_reducible refine bw_al ?_ _ | with_reducible refine Bw.then ?_ (by with_reducible assumption)))
        have R32 := row_bw (hb5.then hbN) R3.out
        have Bcr := row_bw hbN Bc.out
        have b0 := row2_0 Bcr
        have b1 := row2_1 Bcr
        have d30 := row2_0 R32
        have d31 := row2_1 R32
        have d3f := frozen_of_cells (i := 0) R32
        have d3g := frozen_of_cells (i := 1) R32
        clear R32 Bcr
        go_wp2_with fail
        obtain ⟨f1, f2, f3, f4⟩ := chg_fin (b := fm) (hb2.then (hb5.then hbN)) (row_bw (hb5.then hbN) R3.out) (by omega) ((hacc.after hb5').after hbN) (by omega) rfl
        refine bodyPost_ret (v := .agg #[.string fm, .slice PA rs.length cA]) (by simp [results, Tryd.f42, go_sem, f3, f4]) rfl ⟨_, rfl, f1, by rw [HR.out]; exact f2⟩
      · have Hn : Hid (((tests.take (j + 1)).all fun t => holdB t l k) = true) := by
          show _ = _
          rw [hsn.out, hall.out, hh.out]
          simpa using q
        have hqq : (condB x l k == x.neg) = false := by simpa using q
        clear q hh hsn
        generalize condB x l k = q at *
        go_wp2_with fail
        go_region_held3 (fun w' => w'.cell? ⟨w.heap.size, 2, none⟩ = some (.slice (some ⟨tb, toff, none⟩) tests.length d2) ∧ w'.cell? ⟨tb, toff + j * 6, none⟩ = some (.int .i64 x.at') ∧ w'.cell? ⟨tb, toff + j * 6 + 1, none⟩ = some (.bool x.scan) ∧ w'.cell? ⟨tb, toff + j * 6 + 2, none⟩ = some (.bool x.neg) ∧ w'.cell? ⟨tb, toff + j * 6 + 3, none⟩ = some (.bool x.care) ∧ w'.cell? ⟨tb, toff + j * 6 + 4, none⟩ = some (.slice X1 x.tags.length f1) ∧ w'.cell? ⟨tb, toff + j * 6 + 5, none⟩ = some (.slice X2 x.bar.length f2)) (exact K _ (by (repeat' first | with_reducible exact Below.refl _ _ | with_reducible assumption | with_reducible refine Bw.drew ?_ | with_reducible refine Bw.drewN ?_ _ | with_reducible refine bw_al ?_ _ | with_reducible refine Bw.then ?_ (by with_reducible assumption))))
          ((go_at_call 39; (with_reducible refine (HA.out _ (by (repeat' first | with_reducible exact Below.refl _ _ | with_reducible assumption | with_reducible refine Bw.drew ?_ | with_reducible refine Bw.drewN ?_ _ | with_reducible refine bw_al ?_ _ | with_reducible refine Bw.then ?_ (by with_reducible assumption)))).mono ?_); rintro e wA ⟨rfl, hbA⟩))
        have hbN : Bw W5 wA := (by (repeat' first | with_reducible exact Below.refl _ _ | with_reducible assumption | with_reducible refine Bw.drew ?_ | with_reducible refine Bw.drewN ?_ _ | with_reducible refine bw_al ?_ _ | with_reducible refine Bw.then ?_ (by with_reducible assumption)))
        go_wp2_with fail
        exact ⟨⟨j + 1, hlt, by go_num, hbN, Hn⟩, by simp [intOf]; omega⟩
    · have hj2 : j = tests.length := by omega
      subst hj2
      have Hv2 : Hid (R = LB) := by
        show _ = _
        rw [Hv.out, if_pos]
        have := hall.out
        rwa [List.take_length] at this
      clear Hv hall
      have hsl := hacc.sl
      have HN := Lib.hid (count_any (fm := fm) ((hsl.rd.after hb5').after hb') (h1.after (hbW.then hb')))
      have b0 := row2_0 (row_bw hb' Bc.out)
      have b1 := row2_1 (row_bw hb' Bc.out)
      have d1' := bw_cell (hb5.then hb') q1
      go_wp2_with fail
      refine HN.out.mono ?_
      rintro e w6 ⟨rfl, hb6⟩
      have hb'' := hb'.then hb6
      clear b0 b1 d1' d2' HN hb'
      have hb' := hb''
      clear hb''
      have b1 := row2_1 (row_bw hb' Bc.out)
      have d0 := bw_cell (hb5.then hb') q0
      have d3 := bw_cell (hb5.then hb') q3
      have hcl := cnt_le rs target
      rcases hop with rfl | rfl
      · by_cases h0 : cnt rs target = 0
        · have HR : Hid (R = rs) := by show _ = _; rw [Hv2.out, HL.out, h0]; simp
          have hc0 : ((cnt rs target : Int) == 0) = true := by rw [h0]; rfl
          clear Hv2 HL h0
          have Hb1 := Lib.hid b1
          have R32 := row_bw (hb5.then hb') R3.out
          have Bcr := row_bw hb' Bc.out
          have b0 := row2_0 Bcr
          have b1 := row2_1 Bcr
          have d30 := row2_0 R32
          have d31 := row2_1 R32
          have d3f := frozen_of_cells (i := 0) R32
          have d3g := frozen_of_cells (i := 1) R32
          clear R32 Bcr
          go_wp2_with fail
          obtain ⟨f1, f2, f3, f4⟩ := chg_fin (b := fm) (hb2.then (hb5.then hb')) (row_bw (hb5.then hb') R3.out) (by omega) ((hacc.after hb5').after hb') (by omega) rfl
          refine bodyPost_ret (v := .agg #[.string fm, .slice PA rs.length cA]) (by simp [results, Tryd.f42, go_sem, f3, f4]) rfl ⟨_, rfl, f1, by rw [HR.out]; exact f2⟩
        · have HR : Hid (R = rs.filter (fun x => hasB x target)) := by show _ = _; rw [Hv2.out, HL.out, decide_eq_false h0]; simp
          have hc0 : ((cnt rs target : Int) == 0) = false := by simpa using h0
          clear Hv2 HL h0
          go_wp2_with fail
          go_loopw [10, 11] (fun v10 i wr => ∃ j : Nat, j ≤ rs.length ∧ i = .int .i64 j ∧ Bw W5 wr ∧ Acc (tLo tRdg (Lo w1.heap.size)) 24 wr W2.heap.size v10 ((rs.take j).filter (fun x => hasB x target)) ∧ (∀ g, v10.ownBlock = some g → W5.heap.size ≤ g)) (fun _ i _ => rs.length - (intOf i).toNat)
          case atStart => exact ⟨0, Nat.zero_le _, rfl, hb', Acc.nil _ _, fun g e => by cases e⟩
          case round =>
            clear hb' b1 d0 d3
            obtain ⟨j, hj, rfl, hb', hac, hown⟩ := hrel
            obtain ⟨V1, n1, c1, rfl, _, _, _⟩ := hac.sl.form'
            have Bcr := row_bw hb' Bc.out
            have b0 := row2_0 Bcr
            have b1 := row2_1 Bcr
            by_cases hlt : j < rs.length
            · have hlt' : (j : Int) < rs.length := by omega
              obtain ⟨pb, poff, x, ux, rfl, hx, hxr, hc⟩ := lookD (((hsl.after' hb5').below hb' (fun b hb => by have := hb.2; omega))) hlt
              obtain ⟨u', e, hyu⟩ := rep_rdg hxr
              injection e with e; subst e
              obtain ⟨Y1, g1, rfl, _, _⟩ := hyu.form
              have hsnoc : Hid ((rs.take (j + 1)).filter (fun x => hasB x target) = (rs.take j).filter (fun x => hasB x target) ++ (if (fun x => hasB x target) x then [x] else [])) := by show _ = _; rw [List.take_add_one, hx.out]; simp [List.filter_append, List.filter_cons]
              cases q : hasB x target
              · skip
                have HA := Lib.hid (fun (W : World) (kk : Bw wr W) => rhas_any (hyu.rd.after kk) (h1.after ((hbW.then hb').then kk)))
                have Hq : Hid (hasB x target = false) := Lib.hid q
                simp only [q] at HA
                have K : ∀ w', Bw wr w' → w'.cell? ⟨w1.heap.size, 1, none⟩ = some (.slice (some ⟨pb, poff, none⟩) rs.length cA) ∧ w'.cell? ⟨pb, poff + j, none⟩ = some (.slice Y1 x.length g1) ∧ w'.cell? ⟨w.heap.size, 0, none⟩ = some (.int .i64 1) ∧ w'.cell? ⟨w.heap.size, 1, none⟩ = some (.slice U1 target.length d1) := fun w' kk => ⟨bw_cell kk b1, bw_cell kk hc, bw_cell kk (bw_cell (hb5.then hb') q0), bw_cell kk (bw_cell (hb5.then hb') q1)⟩
                have hsn2 : Hid ((rs.take (j + 1)).filter (fun x => hasB x target) = (rs.take j).filter (fun x => hasB x target) ++ []) := by show _ = _; rw [hsnoc.out]; simp [q]
                clear q
                go_wp2_with fail
                go_region_held3 (fun w' => w'.cell? ⟨w1.heap.size, 1, none⟩ = some (.slice (some ⟨pb, poff, none⟩) rs.length cA) ∧ w'.cell? ⟨pb, poff + j, none⟩ = some (.slice Y1 x.length g1) ∧ w'.cell? ⟨w.heap.size, 0, none⟩ = some (.int .i64 1) ∧ w'.cell? ⟨w.heap.size, 1, none⟩ = some (.slice U1 target.length d1)) (exact K _ (by (repeat' first | with_reducible exact Below.refl _ _ | with_reducible assumption | with_reducible refine Bw.drew ?_ | with_reducible refine Bw.drewN ?_ _ | with_reducible refine bw_al ?_ _ | with_reducible refine Bw.then ?_ (by with_reducible assumption))))
                  ((go_at_call 14; (with_reducible refine (HA.out _ (by (repeat' first | with_reducible exact Below.refl _ _ | with_reducible assumption | with_reducible refine Bw.drew ?_ | with_reducible refine Bw.drewN ?_ _ | with_reducible refine bw_al ?_ _ | with_reducible refine Bw.then ?_ (by with_reducible assumption)))).mono ?_); rintro e wA ⟨rfl, hbA⟩))
                have hbN : Bw wr wA := (by (repeat' first | with_reducible exact Below.refl _ _ | with_reducible assumption | with_reducible refine Bw.drew ?_ | with_reducible refine Bw.drewN ?_ _ | with_reducible refine bw_al ?_ _ | with_reducible refine Bw.then ?_ (by with_reducible assumption)))
                have b1' := bw_cell hbN b1
                have hc' := bw_cell hbN hc
                go_wp2_with fail
                exact ⟨⟨j + 1, hlt, by go_num, hb'.then hbN, by rw [hsn2.out, List.append_nil]; exact hac.after hbN, hown⟩, by simp [intOf]; omega⟩
              · skip
                have HA := Lib.hid (fun (W : World) (kk : Bw wr W) => rhas_any (hyu.rd.after kk) (h1.after ((hbW.then hb').then kk)))
                have Hq : Hid (hasB x target = true) := Lib.hid q
                simp only [q] at HA
                have K : ∀ w', Bw wr w' → w'.cell? ⟨w1.heap.size, 1, none⟩ = some (.slice (some ⟨pb, poff, none⟩) rs.length cA) ∧ w'.cell? ⟨pb, poff + j, none⟩ = some (.slice Y1 x.length g1) ∧ w'.cell? ⟨w.heap.size, 0, none⟩ = some (.int .i64 1) ∧ w'.cell? ⟨w.heap.size, 1, none⟩ = some (.slice U1 target.length d1) := fun w' kk => ⟨bw_cell kk b1, bw_cell kk hc, bw_cell kk (bw_cell (hb5.then hb') q0), bw_cell kk (bw_cell (hb5.then hb') q1)⟩
                have hsn2 : Hid ((rs.take (j + 1)).filter (fun x => hasB x target) = (rs.take j).filter (fun x => hasB x target) ++ [x]) := by show _ = _; rw [hsnoc.out]; simp [q]
                clear q
                go_wp2_with fail
                go_region_held3 (fun w' => w'.cell? ⟨w1.heap.size, 1, none⟩ = some (.slice (some ⟨pb, poff, none⟩) rs.length cA) ∧ w'.cell? ⟨pb, poff + j, none⟩ = some (.slice Y1 x.length g1) ∧ w'.cell? ⟨w.heap.size, 0, none⟩ = some (.int .i64 1) ∧ w'.cell? ⟨w.heap.size, 1, none⟩ = some (.slice U1 target.length d1)) (exact K _ (by (repeat' first | with_reducible exact Below.refl _ _ | with_reducible assumption | with_reducible refine Bw.drew ?_ | with_reducible refine Bw.drewN ?_ _ | with_reducible refine bw_al ?_ _ | with_reducible refine Bw.then ?_ (by with_reducible assumption))))
                  ((go_at_call 14; (with_reducible refine (HA.out _ (by (repeat' first | with_reducible exact Below.refl _ _ | with_reducible assumption | with_reducible refine Bw.drew ?_ | with_reducible refine Bw.drewN ?_ _ | with_reducible refine bw_al ?_ _ | with_reducible refine Bw.then ?_ (by with_reducible assumption)))).mono ?_); rintro e wA ⟨rfl, hbA⟩))
                have hbN : Bw wr wA := (by (repeat' first | with_reducible exact Below.refl _ _ | with_reducible assumption | with_reducible refine Bw.drew ?_ | with_reducible refine Bw.drewN ?_ _ | with_reducible refine bw_al ?_ _ | with_reducible refine Bw.then ?_ (by with_reducible assumption)))
                have b1' := bw_cell hbN b1
                have hc' := bw_cell hbN hc
                have hB1 : ((rs.take j).filter (fun x => hasB x target)).length + 1 ≤ maxLen := by have := List.length_filter_le (fun x => hasB x target) (rs.take j); rw [List.length_take] at this; unfold maxLen; omega
                have hB2 : (((rs.take j).filter (fun x => hasB x target)).length + 1) * 24 ≤ 140737488355328 := by have := List.length_filter_le (fun x => hasB x target) (rs.take j); rw [List.length_take] at this; omega
                have hsz : W2.heap.size ≤ (wA.alloc (.cells #[.slice Y1 x.length g1] 24)).heap.size := by have h1 := (hb5.then (hb'.then hbN)).size; rw [sz_alloc]; omega
                have hrep : (tLo tRdg (Lo w1.heap.size)).rep (wA.alloc (.cells #[.slice Y1 x.length g1] 24)) (fun b => W2.heap.size ≤ b ∧ some b ≠ (Value.slice V1 n1 c1).ownBlock) [.slice Y1 x.length g1] x := ⟨_, rfl, (hyu.below hbN (fun b hb => by have := hb.2; have := hb'.size; omega)).lt.keep fun b hb => ⟨⟨⟨hb.1.1, fun e => by have := hown b e.symm; have := hb.1.2; omega⟩, hb.1.2⟩, at_old_eq hb.2⟩⟩
                go_wp2_with (at_builtin; refine Hid.out (?_ : Hid _))
                show wpList _ _ _ _ _ _
                refine wpList_app_one (T := tLo tRdg (Lo w1.heap.size)) rfl _ _ rfl Tryd.underlying35 hi hz0 hz1 hz2 rfl rfl ((hac.after hbN).alloc _) rfl (at_new rfl) hrep hB1 hB2 hsz ?_
                intro v2 w2 hA2 hg2 hat2
                go_wp2_with fail
                exact ⟨⟨j + 1, hlt, by go_num, Acc.bw (base := W5.heap.size) (bw_al (hb'.then hbN) _) hg2 hown (Nat.le_refl _), by rw [hsn2.out]; exact hA2, fun g e => by
                  rcases hat2 with h | h
                  · rw [h] at e; exact hown g e
                  · rw [h] at e; injection e with e; rw [← e, sz_alloc]; have := (hb'.then hbN).size; omega⟩, by simp [intOf]; omega⟩
            · have hj2 : j = rs.length := by omega
              subst hj2
              rw [List.take_length] at hac
              have R32 := row_bw (hb5.then hb') R3.out
              have Rw := Lib.hid R32
              have hbf := frozen_of_cells (i := 1) Bcr
              have R33 : (wr.setCell ⟨w1.heap.size, 1, none⟩ (.slice V1 n1 c1)).heap[w.heap.size + 1]? = _ := (set_old (by omega)).trans R32
              have Bc7 := set_row (v := .slice V1 n1 c1) Bcr
              have h70 := row2_0 Bc7
              have h71 := row2_1 Bc7
              have d30 := row2_0 R33
              have d31 := row2_1 R33
              have d3f := frozen_of_cells (i := 0) R33
              have d3g := frozen_of_cells (i := 1) R33
              have Bcr := Lib.hid Bcr
              have R33 := Lib.hid R33
              have Bc7 := Lib.hid Bc7
              clear R32
              go_wp2_with fail
              have hbF : Bw w (wr.setCell ⟨w1.heap.size, 1, none⟩ (.slice V1 n1 c1)) := bw_grown (hbW.then hb') (set_grown _ _ _ _) (by omega)
              have hac7 := acc_unlo (hac.lo_grown (set_grown wr w1.heap.size 1 (.slice V1 n1 c1)) (by
                cases ho : (Value.slice V1 n1 c1).ownBlock with
                | none => exact .inl rfl
                | some g => exact .inr (fun e => by injection e with e; have := hown g ho; omega)) (fun g e => by injection e with e; subst e; exact Nat.lt_irrefl _))
              obtain ⟨f1, f2, f3, f4⟩ := chg_fin (b := fm) hbF R33.out (by omega) hac7 (by omega) rfl
              refine bodyPost_ret (v := .agg #[.string fm, .slice V1 n1 c1]) (by simp [results, Tryd.f42, go_sem, f3, f4]) rfl ⟨_, rfl, f1, by rw [HR.out]; exact f2⟩
      · by_cases h0 : cnt rs target = rs.length
        · have hc0 : ((cnt rs target : Int) == (rs.length : Int)) = true := by rw [h0]; simp
          cases wild
          · have HR : Hid (R = rs) := by show _ = _; rw [Hv2.out, HL.out, h0]; simp
            clear Hv2 HL h0
            have R32 := row_bw (hb5.then hb') R3.out
            have Bcr := row_bw hb' Bc.out
            have b0 := row2_0 Bcr
            have b1 := row2_1 Bcr
            have d30 := row2_0 R32
            have d31 := row2_1 R32
            have d3f := frozen_of_cells (i := 0) R32
            have d3g := frozen_of_cells (i := 1) R32
            clear R32 Bcr
            go_wp2_with fail
            obtain ⟨f1, f2, f3, f4⟩ := chg_fin (b := fm) (hb2.then (hb5.then hb')) (row_bw (hb5.then hb') R3.out) (by omega) ((hacc.after hb5').after hb') (by omega) rfl
            refine bodyPost_ret (v := .agg #[.string fm, .slice PA rs.length cA]) (by simp [results, Tryd.f42, go_sem, f3, f4]) rfl ⟨_, rfl, f1, by rw [HR.out]; exact f2⟩
          · have HR : Hid (R = rs.filter (fun x => !hasB x target)) := by show _ = _; rw [Hv2.out, HL.out]; simp
            clear Hv2 HL h0
            go_wp2_with fail
            go_loopw [10, 11] (fun v10 i wr => ∃ j : Nat, j ≤ rs.length ∧ i = .int .i64 j ∧ Bw W5 wr ∧ Acc (tLo tRdg (Lo w1.heap.size)) 24 wr W2.heap.size v10 ((rs.take j).filter (fun x => !hasB x target)) ∧ (∀ g, v10.ownBlock = some g → W5.heap.size ≤ g)) (fun _ i _ => rs.length - (intOf i).toNat)
            case atStart => exact ⟨0, Nat.zero_le _, rfl, hb', Acc.nil _ _, fun g e => by cases e⟩
            case round =>
              clear hb' b1 d0 d3
              obtain ⟨j, hj, rfl, hb', hac, hown⟩ := hrel
              obtain ⟨V1, n1, c1, rfl, _, _, _⟩ := hac.sl.form'
              have Bcr := row_bw hb' Bc.out
              have b0 := row2_0 Bcr
              have b1 := row2_1 Bcr
              by_cases hlt : j < rs.length
              · have hlt' : (j : Int) < rs.length := by omega
                obtain ⟨pb, poff, x, ux, rfl, hx, hxr, hc⟩ := lookD (((hsl.after' hb5').below hb' (fun b hb => by have := hb.2; omega))) hlt
                obtain ⟨u', e, hyu⟩ := rep_rdg hxr
                injection e with e; subst e
                obtain ⟨Y1, g1, rfl, _, _⟩ := hyu.form
                have hsnoc : Hid ((rs.take (j + 1)).filter (fun x => !hasB x target) = (rs.take j).filter (fun x => !hasB x target) ++ (if (fun x => !hasB x target) x then [x] else [])) := by show _ = _; rw [List.take_add_one, hx.out]; simp [List.filter_append, List.filter_cons]
                cases q : hasB x target
                · skip
                  have HA := Lib.hid (fun (W : World) (kk : Bw wr W) => rhas_any (hyu.rd.after kk) (h1.after ((hbW.then hb').then kk)))
                  have Hq : Hid (hasB x target = false) := Lib.hid q
                  simp only [q] at HA
                  have K : ∀ w', Bw wr w' → w'.cell? ⟨w1.heap.size, 1, none⟩ = some (.slice (some ⟨pb, poff, none⟩) rs.length cA) ∧ w'.cell? ⟨pb, poff + j, none⟩ = some (.slice Y1 x.length g1) ∧ w'.cell? ⟨w.heap.size, 0, none⟩ = some (.int .i64 2) ∧ w'.cell? ⟨w.heap.size, 1, none⟩ = some (.slice U1 target.length d1) := fun w' kk => ⟨bw_cell kk b1, bw_cell kk hc, bw_cell kk (bw_cell (hb5.then hb') q0), bw_cell kk (bw_cell (hb5.then hb') q1)⟩
                  have hsn2 : Hid ((rs.take (j + 1)).filter (fun x => !hasB x target) = (rs.take j).filter (fun x => !hasB x target) ++ [x]) := by show _ = _; rw [hsnoc.out]; simp [q]
                  clear q
                  go_wp2_with fail
                  go_region_held3 (fun w' => w'.cell? ⟨w1.heap.size, 1, none⟩ = some (.slice (some ⟨pb, poff, none⟩) rs.length cA) ∧ w'.cell? ⟨pb, poff + j, none⟩ = some (.slice Y1 x.length g1) ∧ w'.cell? ⟨w.heap.size, 0, none⟩ = some (.int .i64 2) ∧ w'.cell? ⟨w.heap.size, 1, none⟩ = some (.slice U1 target.length d1)) (exact K _ (by (repeat' first | with_reducible exact Below.refl _ _ | with_reducible assumption | with_reducible refine Bw.drew ?_ | with_reducible refine Bw.drewN ?_ _ | with_reducible refine bw_al ?_ _ | with_reducible refine Bw.then ?_ (by with_reducible assumption))))
                    ((go_at_call 14; (with_reducible refine (HA.out _ (by (repeat' first | with_reducible exact Below.refl _ _ | with_reducible assumption | with_reducible refine Bw.drew ?_ | with_reducible refine Bw.drewN ?_ _ | with_reducible refine bw_al ?_ _ | with_reducible refine Bw.then ?_ (by with_reducible assumption)))).mono ?_); rintro e wA ⟨rfl, hbA⟩))
                  have hbN : Bw wr wA := (by (repeat' first | with_reducible exact Below.refl _ _ | with_reducible assumption | with_reducible refine Bw.drew ?_ | with_reducible refine Bw.drewN ?_ _ | with_reducible refine bw_al ?_ _ | with_reducible refine Bw.then ?_ (by with_reducible assumption)))
                  have b1' := bw_cell hbN b1
                  have hc' := bw_cell hbN hc
                  have hB1 : ((rs.take j).filter (fun x => !hasB x target)).length + 1 ≤ maxLen := by have := List.length_filter_le (fun x => !hasB x target) (rs.take j); rw [List.length_take] at this; unfold maxLen; omega
                  have hB2 : (((rs.take j).filter (fun x => !hasB x target)).length + 1) * 24 ≤ 140737488355328 := by have := List.length_filter_le (fun x => !hasB x target) (rs.take j); rw [List.length_take] at this; omega
                  have hsz : W2.heap.size ≤ (wA.alloc (.cells #[.slice Y1 x.length g1] 24)).heap.size := by have h1 := (hb5.then (hb'.then hbN)).size; rw [sz_alloc]; omega
                  have hrep : (tLo tRdg (Lo w1.heap.size)).rep (wA.alloc (.cells #[.slice Y1 x.length g1] 24)) (fun b => W2.heap.size ≤ b ∧ some b ≠ (Value.slice V1 n1 c1).ownBlock) [.slice Y1 x.length g1] x := ⟨_, rfl, (hyu.below hbN (fun b hb => by have := hb.2; have := hb'.size; omega)).lt.keep fun b hb => ⟨⟨⟨hb.1.1, fun e => by have := hown b e.symm; have := hb.1.2; omega⟩, hb.1.2⟩, at_old_eq hb.2⟩⟩
                  go_wp2_with (at_builtin; refine Hid.out (?_ : Hid _))
                  show wpList _ _ _ _ _ _
                  refine wpList_app_one (T := tLo tRdg (Lo w1.heap.size)) rfl _ _ rfl Tryd.underlying35 hi hz0 hz1 hz2 rfl rfl ((hac.after hbN).alloc _) rfl (at_new rfl) hrep hB1 hB2 hsz ?_
                  intro v2 w2 hA2 hg2 hat2
                  go_wp2_with fail
                  exact ⟨⟨j + 1, hlt, by go_num, Acc.bw (base := W5.heap.size) (bw_al (hb'.then hbN) _) hg2 hown (Nat.le_refl _), by rw [hsn2.out]; exact hA2, fun g e => by
                    rcases hat2 with h | h
                    · rw [h] at e; exact hown g e
                    · rw [h] at e; injection e with e; rw [← e, sz_alloc]; have := (hb'.then hbN).size; omega⟩, by simp [intOf]; omega⟩
                · skip
                  have HA := Lib.hid (fun (W : World) (kk : Bw wr W) => rhas_any (hyu.rd.after kk) (h1.after ((hbW.then hb').then kk)))
                  have Hq : Hid (hasB x target = true) := Lib.hid q
                  simp only [q] at HA
                  have K : ∀ w', Bw wr w' → w'.cell? ⟨w1.heap.size, 1, none⟩ = some (.slice (some ⟨pb, poff, none⟩) rs.length cA) ∧ w'.cell? ⟨pb, poff + j, none⟩ = some (.slice Y1 x.length g1) ∧ w'.cell? ⟨w.heap.size, 0, none⟩ = some (.int .i64 2) ∧ w'.cell? ⟨w.heap.size, 1, none⟩ = some (.slice U1 target.length d1) := fun w' kk => ⟨bw_cell kk b1, bw_cell kk hc, bw_cell kk (bw_cell (hb5.then hb') q0), bw_cell kk (bw_cell (hb5.then hb') q1)⟩
                  have hsn2 : Hid ((rs.take (j + 1)).filter (fun x => !hasB x target) = (rs.take j).filter (fun x => !hasB x target) ++ []) := by show _ = _; rw [hsnoc.out]; simp [q]
                  clear q
                  go_wp2_with fail
                  go_region_held3 (fun w' => w'.cell? ⟨w1.heap.size, 1, none⟩ = some (.slice (some ⟨pb, poff, none⟩) rs.length cA) ∧ w'.cell? ⟨pb, poff + j, none⟩ = some (.slice Y1 x.length g1) ∧ w'.cell? ⟨w.heap.size, 0, none⟩ = some (.int .i64 2) ∧ w'.cell? ⟨w.heap.size, 1, none⟩ = some (.slice U1 target.length d1)) (exact K _ (by (repeat' first | with_reducible exact Below.refl _ _ | with_reducible assumption | with_reducible refine Bw.drew ?_ | with_reducible refine Bw.drewN ?_ _ | with_reducible refine bw_al ?_ _ | with_reducible refine Bw.then ?_ (by with_reducible assumption))))
                    ((go_at_call 14; (with_reducible refine (HA.out _ (by (repeat' first | with_reducible exact Below.refl _ _ | with_reducible assumption | with_reducible refine Bw.drew ?_ | with_reducible refine Bw.drewN ?_ _ | with_reducible refine bw_al ?_ _ | with_reducible refine Bw.then ?_ (by with_reducible assumption)))).mono ?_); rintro e wA ⟨rfl, hbA⟩))
                  have hbN : Bw wr wA := (by (repeat' first | with_reducible exact Below.refl _ _ | with_reducible assumption | with_reducible refine Bw.drew ?_ | with_reducible refine Bw.drewN ?_ _ | with_reducible refine bw_al ?_ _ | with_reducible refine Bw.then ?_ (by with_reducible assumption)))
                  have b1' := bw_cell hbN b1
                  have hc' := bw_cell hbN hc
                  go_wp2_with fail
                  exact ⟨⟨j + 1, hlt, by go_num, hb'.then hbN, by rw [hsn2.out, List.append_nil]; exact hac.after hbN, hown⟩, by simp [intOf]; omega⟩
              · have hj2 : j = rs.length := by omega
                subst hj2
                rw [List.take_length] at hac
                have R32 := row_bw (hb5.then hb') R3.out
                have Rw := Lib.hid R32
                have hbf := frozen_of_cells (i := 1) Bcr
                have R33 : (wr.setCell ⟨w1.heap.size, 1, none⟩ (.slice V1 n1 c1)).heap[w.heap.size + 1]? = _ := (set_old (by omega)).trans R32
                have Bc7 := set_row (v := .slice V1 n1 c1) Bcr
                have h70 := row2_0 Bc7
                have h71 := row2_1 Bc7
                have d30 := row2_0 R33
                have d31 := row2_1 R33
                have d3f := frozen_of_cells (i := 0) R33
                have d3g := frozen_of_cells (i := 1) R33
                have Bcr := Lib.hid Bcr
                have R33 := Lib.hid R33
                have Bc7 := Lib.hid Bc7
                clear R32
                go_wp2_with fail
                have hbF : Bw w (wr.setCell ⟨w1.heap.size, 1, none⟩ (.slice V1 n1 c1)) := bw_grown (hbW.then hb') (set_grown _ _ _ _) (by omega)
                have hac7 := acc_unlo (hac.lo_grown (set_grown wr w1.heap.size 1 (.slice V1 n1 c1)) (by
                  cases ho : (Value.slice V1 n1 c1).ownBlock with
                  | none => exact .inl rfl
                  | some g => exact .inr (fun e => by injection e with e; have := hown g ho; omega)) (fun g e => by injection e with e; subst e; exact Nat.lt_irrefl _))
                obtain ⟨f1, f2, f3, f4⟩ := chg_fin (b := fm) hbF R33.out (by omega) hac7 (by omega) rfl
                refine bodyPost_ret (v := .agg #[.string fm, .slice V1 n1 c1]) (by simp [results, Tryd.f42, go_sem, f3, f4]) rfl ⟨_, rfl, f1, by rw [HR.out]; exact f2⟩
        · have hc0 : ((cnt rs target : Int) == (rs.length : Int)) = false := by simpa using (by omega : ¬ (cnt rs target : Int) = rs.length)
          have HR : Hid (R = rs.filter (fun x => !hasB x target)) := by show _ = _; rw [Hv2.out, HL.out, decide_eq_false h0]; simp
          clear Hv2 HL h0
          go_wp2_with fail
          go_loopw [10, 11] (fun v10 i wr => ∃ j : Nat, j ≤ rs.length ∧ i = .int .i64 j ∧ Bw W5 wr ∧ Acc (tLo tRdg (Lo w1.heap.size)) 24 wr W2.heap.size v10 ((rs.take j).filter (fun x => !hasB x target)) ∧ (∀ g, v10.ownBlock = some g → W5.heap.size ≤ g)) (fun _ i _ => rs.length - (intOf i).toNat)
          case atStart => exact ⟨0, Nat.zero_le _, rfl, hb', Acc.nil _ _, fun g e => by cases e⟩
          case round =>
            clear hb' b1 d0 d3
            obtain ⟨j, hj, rfl, hb', hac, hown⟩ := hrel
            obtain ⟨V1, n1, c1, rfl, _, _, _⟩ := hac.sl.form'
            have Bcr := row_bw hb' Bc.out
            have b0 := row2_0 Bcr
            have b1 := row2_1 Bcr
            by_cases hlt : j < rs.length
            · have hlt' : (j : Int) < rs.length := by omega
              obtain ⟨pb, poff, x, ux, rfl, hx, hxr, hc⟩ := lookD (((hsl.after' hb5').below hb' (fun b hb => by have := hb.2; omega))) hlt
              obtain ⟨u', e, hyu⟩ := rep_rdg hxr
              injection e with e; subst e
              obtain ⟨Y1, g1, rfl, _, _⟩ := hyu.form
              have hsnoc : Hid ((rs.take (j + 1)).filter (fun x => !hasB x target) = (rs.take j).filter (fun x => !hasB x target) ++ (if (fun x => !hasB x target) x then [x] else [])) := by show _ = _; rw [List.take_add_one, hx.out]; simp [List.filter_append, List.filter_cons]
              cases q : hasB x target
              · skip
                have HA := Lib.hid (fun (W : World) (kk : Bw wr W) => rhas_any (hyu.rd.after kk) (h1.after ((hbW.then hb').then kk)))
                have Hq : Hid (hasB x target = false) := Lib.hid q
                simp only [q] at HA
                have K : ∀ w', Bw wr w' → w'.cell? ⟨w1.heap.size, 1, none⟩ = some (.slice (some ⟨pb, poff, none⟩) rs.length cA) ∧ w'.cell? ⟨pb, poff + j, none⟩ = some (.slice Y1 x.length g1) ∧ w'.cell? ⟨w.heap.size, 0, none⟩ = some (.int .i64 2) ∧ w'.cell? ⟨w.heap.size, 1, none⟩ = some (.slice U1 target.length d1) := fun w' kk => ⟨bw_cell kk b1, bw_cell kk hc, bw_cell kk (bw_cell (hb5.then hb') q0), bw_cell kk (bw_cell (hb5.then hb') q1)⟩
                have hsn2 : Hid ((rs.take (j + 1)).filter (fun x => !hasB x target) = (rs.take j).filter (fun x => !hasB x target) ++ [x]) := by show _ = _; rw [hsnoc.out]; simp [q]
                clear q
                go_wp2_with fail
                go_region_held3 (fun w' => w'.cell? ⟨w1.heap.size, 1, none⟩ = some (.slice (some ⟨pb, poff, none⟩) rs.length cA) ∧ w'.cell? ⟨pb, poff + j, none⟩ = some (.slice Y1 x.length g1) ∧ w'.cell? ⟨w.heap.size, 0, none⟩ = some (.int .i64 2) ∧ w'.cell? ⟨w.heap.size, 1, none⟩ = some (.slice U1 target.length d1)) (exact K _ (by (repeat' first | with_reducible exact Below.refl _ _ | with_reducible assumption | with_reducible refine Bw.drew ?_ | with_reducible refine Bw.drewN ?_ _ | with_reducible refine bw_al ?_ _ | with_reducible refine Bw.then ?_ (by with_reducible assumption))))
                  ((go_at_call 14; (with_reducible refine (HA.out _ (by (repeat' first | with_reducible exact Below.refl _ _ | with_reducible assumption | with_reducible refine Bw.drew ?_ | with_reducible refine Bw.drewN ?_ _ | with_reducible refine bw_al ?_ _ | with_reducible refine Bw.then ?_ (by with_reducible assumption)))).mono ?_); rintro e wA ⟨rfl, hbA⟩))
                have hbN : Bw wr wA := (by (repeat' first | with_reducible exact Below.refl _ _ | with_reducible assumption | with_reducible refine Bw.drew ?_ | with_reducible refine Bw.drewN ?_ _ | with_reducible refine bw_al ?_ _ | with_reducible refine Bw.then ?_ (by with_reducible assumption)))
                have b1' := bw_cell hbN b1
                have hc' := bw_cell hbN hc
                have hB1 : ((rs.take j).filter (fun x => !hasB x target)).length + 1 ≤ maxLen := by have := List.length_filter_le (fun x => !hasB x target) (rs.take j); rw [List.length_take] at this; unfold maxLen; omega
                have hB2 : (((rs.take j).filter (fun x => !hasB x target)).length + 1) * 24 ≤ 140737488355328 := by have := List.length_filter_le (fun x => !hasB x target) (rs.take j); rw [List.length_take] at this; omega
                have hsz : W2.heap.size ≤ (wA.alloc (.cells #[.slice Y1 x.length g1] 24)).heap.size := by have h1 := (hb5.then (hb'.then hbN)).size; rw [sz_alloc]; omega
                have hrep : (tLo tRdg (Lo w1.heap.size)).rep (wA.alloc (.cells #[.slice Y1 x.length g1] 24)) (fun b => W2.heap.size ≤ b ∧ some b ≠ (Value.slice V1 n1 c1).ownBlock) [.slice Y1 x.length g1] x := ⟨_, rfl, (hyu.below hbN (fun b hb => by have := hb.2; have := hb'.size; omega)).lt.keep fun b hb => ⟨⟨⟨hb.1.1, fun e => by have := hown b e.symm; have := hb.1.2; omega⟩, hb.1.2⟩, at_old_eq hb.2⟩⟩
                go_wp2_with (at_builtin; refine Hid.out (?_ : Hid _))
                show wpList _ _ _ _ _ _
                refine wpList_app_one (T := tLo tRdg (Lo w1.heap.size)) rfl _ _ rfl Tryd.underlying35 hi hz0 hz1 hz2 rfl rfl ((hac.after hbN).alloc _) rfl (at_new rfl) hrep hB1 hB2 hsz ?_
                intro v2 w2 hA2 hg2 hat2
                go_wp2_with fail
                exact ⟨⟨j + 1, hlt, by go_num, Acc.bw (base := W5.heap.size) (bw_al (hb'.then hbN) _) hg2 hown (Nat.le_refl _), by rw [hsn2.out]; exact hA2, fun g e => by
                  rcases hat2 with h | h
                  · rw [h] at e; exact hown g e
                  · rw [h] at e; injection e with e; rw [← e, sz_alloc]; have := (hb'.then hbN).size; omega⟩, by simp [intOf]; omega⟩
              · skip
                have HA := Lib.hid (fun (W : World) (kk : Bw wr W) => rhas_any (hyu.rd.after kk) (h1.after ((hbW.then hb').then kk)))
                have Hq : Hid (hasB x target = true) := Lib.hid q
                simp only [q] at HA
                have K : ∀ w', Bw wr w' → w'.cell? ⟨w1.heap.size, 1, none⟩ = some (.slice (some ⟨pb, poff, none⟩) rs.length cA) ∧ w'.cell? ⟨pb, poff + j, none⟩ = some (.slice Y1 x.length g1) ∧ w'.cell? ⟨w.heap.size, 0, none⟩ = some (.int .i64 2) ∧ w'.cell? ⟨w.heap.size, 1, none⟩ = some (.slice U1 target.length d1) := fun w' kk => ⟨bw_cell kk b1, bw_cell kk hc, bw_cell kk (bw_cell (hb5.then hb') q0), bw_cell kk (bw_cell (hb5.then hb') q1)⟩
                have hsn2 : Hid ((rs.take (j + 1)).filter (fun x => !hasB x target) = (rs.take j).filter (fun x => !hasB x target) ++ []) := by show _ = _; rw [hsnoc.out]; simp [q]
                clear q
                go_wp2_with fail
                go_region_held3 (fun w' => w'.cell? ⟨w1.heap.size, 1, none⟩ = some (.slice (some ⟨pb, poff, none⟩) rs.length cA) ∧ w'.cell? ⟨pb, poff + j, none⟩ = some (.slice Y1 x.length g1) ∧ w'.cell? ⟨w.heap.size, 0, none⟩ = some (.int .i64 2) ∧ w'.cell? ⟨w.heap.size, 1, none⟩ = some (.slice U1 target.length d1)) (exact K _ (by (repeat' first | with_reducible exact Below.refl _ _ | with_reducible assumption | with_reducible refine Bw.drew ?_ | with_reducible refine Bw.drewN ?_ _ | with_reducible refine bw_al ?_ _ | with_reducible refine Bw.then ?_ (by with_reducible assumption))))
                  ((go_at_call 14; (with_reducible refine (HA.out _ (by (repeat' first | with_reducible exact Below.refl _ _ | with_reducible assumption | with_reducible refine Bw.drew ?_ | with_reducible refine Bw.drewN ?_ _ | with_reducible refine bw_al ?_ _ | with_reducible refine Bw.then ?_ (by with_reducible assumption)))).mono ?_); rintro e wA ⟨rfl, hbA⟩))
                have hbN : Bw wr wA := (by (repeat' first | with_reducible exact Below.refl _ _ | with_reducible assumption | with_reducible refine Bw.drew ?_ | with_reducible refine Bw.drewN ?_ _ | with_reducible refine bw_al ?_ _ | with_reducible refine Bw.then ?_ (by with_reducible assumption)))
                have b1' := bw_cell hbN b1
                have hc' := bw_cell hbN hc
                go_wp2_with fail
                exact ⟨⟨j + 1, hlt, by go_num, hb'.then hbN, by rw [hsn2.out, List.append_nil]; exact hac.after hbN, hown⟩, by simp [intOf]; omega⟩
            · have hj2 : j = rs.length := by omega
              subst hj2
              rw [List.take_length] at hac
              have R32 := row_bw (hb5.then hb') R3.out
              have Rw := Lib.hid R32
              have hbf := frozen_of_cells (i := 1) Bcr
              have R33 : (wr.setCell ⟨w1.heap.size, 1, none⟩ (.slice V1 n1 c1)).heap[w.heap.size + 1]? = _ := (set_old (by omega)).trans R32
              have Bc7 := set_row (v := .slice V1 n1 c1) Bcr
              have h70 := row2_0 Bc7
              have h71 := row2_1 Bc7
              have d30 := row2_0 R33
              have d31 := row2_1 R33
              have d3f := frozen_of_cells (i := 0) R33
              have d3g := frozen_of_cells (i := 1) R33
              have Bcr := Lib.hid Bcr
              have R33 := Lib.hid R33
              have Bc7 := Lib.hid Bc7
              clear R32
              go_wp2_with fail
              have hbF : Bw w (wr.setCell ⟨w1.heap.size, 1, none⟩ (.slice V1 n1 c1)) := bw_grown (hbW.then hb') (set_grown _ _ _ _) (by omega)
              have hac7 := acc_unlo (hac.lo_grown (set_grown wr w1.heap.size 1 (.slice V1 n1 c1)) (by
                cases ho : (Value.slice V1 n1 c1).ownBlock with
                | none => exact .inl rfl
                | some g => exact .inr (fun e => by injection e with e; have := hown g ho; omega)) (fun g e => by injection e with e; subst e; exact Nat.lt_irrefl _))
              obtain ⟨f1, f2, f3, f4⟩ := chg_fin (b := fm) hbF R33.out (by omega) hac7 (by omega) rfl
              refine bodyPost_ret (v := .agg #[.string fm, .slice V1 n1 c1]) (by simp [results, Tryd.f42, go_sem, f3, f4]) rfl ⟨_, rfl, f1, by rw [HR.out]; exact f2⟩
end Go.Proofs.YthecmbmidoagaaaDoor

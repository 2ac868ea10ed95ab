/- The contract of 'changed' (the program's). Conditions: what the arguments read as; a place that there is; tests within their bounds; bounds on lengths. -/
import Derived.Test.YthecmbmidoagaaaDoorC8c
import Derived.Test.YthecmbmidoagaaaDoorSpec2
namespace Go.Proofs.YthecmbmidoagaaaDoor
open Go.RowKit Go.Maps
open Pl

theorem row4_0 {w : World} {g : Nat} {a b c d : Value} {e : TypeId} {fz : Nat × Nat} (h : w.heap[g]? = some (.cells #[a, b, c, d] e fz)) : w.cell? ⟨g, 0, none⟩ = some a := by rw [cell_of_row w g 0 _ _ _ h]; rfl
theorem row4_1 {w : World} {g : Nat} {a b c d : Value} {e : TypeId} {fz : Nat × Nat} (h : w.heap[g]? = some (.cells #[a, b, c, d] e fz)) : w.cell? ⟨g, 1, none⟩ = some b := by rw [cell_of_row w g 1 _ _ _ h]; rfl
theorem row4_2 {w : World} {g : Nat} {a b c d : Value} {e : TypeId} {fz : Nat × Nat} (h : w.heap[g]? = some (.cells #[a, b, c, d] e fz)) : w.cell? ⟨g, 2, none⟩ = some c := by rw [cell_of_row w g 2 _ _ _ h]; rfl
theorem row4_3 {w : World} {g : Nat} {a b c d : Value} {e : TypeId} {fz : Nat × Nat} (h : w.heap[g]? = some (.cells #[a, b, c, d] e fz)) : w.cell? ⟨g, 3, none⟩ = some d := by rw [cell_of_row w g 3 _ _ _ h]; rfl
theorem chg_fin {w wX : World} {n base : Nat} {fm a b : ByteArray} {u' v0 : Value} {rs' : List Rdg} {e : TypeId} (hbw : Bw w wX) (hrow : wX.heap[n]? = some (.cells #[.string a, v0] e (0, 0))) (hn : w.heap.size ≤ n) (hacc : Acc tRdg 24 wX base u' rs') (hbase : n < base) (hfm : fm = b) :
    Bw w ((wX.setCell ⟨n, 0, none⟩ (.string fm)).setCell ⟨n, 1, none⟩ u') ∧ Sl tRdg ((wX.setCell ⟨n, 0, none⟩ (.string fm)).setCell ⟨n, 1, none⟩ u') (Hi w.heap.size) u' rs' ∧
      ((wX.setCell ⟨n, 0, none⟩ (.string fm)).setCell ⟨n, 1, none⟩ u').cell? ⟨n, 0, none⟩ = some (.string b) ∧ ((wX.setCell ⟨n, 0, none⟩ (.string fm)).setCell ⟨n, 1, none⟩ u').cell? ⟨n, 1, none⟩ = some u' := by
  subst hfm
  have e2 := set_row (v := u') (set_row0 (v := .string fm) hrow)
  have hne : ∀ row, row = some n → (u'.ownBlock = none ∨ u'.ownBlock ≠ row) := fun row e => by
    cases ho : u'.ownBlock with
    | none => exact .inl rfl
    | some g => exact .inr (fun e' => by rw [e] at e'; injection e' with e'; have := (hacc.own g ho).1; omega)
  refine ⟨bw_grown (bw_grown hbw (set_grown _ _ _ _) hn) (set_grown _ _ _ _) hn, ?_, row2_0 e2, row2_1 e2⟩
  exact (Acc.weak (base' := w.heap.size) ((hacc.grown (set_grown _ _ _ _) (hne _ rfl) (fun g e => by injection e with e; omega)).grown (set_grown _ _ _ _) (hne _ rfl) (fun g e => by injection e with e; omega)) (by omega)).hi

theorem filt_nn (l : List Rdg) (q : Rdg → Bool) : (l.filter fun x => !(!q x)) = l.filter q := by simp

set_option maxRecDepth 100000 in
set_option maxHeartbeats 8000000 in
theorem changed_any {u1 u2 v : Value} {r : Rul} {l : List Coh} {k : Nat} {y : Coh} {w : World} (h1 : Rd tStr w u1 r.target) (h2 : Rd tTst w u2 r.tests) (hl : Rd tCoh w v l) (hy : l[k]? = some y) (hop : r.op = 1 ∨ r.op = 2)
    (ha : ∀ t ∈ r.tests, -99 ≤ t.at' ∧ t.at' ≤ 99) (hm : l.length ≤ 200) (hs : SmallR y.2) :
    Calls Tryd.prog 40 #[.agg #[.int .i64 r.op, u1, u2, .bool r.wild], v, .int .i64 k] w fun e w' => ∃ u', e = .returned (.agg #[.string y.1, u']) ∧ Bw w w' ∧ Sl tRdg w' (Hi w.heap.size) u' (chg r l k).2 := by
  obtain ⟨op, target, tests, wild⟩ := r
  simp only at *
  have hkl : k < l.length := (List.getElem?_eq_some_iff.1 hy).1
  obtain ⟨A, c, rfl, _, _⟩ := hl.form
  obtain ⟨bb, off, y', uy, rfl, hy', _, hyr, e0, e1⟩ := hl.coh hkl
  rw [hy] at hy'
  obtain rfl : y = y' := by have := hy'.out; injection this
  obtain ⟨fm, rs⟩ := y
  simp only at *
  have hkl' : (k : Int) < l.length := by omega
  have Hv : Hid ((chg ⟨op, target, tests, wild⟩ l k).2 = if tests.all fun t => holdB t l k then leftB ⟨op, target, tests, wild⟩ rs else rs) := by
    show _ = _
    rw [chg_of hy]; split <;> rfl
  have HL : Hid (leftB ⟨op, target, tests, wild⟩ rs = if (decide (op = 1) && decide (cnt rs target = 0)) || (decide (op = 2) && decide (cnt rs target = rs.length) && !wild) then rs else rs.filter fun x => hasB x target == decide (op = 1)) := rfl
  have hall : (tests.any fun t => !holdB t l k) = !(tests.all fun t => holdB t l k) := by rw [List.all_eq_not_any_not]; simp
  generalize (chg ⟨op, target, tests, wild⟩ l k).2 = R at *
  generalize leftB ⟨op, target, tests, wild⟩ rs = LB at *
  obtain ⟨W3, hW3⟩ : ∃ W3, W3 = ((((w.alloc (.cells #[.int .i64 op, u1, u2, .bool wild] 34)).alloc (.cells #[.slice (some ⟨bb, off, none⟩) l.length c] 29)).alloc (.cells #[.int .i64 k] 3)).alloc (.cells #[.string ⟨#[]⟩, .slice none 0 0] 37)) := ⟨_, rfl⟩
  have hb3 : Bw w W3 := by rw [hW3]; exact bw_al (bw_al (bw_al (bw_refl_al w _) _) _) _
  have hsz : W3.heap.size = w.heap.size + 4 := by rw [hW3]; simp
  have r0 : W3.heap[w.heap.size]? = some (.cells #[.int .i64 op, u1, u2, .bool wild] 34) := by rw [hW3]; exact at_old (at_old (at_old (at_new rfl)))
  have r1 : W3.heap[w.heap.size + 1]? = some (.cells #[.slice (some ⟨bb, off, none⟩) l.length c] 29) := by rw [hW3]; exact at_old (at_old (at_new (by simp)))
  have r2 : W3.heap[w.heap.size + 1 + 1]? = some (.cells #[.int .i64 k] 3) := by rw [hW3]; exact at_old (at_new (by simp))
  have r3 : W3.heap[w.heap.size + 1 + 1 + 1]? = some (.cells #[.string ⟨#[]⟩, .slice none 0 0] 37) := by rw [hW3]; exact at_new (by simp)
  have HC := Lib.hid (clone_any (fm := fm) (hyr.rd.after hb3) hs)
  have HT := Lib.hid (fun (W : World) (kk : Bw W3 W) => containsT_any (h2.after (hb3.then kk)) (c1_asks (gl := w.heap.size + 1) (gi := w.heap.size + 1 + 1) (i := (k : Int)) (row_c0 (row_bw kk r1)) (row_c0 (row_bw kk r2)) (hl.after (hb3.then kk)) ⟨by omega, hkl'⟩ ha hm))
  have ht1 : Hid (Sl tStr w (Lo w.heap.size) u1 target) := h1
  have R0 := Lib.hid r0
  have R3 := Lib.hid r3
  have hs500 := hs.1
  have e0' := bw_cell hb3 e0
  have e1' := bw_cell hb3 e1
  have q0 := row4_0 r0
  have q1 := row4_1 r0
  have q2 := row4_2 r0
  have q3 := row4_3 r0
  have q10 := row_c0 r1
  have q20 := row_c0 r2
  have q30 := row2_0 r3
  have q31 := row2_1 r3
  have q3f := frozen_of_cells (i := 0) r3
  have q3g := frozen_of_cells (i := 1) r3
  clear h1 h2 hl hyr hy hy' ha hs r0 r1 r2 r3
  rw [hW3] at HC e0' e1'
  generalize hQ : (tests.all fun t => holdB t l k) = Q at *
  clear hQ
  rw [hall] at HT
  clear hall
  cases Q
  · have HR : Hid (R = rs) := by show _ = _; rw [Hv.out]; rfl
    clear Hv HL
    go_enter Tryd.func40, Tryd.ntmps40
    go_wp2_with (first
      | ((with_reducible refine HC.out.mono ?_); rintro e w1 ⟨uc, rfl, hb1, hacc⟩; rw [← hW3] at hb1 hacc; obtain ⟨PA, nA, cA, rfl, _, _, HnA⟩ := hacc.sl.form'; have s1 := hb1.size; have hown := hacc.own; have hb5 : Bw W3 (w1.alloc (.cells #[.string fm, .slice PA nA cA] 37)) := bw_al hb1 _; have a2 := bw_cell hb5 q2)
      | ((with_reducible refine (HT.out _ hb5).mono ?_); rintro e w2 ⟨rfl, hb2⟩; have s2 := hb2.size; rw [sz_alloc] at s2; have hbw2 := hb5.then hb2; have Bc := Lib.hid (show w2.heap[w1.heap.size]? = some (.cells #[.string fm, .slice PA nA cA] 37) from row_bw hb2 (at_new rfl)); have R32 := Lib.hid (row_bw hbw2 R3.out); have b0 := row2_0 Bc.out; have b1 := row2_1 Bc.out; have d30 := row2_0 R32.out; have d31 := row2_1 R32.out; have d3f := frozen_of_cells (i := 0) R32.out; have d3g := frozen_of_cells (i := 1) R32.out))
    obtain ⟨f1, f2, f3, f4⟩ := chg_fin (b := fm) ((hb3.then hbw2)) R32.out (by omega) ((hacc.after (bw_al (Below.refl _ _) _)).after hb2) (by omega) rfl
    refine bodyPost_ret (v := .agg #[.string fm, .slice PA nA cA]) (by simp [results, Tryd.f40, go_sem, f3, f4]) rfl ⟨_, rfl, f1, by rw [HR.out]; exact f2⟩
  · have Hv2 : Hid (R = LB) := by show _ = _; rw [Hv.out]; rfl
    clear Hv
    have hcl := cnt_le rs target
    have hca := cnt_any rs target
    have hcb := cnt_all rs target
    rcases hop with rfl | rfl
    · by_cases h0 : cnt rs target = 0
      · have HR : Hid (R = rs) := by show _ = _; rw [Hv2.out, HL.out, h0]; simp
        have hany : Hid ((rs.any fun x => hasB x target) = false) := by show _ = _; rw [hca, h0]; rfl
        clear Hv2 HL h0 hca hcb hcl
        go_enter Tryd.func40, Tryd.ntmps40
        go_wp2_with (first
          | ((with_reducible refine HC.out.mono ?_); rintro e w1 ⟨uc, rfl, hb1, hacc⟩; rw [← hW3] at hb1 hacc; obtain ⟨PA, nA, cA, rfl, _, _, HnA⟩ := hacc.sl.form'; have s1 := hb1.size; have hown := hacc.own; have hb5 : Bw W3 (w1.alloc (.cells #[.string fm, .slice PA nA cA] 37)) := bw_al hb1 _; have a2 := bw_cell hb5 q2)
          | ((with_reducible refine (HT.out _ hb5).mono ?_); rintro e w2 ⟨rfl, hb2⟩; have s2 := hb2.size; rw [sz_alloc] at s2; have hbw2 := hb5.then hb2; have Bc := Lib.hid (show w2.heap[w1.heap.size]? = some (.cells #[.string fm, .slice PA nA cA] 37) from row_bw hb2 (at_new rfl)); have R32 := Lib.hid (row_bw hbw2 R3.out); have hb6 : Bw w2 (w2.alloc (.cells #[(.func (.func 58) #[] #[.pointer (some ⟨w.heap.size, 0, none⟩)])] 75)) := bw_refl_al w2 _; have g6 := row_c0 (at_new (w := w2) (o := .cells #[(.func (.func 58) #[] #[.pointer (some ⟨w.heap.size, 0, none⟩)])] 75) rfl); have b0 := bw_cell hb6 (row2_0 Bc.out); have b1 := bw_cell hb6 (row2_1 Bc.out); have d0 := bw_cell hb6 (bw_cell hbw2 q0); have d3 := bw_cell hb6 (bw_cell hbw2 q3); have d1 := bw_cell hb6 (bw_cell hbw2 q1); have d30 := bw_cell hb6 (row2_0 R32.out); have d31 := bw_cell hb6 (row2_1 R32.out); have d3f := frozen_of_cells (i := 0) (row_bw hb6 R32.out); have d3g := frozen_of_cells (i := 1) (row_bw hb6 R32.out))
          | (have HX := containsR_any (((hacc.after (bw_al (Below.refl _ _) _)).after (hb2.then hb6)).sl.rd) (c2_asks (g := w.heap.size) (tags := target) (l := rs) d1 (ht1.out.rd.after ((hb3.then hbw2).then hb6))); rw [hany.out] at HX; (with_reducible refine HX.mono ?_); rintro e w3 ⟨rfl, hb7⟩; have b0' := bw_cell hb7 b0; have b1' := bw_cell hb7 b1; have d0' := bw_cell hb7 d0; have d3' := bw_cell hb7 d3; have d1' := bw_cell hb7 d1; have g6' := bw_cell hb7 g6; have d30' := bw_cell hb7 d30; have d31' := bw_cell hb7 d31; have d3f' := frozen_of_cells (i := 0) (row_bw hb7 (row_bw hb6 R32.out)); have d3g' := frozen_of_cells (i := 1) (row_bw hb7 (row_bw hb6 R32.out))))
        obtain ⟨f1, f2, f3, f4⟩ := chg_fin (b := fm) ((hb3.then hbw2).then (hb6.then hb7)) (row_bw (hb6.then hb7) R32.out) (by omega) ((hacc.after (bw_al (Below.refl _ _) _)).after (hb2.then (hb6.then hb7))) (by omega) rfl
        refine bodyPost_ret (v := .agg #[.string fm, .slice PA nA cA]) (by simp [results, Tryd.f40, go_sem, f3, f4]) rfl ⟨_, rfl, f1, by rw [HR.out]; exact f2⟩
      · have HR : Hid (R = rs.filter fun x => !(!hasB x target)) := by show _ = _; rw [Hv2.out, HL.out, decide_eq_false h0, filt_nn]; simp
        have hany : Hid ((rs.any fun x => hasB x target) = true) := by show _ = _; rw [hca]; simp; omega
        clear Hv2 HL h0 hca hcb hcl
        go_enter Tryd.func40, Tryd.ntmps40
        go_wp2_with (first
          | ((with_reducible refine HC.out.mono ?_); rintro e w1 ⟨uc, rfl, hb1, hacc⟩; rw [← hW3] at hb1 hacc; obtain ⟨PA, nA, cA, rfl, _, _, HnA⟩ := hacc.sl.form'; have s1 := hb1.size; have hown := hacc.own; have hb5 : Bw W3 (w1.alloc (.cells #[.string fm, .slice PA nA cA] 37)) := bw_al hb1 _; have a2 := bw_cell hb5 q2)
          | ((with_reducible refine (HT.out _ hb5).mono ?_); rintro e w2 ⟨rfl, hb2⟩; have s2 := hb2.size; rw [sz_alloc] at s2; have hbw2 := hb5.then hb2; have Bc := Lib.hid (show w2.heap[w1.heap.size]? = some (.cells #[.string fm, .slice PA nA cA] 37) from row_bw hb2 (at_new rfl)); have R32 := Lib.hid (row_bw hbw2 R3.out); have hb6 : Bw w2 (w2.alloc (.cells #[(.func (.func 58) #[] #[.pointer (some ⟨w.heap.size, 0, none⟩)])] 75)) := bw_refl_al w2 _; have g6 := row_c0 (at_new (w := w2) (o := .cells #[(.func (.func 58) #[] #[.pointer (some ⟨w.heap.size, 0, none⟩)])] 75) rfl); have b0 := bw_cell hb6 (row2_0 Bc.out); have b1 := bw_cell hb6 (row2_1 Bc.out); have d0 := bw_cell hb6 (bw_cell hbw2 q0); have d3 := bw_cell hb6 (bw_cell hbw2 q3); have d1 := bw_cell hb6 (bw_cell hbw2 q1); have d30 := bw_cell hb6 (row2_0 R32.out); have d31 := bw_cell hb6 (row2_1 R32.out); have d3f := frozen_of_cells (i := 0) (row_bw hb6 R32.out); have d3g := frozen_of_cells (i := 1) (row_bw hb6 R32.out))
          | (have HX := containsR_any (((hacc.after (bw_al (Below.refl _ _) _)).after (hb2.then hb6)).sl.rd) (c2_asks (g := w.heap.size) (tags := target) (l := rs) d1 (ht1.out.rd.after ((hb3.then hbw2).then hb6))); rw [hany.out] at HX; (with_reducible refine HX.mono ?_); rintro e w3 ⟨rfl, hb7⟩; have b0' := bw_cell hb7 b0; have b1' := bw_cell hb7 b1; have d0' := bw_cell hb7 d0; have d3' := bw_cell hb7 d3; have d1' := bw_cell hb7 d1; have g6' := bw_cell hb7 g6; have d30' := bw_cell hb7 d30; have d31' := bw_cell hb7 d31; have d3f' := frozen_of_cells (i := 0) (row_bw hb7 (row_bw hb6 R32.out)); have d3g' := frozen_of_cells (i := 1) (row_bw hb7 (row_bw hb6 R32.out)))
          | (have HX := del_any (P := Lo w1.heap.size) (((acc_lo hacc).after (bw_al (Below.refl _ _) _)).after (hb2.then (hb6.then hb7))) hs500 (c3_asksG (g := w2.heap.size) (p := fun x => hasB x target) g6' (c2_asksG (g := w.heap.size) (B := w.heap.size) (tags := target) (l := rs) d1' (ht1.out.below ((hb3.then hbw2).then (hb6.then hb7)) (fun b hb => hb)) (fun e => by have := (hown _ e).1; omega) (fun kk e => by have := (hown _ e).1; omega)) (fun e => by have := (hown _ e).2; omega)); (with_reducible refine HX.mono ?_); rintro e w4 ⟨u4, rfl, hg4, hacc4, hown4⟩; obtain ⟨P4, n4, c4, rfl, _, _, Hn4⟩ := hacc4.sl.form'; have Bc4 := Lib.hid (show w4.heap[w1.heap.size]? = some (.cells #[.string fm, .slice PA nA cA] 37) from (hg4.block _ (by have := ((hb6.then hb7)).size; omega) (fun e => by have := (hown _ e.symm).2; omega)).trans (row_bw (hb6.then hb7) Bc.out)); have hf4 := frozen_of_cells (i := 1) Bc4.out; have h40 := row2_0 Bc4.out; have h41 := row2_1 Bc4.out; have Bc7 := Lib.hid (set_row (v := .slice P4 n4 c4) Bc4.out); have h70 := row2_0 Bc7.out; have h71 := row2_1 Bc7.out; have R34 := Lib.hid (show w4.heap[w.heap.size + 1 + 1 + 1]? = some (.cells #[.string ⟨#[]⟩, .slice none 0 0] 37) from (hg4.block _ (by have := ((hb6.then hb7)).size; omega) (fun e => by have := (hown _ e.symm).1; omega)).trans (row_bw (hb6.then hb7) R32.out)); have R37 := Lib.hid (show (w4.setCell ⟨w1.heap.size, 1, none⟩ (.slice P4 n4 c4)).heap[w.heap.size + 1 + 1 + 1]? = _ from (set_old (by omega)).trans R34.out); have k30 := row2_0 R37.out; have k31 := row2_1 R37.out; have k3f := frozen_of_cells (i := 0) R37.out; have k3g := frozen_of_cells (i := 1) R37.out))
        have hbw4 : Bw w w4 := Acc.bw (base := W3.heap.size) ((hb3.then hbw2).then (hb6.then hb7)) hg4 (fun g e => (hown g e).1) hb3.size
        have hbw7 : Bw w (w4.setCell ⟨w1.heap.size, 1, none⟩ (.slice P4 n4 c4)) := bw_grown hbw4 (set_grown _ _ _ _) (by omega)
        have hacc7 := acc_unlo (hacc4.lo_grown (set_grown w4 w1.heap.size 1 (.slice P4 n4 c4)) (.inr (fun e => by rw [hown4] at e; have := (hown _ e).2; omega)) (fun g e => by injection e with e; subst e; exact Nat.lt_irrefl _))
        obtain ⟨f1, f2, f3, f4⟩ := chg_fin (b := fm) hbw7 R37.out (by omega) hacc7 (by omega) rfl
        refine bodyPost_ret (v := .agg #[.string fm, .slice P4 n4 c4]) (by simp [results, Tryd.f40, go_sem, f3, f4]) rfl ⟨_, rfl, f1, by rw [HR.out]; exact f2⟩
    · cases wild
      · by_cases h0 : cnt rs target = rs.length
        · have HR : Hid (R = rs) := by show _ = _; rw [Hv2.out, HL.out, h0]; simp
          have hany : Hid ((rs.any fun x => !hasB x target) = false) := by show _ = _; rw [decide_eq_true h0] at hcb; simpa using hcb
          clear Hv2 HL h0 hca hcb hcl
          go_enter Tryd.func40, Tryd.ntmps40
          go_wp2_with (first
            | ((with_reducible refine HC.out.mono ?_); rintro e w1 ⟨uc, rfl, hb1, hacc⟩; rw [← hW3] at hb1 hacc; obtain ⟨PA, nA, cA, rfl, _, _, HnA⟩ := hacc.sl.form'; have s1 := hb1.size; have hown := hacc.own; have hb5 : Bw W3 (w1.alloc (.cells #[.string fm, .slice PA nA cA] 37)) := bw_al hb1 _; have a2 := bw_cell hb5 q2)
            | ((with_reducible refine (HT.out _ hb5).mono ?_); rintro e w2 ⟨rfl, hb2⟩; have s2 := hb2.size; rw [sz_alloc] at s2; have hbw2 := hb5.then hb2; have Bc := Lib.hid (show w2.heap[w1.heap.size]? = some (.cells #[.string fm, .slice PA nA cA] 37) from row_bw hb2 (at_new rfl)); have R32 := Lib.hid (row_bw hbw2 R3.out); have hb6 : Bw w2 (w2.alloc (.cells #[(.func (.func 58) #[] #[.pointer (some ⟨w.heap.size, 0, none⟩)])] 75)) := bw_refl_al w2 _; have g6 := row_c0 (at_new (w := w2) (o := .cells #[(.func (.func 58) #[] #[.pointer (some ⟨w.heap.size, 0, none⟩)])] 75) rfl); have b0 := bw_cell hb6 (row2_0 Bc.out); have b1 := bw_cell hb6 (row2_1 Bc.out); have d0 := bw_cell hb6 (bw_cell hbw2 q0); have d3 := bw_cell hb6 (bw_cell hbw2 q3); have d1 := bw_cell hb6 (bw_cell hbw2 q1); have d30 := bw_cell hb6 (row2_0 R32.out); have d31 := bw_cell hb6 (row2_1 R32.out); have d3f := frozen_of_cells (i := 0) (row_bw hb6 R32.out); have d3g := frozen_of_cells (i := 1) (row_bw hb6 R32.out))
            | (have HX := containsR_any (((hacc.after (bw_al (Below.refl _ _) _)).after (hb2.then hb6)).sl.rd) (c3_asks (g := w2.heap.size) (p := fun x => hasB x target) g6 (c2_asks (g := w.heap.size) (tags := target) (l := rs) d1 (ht1.out.rd.after ((hb3.then hbw2).then hb6)))); rw [hany.out] at HX; (with_reducible refine HX.mono ?_); rintro e w3 ⟨rfl, hb7⟩; have b0' := bw_cell hb7 b0; have b1' := bw_cell hb7 b1; have d0' := bw_cell hb7 d0; have d3' := bw_cell hb7 d3; have d1' := bw_cell hb7 d1; have g6' := bw_cell hb7 g6; have d30' := bw_cell hb7 d30; have d31' := bw_cell hb7 d31; have d3f' := frozen_of_cells (i := 0) (row_bw hb7 (row_bw hb6 R32.out)); have d3g' := frozen_of_cells (i := 1) (row_bw hb7 (row_bw hb6 R32.out))))
          obtain ⟨f1, f2, f3, f4⟩ := chg_fin (b := fm) ((hb3.then hbw2).then (hb6.then hb7)) (row_bw (hb6.then hb7) R32.out) (by omega) ((hacc.after (bw_al (Below.refl _ _) _)).after (hb2.then (hb6.then hb7))) (by omega) rfl
          refine bodyPost_ret (v := .agg #[.string fm, .slice PA nA cA]) (by simp [results, Tryd.f40, go_sem, f3, f4]) rfl ⟨_, rfl, f1, by rw [HR.out]; exact f2⟩
        · have HR : Hid (R = rs.filter fun x => !hasB x target) := by show _ = _; rw [Hv2.out, HL.out, decide_eq_false h0]; simp
          have hany : Hid ((rs.any fun x => !hasB x target) = true) := by show _ = _; rw [decide_eq_false h0] at hcb; simpa using hcb
          clear Hv2 HL h0 hca hcb hcl
          go_enter Tryd.func40, Tryd.ntmps40
          go_wp2_with (first
            | ((with_reducible refine HC.out.mono ?_); rintro e w1 ⟨uc, rfl, hb1, hacc⟩; rw [← hW3] at hb1 hacc; obtain ⟨PA, nA, cA, rfl, _, _, HnA⟩ := hacc.sl.form'; have s1 := hb1.size; have hown := hacc.own; have hb5 : Bw W3 (w1.alloc (.cells #[.string fm, .slice PA nA cA] 37)) := bw_al hb1 _; have a2 := bw_cell hb5 q2)
            | ((with_reducible refine (HT.out _ hb5).mono ?_); rintro e w2 ⟨rfl, hb2⟩; have s2 := hb2.size; rw [sz_alloc] at s2; have hbw2 := hb5.then hb2; have Bc := Lib.hid (show w2.heap[w1.heap.size]? = some (.cells #[.string fm, .slice PA nA cA] 37) from row_bw hb2 (at_new rfl)); have R32 := Lib.hid (row_bw hbw2 R3.out); have hb6 : Bw w2 (w2.alloc (.cells #[(.func (.func 58) #[] #[.pointer (some ⟨w.heap.size, 0, none⟩)])] 75)) := bw_refl_al w2 _; have g6 := row_c0 (at_new (w := w2) (o := .cells #[(.func (.func 58) #[] #[.pointer (some ⟨w.heap.size, 0, none⟩)])] 75) rfl); have b0 := bw_cell hb6 (row2_0 Bc.out); have b1 := bw_cell hb6 (row2_1 Bc.out); have d0 := bw_cell hb6 (bw_cell hbw2 q0); have d3 := bw_cell hb6 (bw_cell hbw2 q3); have d1 := bw_cell hb6 (bw_cell hbw2 q1); have d30 := bw_cell hb6 (row2_0 R32.out); have d31 := bw_cell hb6 (row2_1 R32.out); have d3f := frozen_of_cells (i := 0) (row_bw hb6 R32.out); have d3g := frozen_of_cells (i := 1) (row_bw hb6 R32.out))
            | (have HX := containsR_any (((hacc.after (bw_al (Below.refl _ _) _)).after (hb2.then hb6)).sl.rd) (c3_asks (g := w2.heap.size) (p := fun x => hasB x target) g6 (c2_asks (g := w.heap.size) (tags := target) (l := rs) d1 (ht1.out.rd.after ((hb3.then hbw2).then hb6)))); rw [hany.out] at HX; (with_reducible refine HX.mono ?_); rintro e w3 ⟨rfl, hb7⟩; have b0' := bw_cell hb7 b0; have b1' := bw_cell hb7 b1; have d0' := bw_cell hb7 d0; have d3' := bw_cell hb7 d3; have d1' := bw_cell hb7 d1; have g6' := bw_cell hb7 g6; have d30' := bw_cell hb7 d30; have d31' := bw_cell hb7 d31; have d3f' := frozen_of_cells (i := 0) (row_bw hb7 (row_bw hb6 R32.out)); have d3g' := frozen_of_cells (i := 1) (row_bw hb7 (row_bw hb6 R32.out)))
            | (have HX := del_any (P := Lo w1.heap.size) (((acc_lo hacc).after (bw_al (Below.refl _ _) _)).after (hb2.then (hb6.then hb7))) hs500 (c2_asksG (g := w.heap.size) (B := w.heap.size) (tags := target) (l := rs) d1' (ht1.out.below ((hb3.then hbw2).then (hb6.then hb7)) (fun b hb => hb)) (fun e => by have := (hown _ e).1; omega) (fun kk e => by have := (hown _ e).1; omega)); (with_reducible refine HX.mono ?_); rintro e w4 ⟨u4, rfl, hg4, hacc4, hown4⟩; obtain ⟨P4, n4, c4, rfl, _, _, Hn4⟩ := hacc4.sl.form'; have Bc4 := Lib.hid (show w4.heap[w1.heap.size]? = some (.cells #[.string fm, .slice PA nA cA] 37) from (hg4.block _ (by have := ((hb6.then hb7)).size; omega) (fun e => by have := (hown _ e.symm).2; omega)).trans (row_bw (hb6.then hb7) Bc.out)); have hf4 := frozen_of_cells (i := 1) Bc4.out; have h40 := row2_0 Bc4.out; have h41 := row2_1 Bc4.out; have Bc7 := Lib.hid (set_row (v := .slice P4 n4 c4) Bc4.out); have h70 := row2_0 Bc7.out; have h71 := row2_1 Bc7.out; have R34 := Lib.hid (show w4.heap[w.heap.size + 1 + 1 + 1]? = some (.cells #[.string ⟨#[]⟩, .slice none 0 0] 37) from (hg4.block _ (by have := ((hb6.then hb7)).size; omega) (fun e => by have := (hown _ e.symm).1; omega)).trans (row_bw (hb6.then hb7) R32.out)); have R37 := Lib.hid (show (w4.setCell ⟨w1.heap.size, 1, none⟩ (.slice P4 n4 c4)).heap[w.heap.size + 1 + 1 + 1]? = _ from (set_old (by omega)).trans R34.out); have k30 := row2_0 R37.out; have k31 := row2_1 R37.out; have k3f := frozen_of_cells (i := 0) R37.out; have k3g := frozen_of_cells (i := 1) R37.out))
          have hbw4 : Bw w w4 := Acc.bw (base := W3.heap.size) ((hb3.then hbw2).then (hb6.then hb7)) hg4 (fun g e => (hown g e).1) hb3.size
          have hbw7 : Bw w (w4.setCell ⟨w1.heap.size, 1, none⟩ (.slice P4 n4 c4)) := bw_grown hbw4 (set_grown _ _ _ _) (by omega)
          have hacc7 := acc_unlo (hacc4.lo_grown (set_grown w4 w1.heap.size 1 (.slice P4 n4 c4)) (.inr (fun e => by rw [hown4] at e; have := (hown _ e).2; omega)) (fun g e => by injection e with e; subst e; exact Nat.lt_irrefl _))
          obtain ⟨f1, f2, f3, f4⟩ := chg_fin (b := fm) hbw7 R37.out (by omega) hacc7 (by omega) rfl
          refine bodyPost_ret (v := .agg #[.string fm, .slice P4 n4 c4]) (by simp [results, Tryd.f40, go_sem, f3, f4]) rfl ⟨_, rfl, f1, by rw [HR.out]; exact f2⟩
      · have HR : Hid (R = rs.filter fun x => !hasB x target) := by show _ = _; rw [Hv2.out, HL.out]; simp
        clear Hv2 HL hca hcb hcl
        go_enter Tryd.func40, Tryd.ntmps40
        go_wp2_with (first
          | ((with_reducible refine HC.out.mono ?_); rintro e w1 ⟨uc, rfl, hb1, hacc⟩; rw [← hW3] at hb1 hacc; obtain ⟨PA, nA, cA, rfl, _, _, HnA⟩ := hacc.sl.form'; have s1 := hb1.size; have hown := hacc.own; have hb5 : Bw W3 (w1.alloc (.cells #[.string fm, .slice PA nA cA] 37)) := bw_al hb1 _; have a2 := bw_cell hb5 q2)
          | ((with_reducible refine (HT.out _ hb5).mono ?_); rintro e w2 ⟨rfl, hb2⟩; have s2 := hb2.size; rw [sz_alloc] at s2; have hbw2 := hb5.then hb2; have Bc := Lib.hid (show w2.heap[w1.heap.size]? = some (.cells #[.string fm, .slice PA nA cA] 37) from row_bw hb2 (at_new rfl)); have R32 := Lib.hid (row_bw hbw2 R3.out); have hb6 : Bw w2 (w2.alloc (.cells #[(.func (.func 58) #[] #[.pointer (some ⟨w.heap.size, 0, none⟩)])] 75)) := bw_refl_al w2 _; have g6 := row_c0 (at_new (w := w2) (o := .cells #[(.func (.func 58) #[] #[.pointer (some ⟨w.heap.size, 0, none⟩)])] 75) rfl); have b0 := bw_cell hb6 (row2_0 Bc.out); have b1 := bw_cell hb6 (row2_1 Bc.out); have d0 := bw_cell hb6 (bw_cell hbw2 q0); have d3 := bw_cell hb6 (bw_cell hbw2 q3); have d1 := bw_cell hb6 (bw_cell hbw2 q1); have d30 := bw_cell hb6 (row2_0 R32.out); have d31 := bw_cell hb6 (row2_1 R32.out); have d3f := frozen_of_cells (i := 0) (row_bw hb6 R32.out); have d3g := frozen_of_cells (i := 1) (row_bw hb6 R32.out))
          | (have HX := del_any (P := Lo w1.heap.size) (((acc_lo hacc).after (bw_al (Below.refl _ _) _)).after (hb2.then hb6)) hs500 (c2_asksG (g := w.heap.size) (B := w.heap.size) (tags := target) (l := rs) d1 (ht1.out.below ((hb3.then hbw2).then hb6) (fun b hb => hb)) (fun e => by have := (hown _ e).1; omega) (fun kk e => by have := (hown _ e).1; omega)); (with_reducible refine HX.mono ?_); rintro e w4 ⟨u4, rfl, hg4, hacc4, hown4⟩; obtain ⟨P4, n4, c4, rfl, _, _, Hn4⟩ := hacc4.sl.form'; have Bc4 := Lib.hid (show w4.heap[w1.heap.size]? = some (.cells #[.string fm, .slice PA nA cA] 37) from (hg4.block _ (by have := (hb6).size; omega) (fun e => by have := (hown _ e.symm).2; omega)).trans (row_bw hb6 Bc.out)); have hf4 := frozen_of_cells (i := 1) Bc4.out; have h40 := row2_0 Bc4.out; have h41 := row2_1 Bc4.out; have Bc7 := Lib.hid (set_row (v := .slice P4 n4 c4) Bc4.out); have h70 := row2_0 Bc7.out; have h71 := row2_1 Bc7.out; have R34 := Lib.hid (show w4.heap[w.heap.size + 1 + 1 + 1]? = some (.cells #[.string ⟨#[]⟩, .slice none 0 0] 37) from (hg4.block _ (by have := (hb6).size; omega) (fun e => by have := (hown _ e.symm).1; omega)).trans (row_bw hb6 R32.out)); have R37 := Lib.hid (show (w4.setCell ⟨w1.heap.size, 1, none⟩ (.slice P4 n4 c4)).heap[w.heap.size + 1 + 1 + 1]? = _ from (set_old (by omega)).trans R34.out); have k30 := row2_0 R37.out; have k31 := row2_1 R37.out; have k3f := frozen_of_cells (i := 0) R37.out; have k3g := frozen_of_cells (i := 1) R37.out))
        have hbw4 : Bw w w4 := Acc.bw (base := W3.heap.size) ((hb3.then hbw2).then hb6) hg4 (fun g e => (hown g e).1) hb3.size
        have hbw7 : Bw w (w4.setCell ⟨w1.heap.size, 1, none⟩ (.slice P4 n4 c4)) := bw_grown hbw4 (set_grown _ _ _ _) (by omega)
        have hacc7 := acc_unlo (hacc4.lo_grown (set_grown w4 w1.heap.size 1 (.slice P4 n4 c4)) (.inr (fun e => by rw [hown4] at e; have := (hown _ e).2; omega)) (fun g e => by injection e with e; subst e; exact Nat.lt_irrefl _))
        obtain ⟨f1, f2, f3, f4⟩ := chg_fin (b := fm) hbw7 R37.out (by omega) hacc7 (by omega) rfl
        refine bodyPost_ret (v := .agg #[.string fm, .slice P4 n4 c4]) (by simp [results, Tryd.f40, go_sem, f3, f4]) rfl ⟨_, rfl, f1, by rw [HR.out]; exact f2⟩
end Go.Proofs.YthecmbmidoagaaaDoor

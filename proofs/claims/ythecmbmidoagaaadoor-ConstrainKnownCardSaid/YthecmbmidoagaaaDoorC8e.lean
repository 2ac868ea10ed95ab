/- The contract of 'Step' (the program's). Conditions: what the arguments read as; the library's tables. -/
import Derived.Test.YthecmbmidoagaaaDoorC8d
namespace Go.Proofs.YthecmbmidoagaaaDoor
open Go.RowKit Go.Maps
open Pl

theorem validR_op {r : Rul} (h : validR nameB r = true) : r.op = 1 ∨ r.op = 2 := by
  unfold validR at h
  simp only [Bool.and_eq_true, Bool.or_eq_true, decide_eq_true_eq] at h
  exact h.1.1.1
theorem validR_tests {r : Rul} (h : validR nameB r = true) : ∀ t ∈ r.tests, validT nameB t = true := by
  unfold validR at h
  simp only [Bool.and_eq_true] at h
  exact List.all_eq_true.1 h.2
theorem validL_small {l : List Coh} {k : Nat} {c : Coh} (h : validL nameB l = true) (hc : l[k]? = some c) : SmallR c.2 := by
  unfold validL at h
  simp only [Bool.and_eq_true] at h
  have := List.all_eq_true.1 h.2 c (List.mem_of_getElem? hc)
  unfold validC at this
  simp only [Bool.and_eq_true, decide_eq_true_eq] at this
  refine ⟨by omega, fun r hr => ?_⟩
  have := List.all_eq_true.1 this.2 r hr
  unfold nmT at this
  simp only [Bool.and_eq_true, decide_eq_true_eq] at this
  omega

/-- What Step hands back. -/
def StR (w : World) (s : Coh × Bool × Int) (e : Ending) (w' : World) : Prop :=
  ∃ u, e = .returned (.tuple #[.agg #[.string s.1.1, u], .bool s.2.1, .int .i64 s.2.2]) ∧ Bw w w' ∧ Sl tRdg w' (Hi w.heap.size) u s.1.2
theorem str_bad {w w' : World} {s : Coh × Bool × Int} {e : Ending} (hs : s = ((⟨#[]⟩, []), false, 1)) (he : e = .returned (.tuple #[.agg #[.string ⟨#[]⟩, .slice none 0 0], .bool false, .int .i64 1])) (hb : Bw w w') : StR w s e w' := by
  subst hs; exact ⟨_, he, hb, Sl.nil⟩
theorem stp_bad {r : Rul} {l : List Coh} {i : Int} (h : ¬ (validR nameB r = true ∧ validL nameB l = true ∧ inL l i = true)) : stp nameB r l i = ((⟨#[]⟩, []), false, 1) := by
  unfold stp
  rw [if_neg]
  intro h2
  simp only [Bool.and_eq_true] at h2
  exact h ⟨h2.1.1, h2.1.2, h2.2⟩
theorem stp_good {r : Rul} {l : List Coh} {k : Nat} {c : Coh} (h1 : validR nameB r = true) (h2 : validL nameB l = true) (hc : l[k]? = some c) : stp nameB r l k = (chg r l k, decide ((chg r l k).2.length < c.2.length), 0) := by
  have hk := (List.getElem?_eq_some_iff.1 hc).1
  unfold stp
  rw [if_pos (by rw [h1, h2]; unfold inL; simp; omega)]
  simp only [Int.toNat_natCast, hc]
theorem bw_set2 {w wX : World} {n : Nat} {a b : Value} (hbw : Bw w wX) (hn : w.heap.size ≤ n) : Bw w ((wX.setCell ⟨n, 0, none⟩ a).setCell ⟨n, 1, none⟩ b) := bw_grown (bw_grown hbw (set_grown _ _ _ _) hn) (set_grown _ _ _ _) hn
theorem sl_set {w : World} {n i B : Nat} {v u : Value} {xs : List Rdg} (h : Sl tRdg w (Hi B) u xs) (hn : n < B) : Sl tRdg (w.setCell ⟨n, i, none⟩ v) (Hi B) u xs :=
  h.keep fun b hb => ⟨hb, set_old (by have : B ≤ b := hb; omega)⟩
theorem cell_heap {w w' : World} {p : Addr} {v : Value} (hh : w'.heap = w.heap) (h : w.cell? p = some v) : w'.cell? p = some v := by
  rw [← h]; unfold World.cell?; rw [hh]

set_option maxRecDepth 100000 in
set_option maxHeartbeats 8000000 in
theorem step_any {u1 u2 v : Value} {r : Rul} {l : List Coh} {i : Int} {w : World} (hT : Tb w) (h1 : Rd tStr w u1 r.target) (h2 : Rd tTst w u2 r.tests) (hl : Rd tCoh w v l) :
    Calls Tryd.prog 18 #[.agg #[.int .i64 r.op, u1, u2, .bool r.wild], v, .int .i64 i] w (StR w (stp nameB r l i)) := by
  obtain ⟨op, target, tests, wild⟩ := r
  simp only at *
  obtain ⟨A1, c1, rfl, _, _⟩ := h2.form
  obtain ⟨A, c, rfl, _, _⟩ := hl.form
  have hlm := hl.len_le
  have hb2 : Bw w (((w.alloc (.cells #[.int .i64 op, u1, .slice A1 tests.length c1, .bool wild] 34)).alloc (.cells #[.string ⟨#[]⟩, .slice none 0 0] 37))) := bw_al (bw_refl_al w _) _
  have HC := Lib.hid (rule_any (r := ⟨op, target, tests, wild⟩) (hT.after hb2) (h1.after hb2) (h2.after hb2))
  have HL := Lib.hid (fun (W : World) (k : Bw w W) => valid_any (hT.after k) (hl.after k))
  have hr0 : (((w.alloc (.cells #[.int .i64 op, u1, .slice A1 tests.length c1, .bool wild] 34)).alloc (.cells #[.string ⟨#[]⟩, .slice none 0 0] 37))).heap[w.heap.size + 1]? = some (.cells #[.string ⟨#[]⟩, .slice none 0 0] 37) := at_new (by simp)
  have R0 := Lib.hid hr0
  have r00 := row2_0 hr0
  have r01 := row2_1 hr0
  have rf0 := frozen_of_cells (i := 0) hr0
  have rf1 := frozen_of_cells (i := 1) hr0
  clear hr0
  cases q1 : validR nameB ⟨op, target, tests, wild⟩ <;> rw [q1] at HC
  · have Hs := Lib.hid (stp_bad (r := ⟨op, target, tests, wild⟩) (l := l) (i := i) (fun h => by rw [q1] at h; simp at h))
    clear h1 h2 hl q1
    go_enter Tryd.func18, Tryd.ntmps18
    go_wp2_with ((with_reducible refine HC.out.mono ?_); rintro e wA ⟨rfl, hbA⟩; have t0 := row2_0 (row_bw hbA R0.out); have t1 := row2_1 (row_bw hbA R0.out); have tf0 := frozen_of_cells (i := 0) (row_bw hbA R0.out); have tf1 := frozen_of_cells (i := 1) (row_bw hbA R0.out))
    have e2 := Lib.hid (set_row (v := .slice none 0 0) (set_row0 (v := .string ⟨#[]⟩) (row_bw hbA R0.out)))
    have f3 := row2_0 e2.out
    have f4 := row2_1 e2.out
    refine bodyPost_ret (v := .tuple #[.agg #[.string ⟨#[]⟩, .slice none 0 0], .bool false, .int .i64 1]) (by simp [results, Tryd.f18, go_sem, f3, f4]) rfl (str_bad Hs.out rfl (bw_set2 (hb2.then hbA) (Nat.le_succ _)))
  · cases q2 : validL nameB l <;> rw [q2] at HL
    · have Hs := Lib.hid (stp_bad (r := ⟨op, target, tests, wild⟩) (l := l) (i := i) (fun h => by rw [q2] at h; simp at h))
      clear h1 h2 hl q1 q2
      go_enter Tryd.func18, Tryd.ntmps18
      go_wp2_with (first | ((with_reducible refine HC.out.mono ?_); rintro e wA ⟨rfl, hbA⟩; have t0 := row2_0 (row_bw hbA R0.out); have t1 := row2_1 (row_bw hbA R0.out); have tf0 := frozen_of_cells (i := 0) (row_bw hbA R0.out); have tf1 := frozen_of_cells (i := 1) (row_bw hbA R0.out)) | ((with_reducible refine (HL.out _ (hb2.then hbA)).mono ?_); rintro e wB ⟨rfl, hbB⟩; have s0 := row2_0 (row_bw (hbA.then hbB) R0.out); have s1 := row2_1 (row_bw (hbA.then hbB) R0.out); have sf0 := frozen_of_cells (i := 0) (row_bw (hbA.then hbB) R0.out); have sf1 := frozen_of_cells (i := 1) (row_bw (hbA.then hbB) R0.out)))
      have e2 := Lib.hid (set_row (v := .slice none 0 0) (set_row0 (v := .string ⟨#[]⟩) (row_bw (hbA.then hbB) R0.out)))
      have f3 := row2_0 e2.out
      have f4 := row2_1 e2.out
      refine bodyPost_ret (v := .tuple #[.agg #[.string ⟨#[]⟩, .slice none 0 0], .bool false, .int .i64 1]) (by simp [results, Tryd.f18, go_sem, f3, f4]) rfl (str_bad Hs.out rfl (bw_set2 (hb2.then (hbA.then hbB)) (Nat.le_succ _)))
    · by_cases hin0 : 0 ≤ i
      · obtain ⟨k, rfl⟩ : ∃ k : Nat, i = k := ⟨i.toNat, by omega⟩
        by_cases hin1 : k < l.length
        · have hin1' : ¬ (l.length : Int) ≤ k := by omega
          have hin2 : (k : Int) < l.length := by omega
          have hin3 : ¬ (k : Int) < 0 := by omega
          obtain ⟨bb, off, y, uy, rfl, hy, _, hyr, e0, e1⟩ := hl.coh hin1
          obtain ⟨fm, rs⟩ := y
          simp only at *
          obtain ⟨A3, c3, rfl, _, _⟩ := hyr.form
          have Hs := Lib.hid (stp_good q1 q2 hy.out)
          have HX := Lib.hid (fun (W : World) (kk : Bw w W) => changed_any (r := ⟨op, target, tests, wild⟩) (k := k) (h1.after kk) (h2.after kk) (hl.after kk) hy.out (validR_op q1) (fun t ht => validT_at (validR_tests q1 t ht)) (validL_len q2) (validL_small q2 hy.out))
          have Hf := Lib.hid (chg_form (r := ⟨op, target, tests, wild⟩) hy.out)
          have K0 : ∀ w', Bw (((w.alloc (.cells #[.int .i64 op, u1, .slice A1 tests.length c1, .bool wild] 34)).alloc (.cells #[.string ⟨#[]⟩, .slice none 0 0] 37))) w' → w'.cell? ⟨w.heap.size, 0, none⟩ = some (.int .i64 op) ∧ w'.cell? ⟨w.heap.size, 1, none⟩ = some u1 ∧ w'.cell? ⟨w.heap.size, 2, none⟩ = some (.slice A1 tests.length c1) ∧ w'.cell? ⟨w.heap.size, 3, none⟩ = some (.bool wild) := fun w' kk => by
            have e := row_bw kk (at_old (at_new rfl))
            exact ⟨row4_0 e, row4_1 e, row4_2 e, row4_3 e⟩
          clear h1 h2 hl q1 q2 hy hyr
          generalize chg ⟨op, target, tests, wild⟩ l k = CH at *
          obtain ⟨fm', rs'⟩ := CH
          simp only at *
          obtain rfl : fm = fm' := Hf.out.symm
          go_enter Tryd.func18, Tryd.ntmps18
          go_wp2_with (first | ((with_reducible refine HC.out.mono ?_); rintro e wA ⟨rfl, hbA⟩; have t0 := row2_0 (row_bw hbA R0.out); have t1 := row2_1 (row_bw hbA R0.out); have tf0 := frozen_of_cells (i := 0) (row_bw hbA R0.out); have tf1 := frozen_of_cells (i := 1) (row_bw hbA R0.out)) | ((with_reducible refine (HL.out _ (hb2.then hbA)).mono ?_); rintro e wB ⟨rfl, hbB⟩; have s0 := row2_0 (row_bw (hbA.then hbB) R0.out); have s1 := row2_1 (row_bw (hbA.then hbB) R0.out); have sf0 := frozen_of_cells (i := 0) (row_bw (hbA.then hbB) R0.out); have sf1 := frozen_of_cells (i := 1) (row_bw (hbA.then hbB) R0.out); obtain ⟨z0, z1, z2, z3⟩ := K0 _ (hbA.then hbB)) | ((with_reducible refine (HX.out _ ((hb2.then hbA).then hbB)).mono ?_); rintro e wC ⟨uC, rfl, hbC, hsC⟩; obtain ⟨PC, nC, cC, rfl, _, _, HnC⟩ := hsC.form'; have R3 := Lib.hid (row_bw ((hbA.then hbB).then hbC) R0.out); have v0 := row2_0 R3.out; have v1 := row2_1 R3.out; have vf0 := frozen_of_cells (i := 0) R3.out; have vf1 := frozen_of_cells (i := 1) R3.out; have R4 := Lib.hid (set_row (v := .slice PC nC cC) (set_row0 (v := .string fm) R3.out)); have x0 := row2_0 R4.out; have x1 := row2_1 R4.out; have xf0 := frozen_of_cells (i := 0) R4.out; have xf1 := frozen_of_cells (i := 1) R4.out; have y1 := bw_cell (bw_set2 (n := w.heap.size + 1) (a := .string fm) (b := .slice PC nC cC) (((hb2.then hbA).then hbB).then hbC) (Nat.le_succ _)) e1))
          have KA : ∀ w' : World, w'.heap = ((wC.setCell ⟨w.heap.size + 1, 0, none⟩ (.string fm)).setCell ⟨w.heap.size + 1, 1, none⟩ (.slice PC nC cC)).heap → w'.cell? ⟨w.heap.size + 1, 0, none⟩ = some (.string fm) ∧ w'.cell? ⟨w.heap.size + 1, 1, none⟩ = some (.slice PC nC cC) ∧ w'.cell? ⟨bb, off + k * 2 + 1, none⟩ = some (.slice A3 rs.length c3) := fun w' hh => ⟨cell_heap hh x0, cell_heap hh x1, cell_heap hh y1⟩
          have R5 := Lib.hid (set_row (v := .slice PC nC cC) (set_row0 (v := .string fm) R4.out))
          have y2 := bw_cell (bw_set2 (n := w.heap.size + 1) (a := .string fm) (b := .slice PC nC cC) (bw_set2 (n := w.heap.size + 1) (a := .string fm) (b := .slice PC nC cC) (((hb2.then hbA).then hbB).then hbC) (Nat.le_succ _)) (Nat.le_succ _)) e1
          have KB : ∀ w' : World, w'.heap = ((((wC.setCell ⟨w.heap.size + 1, 0, none⟩ (.string fm)).setCell ⟨w.heap.size + 1, 1, none⟩ (.slice PC nC cC)).setCell ⟨w.heap.size + 1, 0, none⟩ (.string fm)).setCell ⟨w.heap.size + 1, 1, none⟩ (.slice PC nC cC)).heap → w'.cell? ⟨w.heap.size + 1, 0, none⟩ = some (.string fm) ∧ w'.cell? ⟨w.heap.size + 1, 1, none⟩ = some (.slice PC nC cC) ∧ w'.cell? ⟨bb, off + k * 2 + 1, none⟩ = some (.slice A3 rs.length c3) := fun w' hh => ⟨cell_heap hh (row2_0 R5.out), cell_heap hh (row2_1 R5.out), cell_heap hh y2⟩
          go_region_held3 (fun w' => w'.cell? ⟨w.heap.size + 1, 0, none⟩ = some (.string fm) ∧ w'.cell? ⟨w.heap.size + 1, 1, none⟩ = some (.slice PC nC cC) ∧ w'.cell? ⟨bb, off + k * 2 + 1, none⟩ = some (.slice A3 rs.length c3))
            (first | exact KA _ rfl | exact KB _ rfl)
            (fail)
          go_wp2_with fail
          have f3 := row2_0 R5.out
          have f4 := row2_1 R5.out
          have hbF := bw_set2 (n := w.heap.size + 1) (a := .string fm) (b := .slice PC nC cC) (bw_set2 (n := w.heap.size + 1) (a := .string fm) (b := .slice PC nC cC) (((hb2.then hbA).then hbB).then hbC) (Nat.le_succ _)) (Nat.le_succ _)
          have hs4 : w.heap.size + 1 < wB.heap.size := by have := ((hb2.then hbA).then hbB).size; have h2 := (hbA.then hbB).size; simp at h2; omega
          have hsF := (sl_set (n := w.heap.size + 1) (i := 1) (v := .slice PC nC cC) (sl_set (n := w.heap.size + 1) (i := 0) (v := .string fm) (sl_set (n := w.heap.size + 1) (i := 1) (v := .slice PC nC cC) (sl_set (n := w.heap.size + 1) (i := 0) (v := .string fm) hsC hs4) hs4) hs4) hs4).drew
          refine bodyPost_ret (v := .tuple #[.agg #[.string fm, .slice PC nC cC], .bool (decide (nC < rs.length)), .int .i64 0]) (by simp [results, Tryd.f18, go_sem, f3, f4]) rfl ?_
          rw [Hs.out]
          exact ⟨_, by rw [HnC.out], hbF.drew, hsF.weaken fun b hb => by have : wB.heap.size ≤ b := hb; show w.heap.size ≤ b; omega⟩
        · have hin1' : (l.length : Int) ≤ k := by omega
          have hin3 : ¬ (k : Int) < 0 := by omega
          have Hs := Lib.hid (stp_bad (r := ⟨op, target, tests, wild⟩) (l := l) (i := k) (fun h => by have := h.2.2; unfold inL at this; simp at this; omega))
          clear h1 h2 hl q1 q2
          go_enter Tryd.func18, Tryd.ntmps18
          go_wp2_with (first | ((with_reducible refine HC.out.mono ?_); rintro e wA ⟨rfl, hbA⟩; have t0 := row2_0 (row_bw hbA R0.out); have t1 := row2_1 (row_bw hbA R0.out); have tf0 := frozen_of_cells (i := 0) (row_bw hbA R0.out); have tf1 := frozen_of_cells (i := 1) (row_bw hbA R0.out)) | ((with_reducible refine (HL.out _ (hb2.then hbA)).mono ?_); rintro e wB ⟨rfl, hbB⟩; have s0 := row2_0 (row_bw (hbA.then hbB) R0.out); have s1 := row2_1 (row_bw (hbA.then hbB) R0.out); have sf0 := frozen_of_cells (i := 0) (row_bw (hbA.then hbB) R0.out); have sf1 := frozen_of_cells (i := 1) (row_bw (hbA.then hbB) R0.out)))
          have e2 := Lib.hid (set_row (v := .slice none 0 0) (set_row0 (v := .string ⟨#[]⟩) (row_bw (hbA.then hbB) R0.out)))
          have f3 := row2_0 e2.out
          have f4 := row2_1 e2.out
          refine bodyPost_ret (v := .tuple #[.agg #[.string ⟨#[]⟩, .slice none 0 0], .bool false, .int .i64 1]) (by simp [results, Tryd.f18, go_sem, f3, f4]) rfl (str_bad Hs.out rfl (bw_set2 (hb2.then (hbA.then hbB)) (Nat.le_succ _)))
      · have hin3 : i < 0 := by omega
        have Hs := Lib.hid (stp_bad (r := ⟨op, target, tests, wild⟩) (l := l) (i := i) (fun h => by have := h.2.2; unfold inL at this; simp at this; omega))
        clear h1 h2 hl q1 q2
        go_enter Tryd.func18, Tryd.ntmps18
        go_wp2_with (first | ((with_reducible refine HC.out.mono ?_); rintro e wA ⟨rfl, hbA⟩; have t0 := row2_0 (row_bw hbA R0.out); have t1 := row2_1 (row_bw hbA R0.out); have tf0 := frozen_of_cells (i := 0) (row_bw hbA R0.out); have tf1 := frozen_of_cells (i := 1) (row_bw hbA R0.out)) | ((with_reducible refine (HL.out _ (hb2.then hbA)).mono ?_); rintro e wB ⟨rfl, hbB⟩; have s0 := row2_0 (row_bw (hbA.then hbB) R0.out); have s1 := row2_1 (row_bw (hbA.then hbB) R0.out); have sf0 := frozen_of_cells (i := 0) (row_bw (hbA.then hbB) R0.out); have sf1 := frozen_of_cells (i := 1) (row_bw (hbA.then hbB) R0.out)))
        have e2 := Lib.hid (set_row (v := .slice none 0 0) (set_row0 (v := .string ⟨#[]⟩) (row_bw (hbA.then hbB) R0.out)))
        have f3 := row2_0 e2.out
        have f4 := row2_1 e2.out
        refine bodyPost_ret (v := .tuple #[.agg #[.string ⟨#[]⟩, .slice none 0 0], .bool false, .int .i64 1]) (by simp [results, Tryd.f18, go_sem, f3, f4]) rfl (str_bad Hs.out rfl (bw_set2 (hb2.then (hbA.then hbB)) (Nat.le_succ _)))
end Go.Proofs.YthecmbmidoagaaaDoor

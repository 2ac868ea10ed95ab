/- The walk of the statement ConstrainOpposite. -/
import Derived.Test.YthecmbmidoagaaaDoorCC
namespace Go.Proofs.YthecmbmidoagaaaDoor
open Go.RowKit Go.Maps
open Pl

theorem infoT : (Tryd.prog.info? 28).map (fun i => (i.zero, i.size, i.bytes)) = some (some (.agg #[.int .i64 0, .bool false, .bool false, .bool false, .slice none 0 0, .slice none 0 0]), 6, 64) := by kernel_rfl
/-- The two parts of a list of tests. -/
theorem cut_head {b off n c k : Nat} (hk : k < n) (hc : n ≤ c) (W : World) :
    (Instr.slice 32 (.slice (some ⟨b, off, none⟩) n c) none (some (.int .i64 (k : Int))) none).run Tryd.prog W = .ok (.slice (some ⟨b, off, none⟩) k c) W := by
  obtain ⟨i, hi, _, hi3, _⟩ := info_parts infoT
  have hb1 : (Instr.sliceBound (.int .i64 (k : Int)) c .sliceAcap).run Tryd.prog W = .ok k W := by have := run_sliceBound (P := Tryd.prog) W .i64 (k : Int) c .sliceAcap (by omega) (by omega); simpa using this
  have ea : (⟨b, off, none⟩ : Addr).add 0 = ⟨b, off, none⟩ := rfl
  simp [Instr.slice, run_underlying Tryd.underlying32, Instr.sliceBounds, hb1, sizeOf, typeInfo, hi, Result.andThen, ea]
theorem cut_tail {b off n c k : Nat} (hk : k ≤ n) (W : World) :
    (Instr.slice 32 (.slice (some ⟨b, off, none⟩) n c) (some (.int .i64 (k : Int))) none none).run Tryd.prog W = .ok (.slice (if c = k then some ⟨b, off, none⟩ else (some (⟨b, off, none⟩ : Addr)).map (·.add (k * 6))) (n - k) (c - k)) W := by
  obtain ⟨i, hi, _, hi3, _⟩ := info_parts infoT
  have hb1 : (Instr.sliceBound (.int .i64 (k : Int)) n .sliceB).run Tryd.prog W = .ok k W := by have := run_sliceBound (P := Tryd.prog) W .i64 (k : Int) n .sliceB (by omega) (by omega); simpa using this
  simp [Instr.slice, run_underlying Tryd.underlying32, Instr.sliceBounds, hb1, sizeOf, typeInfo, hi, Result.andThen, hi3]
theorem tail_rd {b off c k : Nat} {xs : List Tst} (hk : k ≤ xs.length) : ∃ B m d, (∀ W, (Instr.slice 32 (.slice (some ⟨b, off, none⟩) xs.length c) (some (.int .i64 (k : Int))) none none).run Tryd.prog W = .ok (.slice B m d) W) ∧ ∀ (W : World) (D : Nat → Prop), Sl tTst W D (.slice (some ⟨b, off, none⟩) xs.length c) xs → Sl tTst W D (.slice B m d) (xs.drop k) :=
  ⟨_, _, _, fun W => cut_tail hk W, fun W D h => by
    have := h.cut (l := k) (n := xs.length) (m := xs.length - k) hk (Nat.le_refl _) rfl
    rw [List.take_length] at this
    exact this⟩
theorem validR_sub {op : Int} {target : List ByteArray} {tests ts : List Tst} {wild : Bool} (h : validR nameB ⟨op, target, tests, wild⟩ = true) (hl : ts.length ≤ tests.length) (hs : ∀ t ∈ ts, t ∈ tests) : validR nameB ⟨op, target, ts, wild⟩ = true := by
  unfold validR at h ⊢
  simp only [Bool.and_eq_true, decide_eq_true_eq, List.all_eq_true] at h ⊢
  exact ⟨⟨h.1.1, Nat.le_trans hl h.1.2⟩, fun t ht => h.2 t (hs t ht)⟩
theorem few_len {tests : List Tst} {n : Nat} : (tests.take n ++ tests.drop (n + 1)).length ≤ tests.length := by
  rw [List.length_append, List.length_take, List.length_drop]; omega
theorem few_mem {tests : List Tst} {n : Nat} : ∀ t ∈ tests.take n ++ tests.drop (n + 1), t ∈ tests := fun t ht => by
  rcases List.mem_append.1 ht with h | h
  · exact List.mem_of_mem_take h
  · exact List.mem_of_mem_drop h

set_option maxRecDepth 100000 in
set_option maxHeartbeats 8000000 in
theorem opposite_walk {u1 u2 v : Value} {r : Rul} {l : List Coh} {i number : Int} {w : World} (hT : Tb w) (hi : inI64 r.op) (h1 : Rd tStr w u1 r.target) (h2 : Rd tTst w u2 r.tests) (hl : Rd tCoh w v l) :
    Calls Tryd.prog 10 #[.agg #[.int .i64 r.op, u1, u2, .bool r.wild], v, .int .i64 i, .int .i64 number] w fun e w' => e = .returned (.bool true) ∧ Bw w w' := by
  obtain ⟨op, target, tests, wild⟩ := r
  simp only at *
  obtain ⟨A, c, rfl, _, _⟩ := hl.form
  obtain ⟨A1, c1, rfl, _, _⟩ := h1.form
  obtain ⟨A2, c2, rfl, _, _⟩ := h2.form
  have hlm := hl.len_le
  have htm := h2.len_le
  have hb0 : Bw w (w.alloc (.cells #[.int .i64 op, .slice A1 target.length c1, .slice A2 tests.length c2, .bool wild] 34)) := bw_refl_al _ _
  go_enter Tryd.func10, Tryd.ntmps10
  go_wp2_with fail
  refine (large_any (hl.after hb0)).mono ?_
  rintro e w1 ⟨⟨b, rfl⟩, hb1⟩
  cases b
  case true =>
    have hbw := hb0.then hb1
    go_wp2_with fail
    refine (example_any (hT.after hbw)).mono ?_
    rintro e wE ⟨rfl, hbE⟩
    go_wp2_with fail
    go_ret
    exact ⟨rfl, hbw.then hbE⟩
  have rr := row_bw hb1 (at_new (w := w) (o := .cells #[.int .i64 op, .slice A1 target.length c1, .slice A2 tests.length c2, .bool wild] 34) rfl)
  have a0 := row4_0 rr
  have a1 := row4_1 rr
  have a2 := row4_2 rr
  have a3 := row4_3 rr
  have hbw := hb0.then hb1
  have HR := Lib.hid (rule_any (r := ⟨op, target, tests, wild⟩) (hT.after hbw) (h1.after hbw) (h2.after hbw))
  by_cases hvr : validR nameB ⟨op, target, tests, wild⟩ = true
  case neg =>
    rw [Bool.not_eq_true] at hvr
    rw [hvr] at HR
    go_wp2_with fail
    refine HR.out.mono ?_
    rintro e w2 ⟨rfl, hb2⟩
    have hbw2 := hbw.then hb2
    go_wp2_with fail
    refine (example_any (hT.after hbw2)).mono ?_
    rintro e wE ⟨rfl, hbE⟩
    go_wp2_with fail
    go_ret
    exact ⟨rfl, hbw2.then hbE⟩
  rw [hvr] at HR
  go_wp2_with fail
  refine HR.out.mono ?_
  rintro e w2 ⟨rfl, hb2⟩
  have hbw2 := hbw.then hb2
  clear HR
  have HL := Lib.hid (valid_any (hT.after hbw2) (hl.after hbw2))
  by_cases hvl : validL nameB l = true
  case neg =>
    rw [Bool.not_eq_true] at hvl
    rw [hvl] at HL
    go_wp2_with fail
    refine HL.out.mono ?_
    rintro e w3 ⟨rfl, hb3⟩
    have hbw3 := hbw2.then hb3
    go_wp2_with fail
    refine (example_any (hT.after hbw3)).mono ?_
    rintro e wE ⟨rfl, hbE⟩
    go_wp2_with fail
    go_ret
    exact ⟨rfl, hbw3.then hbE⟩
  rw [hvl] at HL
  go_wp2_with fail
  refine HL.out.mono ?_
  rintro e w3 ⟨rfl, hb3⟩
  have hbw3 := hbw2.then hb3
  have hr3 := row_bw hb3 (row_bw hb2 rr)
  clear HL a0 a1 a2 a3 rr
  have a0 := row4_0 hr3
  have a1 := row4_1 hr3
  have a2 := row4_2 hr3
  have a3 := row4_3 hr3
  by_cases hi0 : i < 0
  case pos =>
    go_wp2_with fail
    refine (example_any (hT.after hbw3)).mono ?_
    rintro e wE ⟨rfl, hbE⟩
    go_wp2_with fail
    go_ret
    exact ⟨rfl, hbw3.then hbE⟩
  by_cases hi1 : i < l.length
  case neg =>
    go_wp2_with fail
    refine (example_any (hT.after hbw3)).mono ?_
    rintro e wE ⟨rfl, hbE⟩
    go_wp2_with fail
    go_ret
    exact ⟨rfl, hbw3.then hbE⟩
  by_cases hn0 : number < 0
  case pos =>
    go_wp2_with fail
    refine (example_any (hT.after hbw3)).mono ?_
    rintro e wE ⟨rfl, hbE⟩
    go_wp2_with fail
    go_ret
    exact ⟨rfl, hbw3.then hbE⟩
  by_cases hn1 : number < tests.length
  case neg =>
    go_wp2_with fail
    refine (example_any (hT.after hbw3)).mono ?_
    rintro e wE ⟨rfl, hbE⟩
    go_wp2_with fail
    go_ret
    exact ⟨rfl, hbw3.then hbE⟩
  obtain ⟨k, rfl⟩ : ∃ k : Nat, i = k := ⟨i.toNat, by omega⟩
  obtain ⟨n, rfl⟩ : ∃ n : Nat, number = n := ⟨number.toNat, by omega⟩
  obtain ⟨b, off, x, ux1, ux2, rfl, hx, hxi, hx1, hx2, x0, x1, x2, x3, x4, x5⟩ := (h2.after hbw3).tst (k := n) (by omega)
  obtain ⟨at', scan, neg, care, tags, bar⟩ := x
  simp only at *
  obtain ⟨X1, d1, rfl, _, _⟩ := hx1.form
  obtain ⟨X2, d2, rfl, _, _⟩ := hx2.form
  obtain ⟨y, hy⟩ : ∃ y, l[k]? = some y := ⟨_, List.getElem?_eq_getElem (by omega)⟩
  have hmem := List.mem_of_getElem? hx.out
  have hvt := validR_tests hvr _ hmem
  have hil : inL l (k : Int) = true := by unfold inL; simp; omega
  have hno := holds_not nameB hvt hvl hil
  have hhb : holdsB nameB ⟨at', scan, neg, care, tags, bar⟩ l k = holdB ⟨at', scan, neg, care, tags, bar⟩ l k := by unfold holdsB; rw [hvt, hvl, hil]; rfl
  have hch : Hid ((chg ⟨op, target, tests, wild⟩ l k).2.length < y.2.length → holdsB nameB ⟨at', scan, neg, care, tags, bar⟩ l k = true) := Lib.hid fun h => hhb.trans (chg_holds hy h hmem)
  have hgood := Lib.hid (stp_good hvr hvl hy)
  have hfew : Hid ((chg ⟨op, target, tests, wild⟩ l k).2.length < y.2.length → chg ⟨op, target, tests.take n ++ tests.drop (n + 1), wild⟩ l k = chg ⟨op, target, tests, wild⟩ l k) := Lib.hid fun h => chg_fewer hy _ few_mem h
  have hgood2 := Lib.hid (stp_good (validR_sub hvr few_len (few_mem (n := n))) hvl hy)
  generalize chg ⟨op, target, tests.take n ++ tests.drop (n + 1), wild⟩ l k = z2 at *
  generalize chg ⟨op, target, tests, wild⟩ l k = z1 at *
  have hfew2 : Hid (decide (z1.2.length < y.2.length) = true → decide (z2.2.length < y.2.length) = true ∧ z2 = z1) := Lib.hid fun h => by
    have h' := hfew.out (of_decide_eq_true h)
    rw [h']; exact ⟨h, rfl⟩
  have hch2 : Hid (decide (z1.2.length < y.2.length) = true → holdsB nameB ⟨at', scan, neg, care, tags, bar⟩ l k = true) := Lib.hid fun h => hch.out (of_decide_eq_true h)
  generalize decide (z1.2.length < y.2.length) = is at *
  generalize decide (z2.2.length < y.2.length) = was at *
  clear hfew hch
  obtain ⟨zf1, zr1⟩ := z1
  obtain ⟨zf2, zr2⟩ := z2
  simp only at *
  go_wp2_with fail
  obtain ⟨W4, hW4⟩ : ∃ W4, W4 = w3.alloc (.cells #[.int .i64 at', .bool scan, .bool (!neg), .bool care, .slice X1 tags.length d1, .slice X2 bar.length d2] 28) := ⟨_, rfl⟩
  have hb34 : Bw w3 W4 := by rw [hW4]; exact bw_refl_al _ _
  have rt : W4.heap[w3.heap.size]? = some (.cells #[.int .i64 at', .bool scan, .bool (!neg), .bool care, .slice X1 tags.length d1, .slice X2 bar.length d2] 28) := by rw [hW4]; exact at_new rfl
  rw [← hW4]
  clear hW4
  have hbw4 := hbw3.then hb34
  have K : ∀ w', Bw W4 w' → (w'.cell? ⟨w3.heap.size, 0, none⟩ = some (.int .i64 at') ∧ w'.cell? ⟨w3.heap.size, 1, none⟩ = some (.bool scan) ∧ w'.cell? ⟨w3.heap.size, 2, none⟩ = some (.bool (!neg)) ∧ w'.cell? ⟨w3.heap.size, 3, none⟩ = some (.bool care) ∧ w'.cell? ⟨w3.heap.size, 4, none⟩ = some (.slice X1 tags.length d1) ∧ w'.cell? ⟨w3.heap.size, 5, none⟩ = some (.slice X2 bar.length d2)) ∧ w'.cell? ⟨w.heap.size, 2, none⟩ = some (.slice (some ⟨b, off, none⟩) tests.length c2) ∧ (w'.cell? ⟨b, off + n * 6, none⟩ = some (.int .i64 at') ∧ w'.cell? ⟨b, off + n * 6 + 1, none⟩ = some (.bool scan) ∧ w'.cell? ⟨b, off + n * 6 + 2, none⟩ = some (.bool neg) ∧ w'.cell? ⟨b, off + n * 6 + 3, none⟩ = some (.bool care) ∧ w'.cell? ⟨b, off + n * 6 + 4, none⟩ = some (.slice X1 tags.length d1) ∧ w'.cell? ⟨b, off + n * 6 + 5, none⟩ = some (.slice X2 bar.length d2)) := fun w' kk => ⟨box6 rt kk, bw_cell (hb34.then kk) a2, bw_cell (hb34.then kk) x0, bw_cell (hb34.then kk) x1, bw_cell (hb34.then kk) x2, bw_cell (hb34.then kk) x3, bw_cell (hb34.then kk) x4, bw_cell (hb34.then kk) x5⟩
  have H1 := Lib.hid (fun (W : World) (kk : Bw W4 W) => pHolds_any (t := ⟨at', scan, !neg, care, tags, bar⟩) (i := k) (hT.after (hbw4.then kk)) hxi (hx1.after (hb34.then kk)) (hx2.after (hb34.then kk)) (hl.after (hbw4.then kk)))
  have H2 := Lib.hid (fun (W : World) (kk : Bw W4 W) => pHolds_any (t := ⟨at', scan, neg, care, tags, bar⟩) (i := k) (hT.after (hbw4.then kk)) hxi (hx1.after (hb34.then kk)) (hx2.after (hb34.then kk)) (hl.after (hbw4.then kk)))
  simp only [hno] at H1
  clear hno hhb
  generalize holdsB nameB ⟨at', scan, neg, care, tags, bar⟩ l k = q at *
  have hqq : ((!q) == q) = false := by cases q <;> rfl
  have hi3 : (k : Int) < l.length := by omega
  have hn3 : (n : Int) < tests.length := by omega
  go_region_held3 (fun w' => (w'.cell? ⟨w3.heap.size, 0, none⟩ = some (.int .i64 at') ∧ w'.cell? ⟨w3.heap.size, 1, none⟩ = some (.bool scan) ∧ w'.cell? ⟨w3.heap.size, 2, none⟩ = some (.bool (!neg)) ∧ w'.cell? ⟨w3.heap.size, 3, none⟩ = some (.bool care) ∧ w'.cell? ⟨w3.heap.size, 4, none⟩ = some (.slice X1 tags.length d1) ∧ w'.cell? ⟨w3.heap.size, 5, none⟩ = some (.slice X2 bar.length d2)) ∧ w'.cell? ⟨w.heap.size, 2, none⟩ = some (.slice (some ⟨b, off, none⟩) tests.length c2) ∧ (w'.cell? ⟨b, off + n * 6, none⟩ = some (.int .i64 at') ∧ w'.cell? ⟨b, off + n * 6 + 1, none⟩ = some (.bool scan) ∧ w'.cell? ⟨b, off + n * 6 + 2, none⟩ = some (.bool neg) ∧ w'.cell? ⟨b, off + n * 6 + 3, none⟩ = some (.bool care) ∧ w'.cell? ⟨b, off + n * 6 + 4, none⟩ = some (.slice X1 tags.length d1) ∧ w'.cell? ⟨b, off + n * 6 + 5, none⟩ = some (.slice X2 bar.length d2))) (exact K _ (by (repeat' first | with_reducible exact Below.refl _ _ | with_reducible assumption | with_reducible refine Bw.drew ?_ | with_reducible refine Bw.drewN ?_ _ | with_reducible refine bw_al ?_ _ | with_reducible refine Bw.then ?_ (by with_reducible assumption))))
    (first
      | (go_at_call 16; (with_reducible refine (H1.out _ (by (repeat' first | with_reducible exact Below.refl _ _ | with_reducible assumption | with_reducible refine Bw.drew ?_ | with_reducible refine Bw.drewN ?_ _ | with_reducible refine bw_al ?_ _ | with_reducible refine Bw.then ?_ (by with_reducible assumption)))).mono ?_); rintro e wA ⟨rfl, hbA⟩)
      | (go_at_call 16; (with_reducible refine (H2.out _ (by (repeat' first | with_reducible exact Below.refl _ _ | with_reducible assumption | with_reducible refine Bw.drew ?_ | with_reducible refine Bw.drewN ?_ _ | with_reducible refine bw_al ?_ _ | with_reducible refine Bw.then ?_ (by with_reducible assumption)))).mono ?_); rintro e wB ⟨rfl, hbB⟩))
  have hb4B : Bw W4 wB := (by (repeat' first | with_reducible exact Below.refl _ _ | with_reducible assumption | with_reducible refine Bw.drew ?_ | with_reducible refine Bw.drewN ?_ _ | with_reducible refine bw_al ?_ _ | with_reducible refine Bw.then ?_ (by with_reducible assumption)))
  have hbwB := hbw4.then hb4B
  have hb3B := hb34.then hb4B
  have hrB := row_bw hb3B hr3
  clear a0 a1 a3 hi3
  have e0 := row4_0 hrB
  have e1 := row4_1 hrB
  have e2 := row4_2 hrB
  have e3 := row4_3 hrB
  have HS := Lib.hid (step_any (r := ⟨op, target, tests, wild⟩) (i := k) (hT.after hbwB) (h1.after hbwB) (h2.after hbwB) (hl.after hbwB))
  rw [hgood.out] at HS
  go_wp2_with fail
  refine HS.out.mono ?_
  intro e w5 hq
  obtain ⟨u5, rfl, hb5, hu5⟩ : ∃ u, e = .returned (.tuple #[.agg #[.string zf1, u], .bool is, .int .i64 0]) ∧ Bw wB w5 ∧ Sl tRdg w5 (Hi wB.heap.size) u zr1 := hq
  obtain ⟨U5, n5, d5, rfl, _, _, _⟩ := hu5.form'
  clear HS
  have hb5a : Bw wB (w5.alloc (.cells #[.string zf1, .slice U5 n5 d5] 37)) := bw_al hb5 _
  have f0 := bw_cell hb5a e0
  have f1 := bw_cell hb5a e1
  have f2 := bw_cell hb5a e2
  have f3 := bw_cell hb5a e3
  clear e0 e1 e2 e3
  have hnlt : n < tests.length := by omega
  obtain ⟨tB, tm, td, hct, htl⟩ := tail_rd (b := b) (off := off) (c := c2) (k := n + 1) (xs := tests) (by omega)
  have hch' := fun W => cut_head (b := b) (off := off) (c := c2) hnlt (by omega) W
  have ent : ((n + 1 : Nat) : Int) = (n : Int) + 1 := by omega
  rw [ent] at hct
  have hwr : IntKind.i64.wrap ((n : Int) + 1) = (n : Int) + 1 := IntWalk.i64_in _ (by omega)
  obtain ⟨t0, ht, hy0, hy1, hy2⟩ := info_parts infoT
  go_wp2_with fail
  have K5 : ∀ w', Bw w5 w' → w'.cell? ⟨w.heap.size, 2, none⟩ = some (.slice (some ⟨b, off, none⟩) tests.length c2) := fun w' kk => bw_cell (hb5.then kk) (row4_2 hrB)
  have hbw5 := hbwB.then hb5
  have hE : Acc (tLo tTst (fun b => b < w5.heap.size)) 28 ((((w5.alloc (.cells #[.string zf1, .slice U5 n5 d5] 37)).alloc (.cells #[.int .i64 op, .slice A1 target.length c1, .slice (some ⟨b, off, none⟩) tests.length c2, .bool wild] 34)).alloc (.cells #[] 28)).drew) 0 (.slice (some ⟨w5.heap.size + 2, 0, none⟩) 0 0) [] := (Acc.made (cap := 0) (Nat.zero_le _) (at_new (by simp)) (Nat.zero_le _) rfl).dn 1
  have hbE : Bw w5 ((((w5.alloc (.cells #[.string zf1, .slice U5 n5 d5] 37)).alloc (.cells #[.int .i64 op, .slice A1 target.length c1, .slice (some ⟨b, off, none⟩) tests.length c2, .bool wild] 34)).alloc (.cells #[] 28)).drew) := (by (repeat' first | with_reducible exact Below.refl _ _ | with_reducible assumption | with_reducible refine Bw.drew ?_ | with_reducible refine Bw.drewN ?_ _ | with_reducible refine bw_al ?_ _ | with_reducible refine Bw.then ?_ (by with_reducible assumption)))
  have hl5 := fun (W : World) (kk : Bw w5 W) => (((h2.after hbw5).pre (k := n) (by omega)).below kk (fun _ h => h)).lo (P := fun b => b < w5.heap.size) (fun _ h => h)
  have ht5 := fun (W : World) (kk : Bw w5 W) => ((htl _ _ (h2.after hbw5)).below kk (fun _ h => h)).lo (P := fun b => b < w5.heap.size) (fun _ h => h)
  have hin : (tests.take n).length = n := by rw [List.length_take]; omega
  have htm' : tm = tests.length - (n + 1) := by
    have := hct w5
    obtain ⟨_, _, e, _, _⟩ := (htl _ _ (h2.after hbw5)).form
    injection e with _ e; rw [List.length_drop] at e; exact e
  subst htm'
  have hdl : (tests.drop (n + 1)).length = tests.length - (n + 1) := by rw [List.length_drop]
  have ht10 : tests.length ≤ 10 := by
    have h := hvr
    unfold validR at h
    simp only [Bool.and_eq_true, decide_eq_true_eq] at h
    exact h.1.2
  have hf : ∀ (W : World) (v : Value), (∀ g, v.ownBlock = some g → w5.heap.size ≤ g) → ∀ x cs, (tLo tTst (fun b => b < w5.heap.size)).rep W (fun b => b < w5.heap.size) cs x → (tLo tTst (fun b => b < w5.heap.size)).rep W (fun b => 0 ≤ b ∧ some b ≠ v.ownBlock) cs x := fun W v hv => lo_free (fun g e => by have := hv g e; omega)
  have hoE : ∀ g, (Value.slice (some ⟨w5.heap.size + 2, 0, none⟩) 0 0).ownBlock = some g → w5.heap.size + 2 ≤ g := fun g e => by
    have e2 : some (w5.heap.size + 2) = some g := e
    injection e2 with e2; omega
  go_region_held3 (fun w' => w'.cell? ⟨w.heap.size, 2, none⟩ = some (.slice (some ⟨b, off, none⟩) tests.length c2)) (exact K5 _ (by (repeat' first | with_reducible exact Below.refl _ _ | with_reducible assumption | with_reducible refine Bw.drew ?_ | with_reducible refine Bw.drewN ?_ _ | with_reducible refine bw_al ?_ _ | with_reducible refine bw_grown ?_ (set_grown _ _ _ _) (by omega) | with_reducible refine Bw.then ?_ (by with_reducible assumption))))
    (first
      | (refine step_app_sl rfl _ _ rfl Tryd.underlying32 ht hy0 hy1 hy2 rfl (by rfl) hE (by rfl) (hl5 _ hbE) (hf _ _ (fun g e => by have := hoE g e; omega)) (by simp [maxLen]; omega) (by simp; omega) (Nat.zero_le _) ?_
         intro v6 w6 hA6 hg6 hat6
         rw [List.nil_append] at hA6
         have hb6 : Bw w5 w6 := Acc.bw (base := w5.heap.size + 2) hbE hg6 hoE (by omega)
         have ho6 : ∀ g, v6.ownBlock = some g → w5.heap.size + 2 ≤ g := fun g e => by
           rcases hat6 with h | h
           · rw [h] at e; exact hoE g e
           · rw [h] at e; injection e with e; rw [← e]; show _ ≤ (World.alloc _ _).heap.size; simp
         have hr6 : w6.heap[w5.heap.size + 1]? = some (.cells #[.int .i64 op, .slice A1 target.length c1, .slice (some ⟨b, off, none⟩) tests.length c2, .bool wild] 34) := (hg6.block _ (by show w5.heap.size + 1 < (World.alloc _ _).heap.size; rw [sz_alloc, sz_alloc, sz_alloc]; omega) (fun e => by have := hoE _ e.symm; omega)).trans (at_old (at_new (by simp))))
      | (refine step_app_sl rfl _ _ rfl Tryd.underlying32 ht hy0 hy1 hy2 rfl (by rfl) hA6 (by rfl) (ht5 _ hb6) (hf _ _ (fun g e => by have := ho6 g e; omega)) (by rw [hin, hdl]; simp [maxLen]; omega) (by rw [hin, hdl]; omega) (Nat.zero_le _) ?_
         intro v7 w7 hA7 hg7 hat7
         have hb7 : Bw w5 w7 := Acc.bw (base := w5.heap.size + 2) hb6 hg7 ho6 (by omega)
         have hr7 : w7.heap[w5.heap.size + 1]? = some (.cells #[.int .i64 op, .slice A1 target.length c1, .slice (some ⟨b, off, none⟩) tests.length c2, .bool wild] 34) := (hg7.block _ (Array.getElem?_eq_some_iff.1 hr6).1 (fun e => by have := ho6 _ e.symm; omega)).trans hr6
         have cc7 := row4_2 hr7
         have ff7 := frozen_of_cells (i := 2) hr7
         obtain ⟨T7, t7, d7, rfl, _, _, _⟩ := hA7.sl.form'))
  have ho7 : ∀ g, (Value.slice T7 t7 d7).ownBlock = some g → w5.heap.size + 2 ≤ g := fun g e => by
    rcases hat7 with h | h
    · rw [h] at e; exact ho6 g e
    · rw [h] at e; injection e with e; have := hb6.size; have h6 := (Array.getElem?_eq_some_iff.1 hr6).1; omega
  obtain ⟨W8, hW8⟩ : ∃ W8, W8 = w7.setCell ⟨w5.heap.size + 1, 2, none⟩ (.slice T7 t7 d7) := ⟨_, rfl⟩
  have hr8 : W8.heap[w5.heap.size + 1]? = some (.cells #[.int .i64 op, .slice A1 target.length c1, .slice T7 t7 d7, .bool wild] 34) := by rw [hW8, heap_setCell_same _ (w5.heap.size + 1) 2 _ _ _ hr7]; rfl
  have hr6c : w6.heap[w5.heap.size]? = some (.cells #[.string zf1, .slice U5 n5 d5] 37) := (hg6.block _ (by show w5.heap.size < (World.alloc _ _).heap.size; rw [sz_alloc, sz_alloc, sz_alloc]; omega) (fun e => by have := hoE _ e.symm; omega)).trans (at_old (at_old (at_new rfl)))
  have hr7c : w7.heap[w5.heap.size]? = some (.cells #[.string zf1, .slice U5 n5 d5] 37) := (hg7.block _ (Array.getElem?_eq_some_iff.1 hr6c).1 (fun e => by have := ho6 _ e.symm; omega)).trans hr6c
  have hrc : W8.heap[w5.heap.size]? = some (.cells #[.string zf1, .slice U5 n5 d5] 37) := by rw [hW8, set_old (by omega)]; exact hr7c
  have hts : Rd tTst W8 (.slice T7 t7 d7) (tests.take n ++ tests.drop (n + 1)) :=
    ((sl_own (D' := fun b => b ≠ w5.heap.size + 1) hA7.sl (fun g e => by have := ho7 g e; omega) (fun b hb => by omega)).lt.keep (D' := fun b => b < W8.heap.size) fun b hb => ⟨by rw [hW8]; simpa [World.setCell] using hb.2, by rw [hW8]; exact set_old hb.1⟩)
  have hb8 : Bw w5 W8 := by rw [hW8]; exact bw_grown hb7 (set_grown _ _ _ _) (by omega)
  rw [← hW8]
  clear hW8 hA6 hA7 hg6 hg7 hat6 hat7 hE hbE hf hoE ho6 ho7 hl5 ht5 hct htl hch' hr6 hr7 hr6c hr7c cc7 ff7
  have hbw8 := hbw5.then hb8
  have hu8 := hu5.rd.after hb8
  have g0 := row4_0 hr8
  have g1 := row4_1 hr8
  have g2 := row4_2 hr8
  have g3 := row4_3 hr8
  have HS := Lib.hid (step_any (r := ⟨op, target, tests.take n ++ tests.drop (n + 1), wild⟩) (i := k) (hT.after hbw8) (h1.after hbw8) hts (hl.after hbw8))
  rw [hgood2.out] at HS
  clear f0 f1 f2 f3
  go_wp2_with fail
  refine HS.out.mono ?_
  intro e w9 hq
  obtain ⟨u9, rfl, hb9, hu9⟩ : ∃ u, e = .returned (.tuple #[.agg #[.string zf2, u], .bool was, .int .i64 0]) ∧ Bw W8 w9 ∧ Sl tRdg w9 (Hi W8.heap.size) u zr2 := hq
  obtain ⟨U9, n9, d9, rfl, _, _, _⟩ := hu9.form'
  clear HS
  have hbA := (hb8.then hb9).then (bw_refl_al w9 (.cells #[.string zf2, .slice U9 n9 d9] 37))
  have hbB := hb5.then hbA
  have hb3A := hb3B.then hbB
  have f2 := bw_cell hb3A a2
  have y0 := bw_cell hb3A x0
  have y1 := bw_cell hb3A x1
  have y2 := bw_cell hb3A x2
  have y3 := bw_cell hb3A x3
  have y4 := bw_cell hb3A x4
  have y5 := bw_cell hb3A x5
  have hbwA := hbw3.then hb3A
  cases is
  · clear f2 y0 y1 y2 y3 y4 y5
    go_wp2_with fail
    refine (example_any (hT.after hbwA)).mono ?_
    rintro e wE ⟨rfl, hbE⟩
    go_wp2_with fail
    go_ret
    exact ⟨rfl, hbwA.then hbE⟩
  · obtain ⟨rfl, hz⟩ := hfew2.out rfl
    injection hz with hz1 hz2
    subst hz1; subst hz2
    obtain rfl : q = true := hch2.out rfl
    have H3 := Lib.hid (H2.out _ (hb4B.then hbB))
    go_wp2_with fail
    refine H3.out.mono ?_
    rintro e wC ⟨rfl, hbC⟩
    have hbN := (bw_refl_al w9 (.cells #[.string zf2, .slice U9 n9 d9] 37)).then hbC
    have hwC := hbwA.then hbC
    have p0 := row2_0 (row_bw (hb9.then hbN) hrc)
    have p1 := row2_1 (row_bw (hb9.then hbN) hrc)
    have p2 := bw_cell hbC (row2_0 (w := w9.alloc (.cells #[.string zf2, .slice U9 n9 d9] 37)) (at_new rfl))
    have p3 := bw_cell hbC (row2_1 (w := w9.alloc (.cells #[.string zf2, .slice U9 n9 d9] 37)) (at_new rfl))
    have hq : eqC (zf2, zr2) (zf2, zr2) = true := by simp [eqC]
    have HC := Lib.hid (val_of (congrArg Value.bool hq) (samec_any (f1 := zf2) (f2 := zf2) (hu8.after (hb9.then hbN)) (hu9.rd.after hbN)))
    go_wp2_with fail
    refine HC.out.mono ?_
    rintro e wD ⟨rfl, hbD⟩
    have hwD := hwC.then hbD
    go_wp2_with fail
    refine (example_any (hT.after hwD)).mono ?_
    rintro e wE ⟨rfl, hbE⟩
    go_wp2_with fail
    go_ret
    exact ⟨rfl, hwD.then hbE⟩
end Go.Proofs.YthecmbmidoagaaaDoor

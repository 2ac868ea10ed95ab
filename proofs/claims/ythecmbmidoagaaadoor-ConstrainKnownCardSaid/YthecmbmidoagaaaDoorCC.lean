/- The contract of the statements' 'example': the chapter's examples. Conditions: the library's tables. -/
import Derived.Test.YthecmbmidoagaaaDoorCB
import Derived.Deep.RegionLaw
namespace Go.Proofs.YthecmbmidoagaaaDoor
open Go.RowKit Go.Maps
open Pl

def tScan : Tst := ⟨1, true, false, false, [sPron], []⟩
def tWall : Tst := ⟨1, true, false, false, [sPron], [sV]⟩
def tDet : Tst := ⟨-1, false, false, false, [sDet], []⟩
def tNc : Tst := ⟨1, false, false, true, [sN], []⟩
def ruleV : Rul := ⟨2, [sV], [tDet], false⟩
def ruleD : Rul := ⟨2, [sDet], [tNc], false⟩
def cNew : Coh := (cSaw.1, [[sN, sSg]])
theorem X1 : stp nameB ruleV sawL 1 = (cNew, true, 0) := by decide +kernel
theorem X2 : app nameB [ruleD, ruleV] sawL = ([cThe, cNew, cIt], [(1, 1, 1)], 0) := by decide +kernel
theorem X3 : hasB [sN, sSg] [sSg] = true := by decide +kernel
theorem X4 : holdsB nameB tDet sawL 1 = true := by decide +kernel
theorem X5 : holdsB nameB tScan sawL 0 = true := by decide +kernel
theorem X6 : holdsB nameB tWall sawL 0 = false := by decide +kernel
theorem X7 : eqC cNew cNew = true := by decide +kernel
theorem X8 : same [cThe, cNew, cIt] [cThe, cNew, cIt] = true := by decide +kernel
theorem X9 : same ([(1, 1, 1)] : List Stp) [(1, 1, 1)] = true := by decide +kernel

theorem litT {w : World} {u1 u2 : Value} {t : Tst} {e : TypeId} {g : Nat} (hg : w.heap[g]? = some (.cells #[.int .i64 t.at', .bool t.scan, .bool t.neg, .bool t.care, u1, u2] e)) (hi : inI64 t.at') (h1 : Rd tStr w u1 t.tags) (h2 : Rd tStr w u2 t.bar) : Rd tTst w (.slice (some ⟨g, 0, none⟩) 1 1) [t] := rd_one_tst hg hi h1 h2
theorem litU2 {w : World} {u1 u2 v1 v2 : Value} {a b : Rul} {e : TypeId} {g : Nat} (hg : w.heap[g]? = some (.cells #[.int .i64 a.op, u1, u2, .bool a.wild, .int .i64 b.op, v1, v2, .bool b.wild] e)) (ha : inI64 a.op) (hb : inI64 b.op) (h1 : Rd tStr w u1 a.target) (h2 : Rd tTst w u2 a.tests) (h3 : Rd tStr w v1 b.target) (h4 : Rd tTst w v2 b.tests) : Rd tRul w (.slice (some ⟨g, 0, none⟩) 2 2) [a, b] :=
  sl_list (css := [[.int .i64 a.op, u1, u2, .bool a.wild], [.int .i64 b.op, v1, v2, .bool b.wild]]) hg (Array.getElem?_eq_some_iff.1 hg).1 rfl (by simp [maxLen]) rfl (fun j z cs h1' h2' => by
    match j with
    | 0 => simp at h1' h2'; subst h1'; subst h2'; exact rul_rep ha h1 h2
    | 1 => simp at h1' h2'; subst h1'; subst h2'; exact rul_rep hb h3 h4
    | j + 2 => simp at h1')
theorem rdNil {α : Type} {T : Ty α} {w : World} : Rd T w (.slice none 0 0) [] := Sl.nil

/-- A stronger condition may be held. -/
theorem wpAnyH_S {P : Program} {md : Region.Mode} {ops : Array Oper} {Q : Exit → Act → World → Prop} {S S' : World → Prop} (hS : ∀ w, S' w → S w) : ∀ {fuel : Nat} {listed : Array Bool} {a : Act} {w : World}, wpAnyH P md ops Q S' fuel listed a w → wpAnyH P md ops Q S fuel listed a w
  | 0, _, _, _, h => h
  | _ + 1, _, _, _, h => ⟨h.1, fun i hi => wpOp_mono (fun _ _ h' => ⟨hS _ h'.1, wpAnyH_S hS h'.2⟩) (h.2 i hi)⟩

set_option linter.unusedSimpArgs false in
set_option maxRecDepth 100000 in
set_option maxHeartbeats 64000000 in
theorem example_any {w : World} (hT : Tb w) : Calls Tryd.prog 12 #[] w fun e w' => e = .returned (.bool true) ∧ Bw w w' := by
  obtain ⟨W0, hW0⟩ : ∃ W0, W0 = (((((w.alloc (.cells #[.string sPron] 9)).alloc (.cells #[.int .i64 1, .bool true, .bool false, .bool false, .slice (some ⟨w.heap.size, 0, none⟩) 1 1, .slice none 0 0] 28)).alloc (.cells #[.string sPron] 9)).alloc (.cells #[.string sV] 9)).alloc (.cells #[.int .i64 1, .bool true, .bool false, .bool false, .slice (some ⟨w.heap.size + 1 + 1, 0, none⟩) 1 1, .slice (some ⟨w.heap.size + 1 + 1 + 1, 0, none⟩) 1 1] 28)) := ⟨_, rfl⟩
  have hb0 : Bw w W0 := by rw [hW0]; exact bw_al (bw_al (bw_al (bw_al (bw_refl_al w _) _) _) _) _
  have rS : W0.heap[w.heap.size + 1]? = some (.cells #[.int .i64 1, .bool true, .bool false, .bool false, .slice (some ⟨w.heap.size, 0, none⟩) 1 1, .slice none 0 0] 28) := by rw [hW0]; exact at_old (at_old (at_old (at_new (by simp))))
  have rW : W0.heap[w.heap.size + 1 + 1 + 1 + 1]? = some (.cells #[.int .i64 1, .bool true, .bool false, .bool false, .slice (some ⟨w.heap.size + 1 + 1, 0, none⟩) 1 1, .slice (some ⟨w.heap.size + 1 + 1 + 1, 0, none⟩) 1 1] 28) := by rw [hW0]; exact at_new (by simp)
  have dS : Rd tStr W0 (.slice (some ⟨w.heap.size, 0, none⟩) 1 1) [sPron] := lit1 (by rw [hW0]; exact at_old (at_old (at_old (at_old (at_new rfl))))) (by decide)
  have dW1 : Rd tStr W0 (.slice (some ⟨w.heap.size + 1 + 1, 0, none⟩) 1 1) [sPron] := lit1 (by rw [hW0]; exact at_old (at_old (at_new (by simp)))) (by decide)
  have dW2 : Rd tStr W0 (.slice (some ⟨w.heap.size + 1 + 1 + 1, 0, none⟩) 1 1) [sV] := lit1 (by rw [hW0]; exact at_old (at_new (by simp))) (by decide)
  have HT0 := hT.after hb0
  go_enter Tryd.func12, Tryd.ntmps12
  go_wp2_with fail
  refine (test_any (a := -1) (tag := sDet) (w := (((((w.alloc (.cells #[.string sPron] 9)).alloc (.cells #[.int .i64 1, .bool true, .bool false, .bool false, .slice (some ⟨w.heap.size, 0, none⟩) 1 1, .slice none 0 0] 28)).alloc (.cells #[.string sPron] 9)).alloc (.cells #[.string sV] 9)).alloc (.cells #[.int .i64 1, .bool true, .bool false, .bool false, .slice (some ⟨w.heap.size + 1 + 1, 0, none⟩) 1 1, .slice (some ⟨w.heap.size + 1 + 1 + 1, 0, none⟩) 1 1] 28))) (by decide)).mono ?_
  rw [← hW0]
  clear hW0
  rintro e w1 ⟨uT, rfl, k1, huT⟩
  obtain ⟨TA, tn, tc, rfl, _, _, _⟩ := huT.form'
  go_wp2_with fail
  refine (rule_mk_any (a := 2) (tag := sV) (ts := [tDet]) (by decide) (litT (t := tDet) (at_new rfl) ⟨by decide, by decide⟩ (huT.after (bw_refl_al w1 _)) rdNil)).mono ?_
  rintro e w2 ⟨uV, rfl, k2', huV⟩
  have dT2 : Rd tTst w2 (.slice (some ⟨w1.heap.size, 0, none⟩) 1 1) [tDet] := (litT (t := tDet) (at_new rfl) ⟨by decide, by decide⟩ (huT.after (bw_refl_al w1 _)) rdNil).after k2'
  have k2 : Bw w1 w2 := (bw_refl_al w1 _).then k2'
  obtain ⟨VA, vn, vc, rfl, _, _, _⟩ := huV.form'
  go_wp2_with fail
  refine saw_any.mono ?_
  rintro e w3 ⟨g3, A1, n1, c1, b2, o2, c2, A3, n3, c3, P3, m3, q3, rfl, k3, hg3, hs3⟩
  go_wp2_with fail
  refine (step_any (r := ruleV) (l := sawL) (i := 1) (HT0.after ((k1.then k2).then k3)) (huV.after k3) (dT2.after k3) hs3.rd).mono ?_
  intro e w4 hr
  rw [X1] at hr
  obtain ⟨u4, rfl, k4, hu4⟩ : ∃ u, e = .returned (.tuple #[.agg #[.string cSaw.1, u], .bool true, .int .i64 0]) ∧ Bw w3 w4 ∧ Sl tRdg w4 (Hi w3.heap.size) u [[sN, sSg]] := hr
  obtain ⟨SA, sn, sc, rfl, _, _, _⟩ := hu4.form'
  go_wp2_with fail
  refine (test_any (a := 1) (tag := sN) (by decide)).mono ?_
  rintro e w5 ⟨uN, rfl, k5', huN⟩
  have k5 : Bw w4 w5 := (bw_refl_al w4 _).then k5'
  have rC : w5.heap[w4.heap.size]? = some (.cells #[.string cSaw.1, .slice SA sn sc] 37) := row_bw k5' (at_new rfl)
  obtain ⟨NA, nn, nc, rfl, _, _, _⟩ := huN.form'
  go_wp2_with fail
  refine (rule_mk_any (a := 2) (tag := sDet) (ts := [tNc]) (by decide) (litT (t := tNc) (at_new (by simp)) ⟨by decide, by decide⟩ (huN.after (bw_al (bw_refl_al w5 _) _)) rdNil)).mono ?_
  rintro e w6 ⟨uD, rfl, k6', huD⟩
  have dN6 : Rd tTst w6 (.slice (some ⟨w5.heap.size + 1, 0, none⟩) 1 1) [tNc] := (litT (t := tNc) (at_new (by simp)) ⟨by decide, by decide⟩ (huN.after (bw_al (bw_refl_al w5 _) _)) rdNil).after k6'
  have k6 : Bw w5 w6 := (bw_al (bw_refl_al w5 _) _).then k6'
  obtain ⟨DA, dn, dc, rfl, _, _, _⟩ := huD.form'
  go_wp2_with fail
  refine (test_any (a := -1) (tag := sDet) (by decide)).mono ?_
  rintro e w7 ⟨uT7, rfl, k7, huT7⟩
  obtain ⟨T7, t7n, t7c, rfl, _, _, _⟩ := huT7.form'
  go_wp2_with fail
  refine (rule_mk_any (a := 2) (tag := sV) (ts := [tDet]) (by decide) (litT (t := tDet) (at_new rfl) ⟨by decide, by decide⟩ (huT7.after (bw_refl_al w7 _)) rdNil)).mono ?_
  rintro e w8 ⟨uV8, rfl, k8', huV8⟩
  have dT8 : Rd tTst w8 (.slice (some ⟨w7.heap.size, 0, none⟩) 1 1) [tDet] := (litT (t := tDet) (at_new rfl) ⟨by decide, by decide⟩ (huT7.after (bw_refl_al w7 _)) rdNil).after k8'
  have k8 : Bw w7 w8 := (bw_refl_al w7 _).then k8'
  obtain ⟨V8, v8n, v8c, rfl, _, _, _⟩ := huV8.form'
  go_wp2_with fail
  refine saw_any.mono ?_
  rintro e w9 ⟨g9, A9, n9, c9, b9, o9, c92, A93, n93, c93, P9, m9, q9, rfl, k9', hg9, hs9⟩
  have k9a := bw_refl_al w8 (.cells #[.int .i64 2, .slice DA dn dc, .slice (some ⟨w5.heap.size + 1, 0, none⟩) 1 1, .bool false, .int .i64 2, .slice V8 v8n v8c, .slice (some ⟨w7.heap.size, 0, none⟩) 1 1, .bool false] 34)
  have dR9 : Rd tRul w9 (.slice (some ⟨w8.heap.size, 0, none⟩) 2 2) [ruleD, ruleV] := (litU2 (a := ruleD) (b := ruleV) (at_new rfl) ⟨by decide, by decide⟩ ⟨by decide, by decide⟩ (huD.after ((k7.then k8).then k9a)) (dN6.after ((k7.then k8).then k9a)) (huV8.after k9a) (dT8.after k9a)).after k9'
  have k9 : Bw w8 w9 := k9a.then k9'
  have kA9 : Bw W0 w9 := (((((((k1.then k2).then k3).then k4).then k5).then k6).then k7).then k8).then k9
  go_wp2_with fail
  refine (apply_any (rules := [ruleD, ruleV]) (l := sawL) (HT0.after kA9) dR9 hs9.rd).mono ?_
  intro e w10 hr
  rw [X2] at hr
  obtain ⟨u10, v10, rfl, k10, hu10, hv10⟩ : ∃ u v, e = .returned (.tuple #[u, v, .int .i64 0]) ∧ Bw w9 w10 ∧ Sl tCoh w10 (Hi w9.heap.size) u [cThe, cNew, cIt] ∧ Sl tStp w10 (Hi w9.heap.size) v [(1, 1, 1)] := hr
  obtain ⟨O10, on, oc, rfl, _, _, _⟩ := hu10.form'
  obtain ⟨S10, stn, stc, rfl, _, _, _⟩ := hv10.form'
  go_wp2_with fail
  refine saw_any.mono ?_
  rintro e w11 ⟨g11, A11, n11, c11, b11, o11, c112, A113, n113, c113, P11, m11, q11, rfl, k11, hg11, hs11⟩
  go_wp2_with fail
  have dL12 : Sl tRdg ((w11.alloc (.cells #[.string sN, .string sSg] 9)).alloc (.cells #[.slice (some ⟨w11.heap.size, 0, none⟩) 2 2] 22)) (fun b => w11.heap.size ≤ b ∧ b < w11.heap.size + 2) (.slice (some ⟨w11.heap.size + 1, 0, none⟩) 1 1) [[sN, sSg]] :=
    sl_one (cs := [.slice (some ⟨w11.heap.size, 0, none⟩) 2 2]) (at_new (by simp)) ⟨by omega, by omega⟩ ⟨_, rfl, sl_list (css := [[.string sN], [.string sSg]]) (at_old (at_new rfl)) ⟨Nat.le_refl _, by omega⟩ rfl (by simp [maxLen]) rfl (fun j z cs h1 h2 => by
      match j with
      | 0 => simp at h1 h2; subst h1; subst h2; exact ⟨rfl, by decide⟩
      | 1 => simp at h1 h2; subst h1; subst h2; exact ⟨rfl, by decide⟩
      | j + 2 => simp at h1)⟩
  refine (cohort_any (fm := cSaw.1) (rs := [[sN, sSg]]) dL12 (fun b hb => by have := hb.2; simp; omega) (by decide)).mono ?_
  rintro e w12 ⟨u12, rfl, k12', hu12⟩
  have hu12s : Sl tRdg w12 (fun b => w11.heap.size ≤ b) u12 [[sN, sSg]] := hu12.weaken fun b hb => by
    rcases hb with hb | hb
    · exact hb.1
    · simp at hb; omega
  have k12 : Bw w11 w12 := (bw_al (bw_refl_al w11 _) _).then k12'
  obtain ⟨W12, wn, wc, rfl, _, _, _⟩ := hu12.form'
  have hs12 := hs11.after k12
  have z2 : w12.cell? ⟨g11, 2, none⟩ = some (.string cSaw.1) := by rw [cell_of_row _ _ 2 _ _ _ hs12.row]; rfl
  have z3 : w12.cell? ⟨g11, 3, none⟩ = some (.slice (some ⟨b11, o11, none⟩) 2 c112) := by rw [cell_of_row _ _ 3 _ _ _ hs12.row]; rfl
  have zf2 := frozen_of_cells (i := 2) hs12.row
  have zf3 := frozen_of_cells (i := 3) hs12.row
  go_wp2_with fail
  have row11 : ((w12.setCell ⟨g11, 2, none⟩ (.string cSaw.1)).setCell ⟨g11, 3, none⟩ (.slice W12 wn wc)).heap[g11]? = some (.cells #[.string cThe.1, .slice A11 n11 c11, .string cSaw.1, .slice W12 wn wc, .string cIt.1, .slice A113 n113 c113] 37) := by
    rw [heap_setCell_same _ g11 3 _ _ _ (heap_setCell_same _ g11 2 _ _ _ hs12.row)]; rfl
  obtain ⟨WZ, hWZ⟩ : ∃ WZ, WZ = (w12.setCell ⟨g11, 2, none⟩ (.string cSaw.1)).setCell ⟨g11, 3, none⟩ (.slice W12 wn wc) := ⟨_, rfl⟩
  have hZ10 : Bw w10 WZ := by rw [hWZ]; exact bw_grown (bw_grown (k11.then k12) (set_grown _ _ _ _) hg11) (set_grown _ _ _ _) hg11
  have hg12 : g11 < w12.heap.size := (Array.getElem?_eq_some_iff.1 hs12.row).1
  have hg11' : g11 < w11.heap.size := (Array.getElem?_eq_some_iff.1 hs11.row).1
  have hkeep : ∀ b, b < w12.heap.size ∧ b ≠ g11 → WZ.heap[b]? = w12.heap[b]? := fun b hb => by rw [hWZ]; exact (set_old hb.2).trans (set_old hb.2)
  have hszZ : WZ.heap.size = w12.heap.size := by rw [hWZ]; simp [World.setCell]
  have dWant : Rd tCoh WZ (.slice (some ⟨g11, 0, none⟩) 3 3) [cThe, cNew, cIt] := by
    have r := row11
    rw [← hWZ] at r
    exact litC3 (a := cThe) (b := cNew) (c := cIt) r (by decide) (by decide) (by decide) (hs12.s1.keep (D' := fun b => b < WZ.heap.size) fun b hb => ⟨by have : b < g11 := hb; omega, hkeep b ⟨by have : b < g11 := hb; omega, by have : b < g11 := hb; omega⟩⟩) (hu12s.lt.keep (D' := fun b => b < WZ.heap.size) fun b hb => ⟨by omega, hkeep b ⟨hb.2, by have := hb.1; omega⟩⟩) (hs12.s3.keep (D' := fun b => b < WZ.heap.size) fun b hb => ⟨by have : b < g11 := hb; omega, hkeep b ⟨by have : b < g11 := hb; omega, by have : b < g11 := hb; omega⟩⟩)
  have dNew : Rd tRdg WZ (.slice W12 wn wc) [[sN, sSg]] := hu12s.lt.keep (D' := fun b => b < WZ.heap.size) fun b hb => ⟨by omega, hkeep b ⟨hb.2, by have := hb.1; omega⟩⟩
  have x2 : WZ.cell? ⟨g11, 2, none⟩ = some (.string cSaw.1) := by rw [hWZ, cell_of_row _ _ 2 _ _ _ row11]; rfl
  have x3 : WZ.cell? ⟨g11, 3, none⟩ = some (.slice W12 wn wc) := by rw [hWZ, cell_of_row _ _ 3 _ _ _ row11]; rfl
  have k0Z : Bw W0 WZ := ((((((((((k1.then k2).then k3).then k4).then k5).then k6).then k7).then k8).then k9).then k10)).then hZ10
  have k1Z : Bw w4 WZ := (((((k5.then k6).then k7).then k8).then k9).then k10).then hZ10
  have k5Z : Bw w5 WZ := ((((k6.then k7).then k8).then k9).then k10).then hZ10
  have dS' := dS.after k0Z
  have dW1' := dW1.after k0Z
  have dW2' := dW2.after k0Z
  have HTZ := HT0.after k0Z
  have dC' := hu4.rd.after k1Z
  have dO' := hu10.rd.after hZ10
  have dP' := hv10.rd.after hZ10
  have K0 : ∀ w', Bw WZ w' → (w'.cell? ⟨w.heap.size + 1, 0, none⟩ = some (.int .i64 1) ∧ w'.cell? ⟨w.heap.size + 1, 1, none⟩ = some (.bool true) ∧ w'.cell? ⟨w.heap.size + 1, 2, none⟩ = some (.bool false) ∧ w'.cell? ⟨w.heap.size + 1, 3, none⟩ = some (.bool false) ∧ w'.cell? ⟨w.heap.size + 1, 4, none⟩ = some (.slice (some ⟨w.heap.size, 0, none⟩) 1 1) ∧ w'.cell? ⟨w.heap.size + 1, 5, none⟩ = some (.slice none 0 0)) ∧ (w'.cell? ⟨w.heap.size + 1 + 1 + 1 + 1, 0, none⟩ = some (.int .i64 1) ∧ w'.cell? ⟨w.heap.size + 1 + 1 + 1 + 1, 1, none⟩ = some (.bool true) ∧ w'.cell? ⟨w.heap.size + 1 + 1 + 1 + 1, 2, none⟩ = some (.bool false) ∧ w'.cell? ⟨w.heap.size + 1 + 1 + 1 + 1, 3, none⟩ = some (.bool false) ∧ w'.cell? ⟨w.heap.size + 1 + 1 + 1 + 1, 4, none⟩ = some (.slice (some ⟨w.heap.size + 1 + 1, 0, none⟩) 1 1) ∧ w'.cell? ⟨w.heap.size + 1 + 1 + 1 + 1, 5, none⟩ = some (.slice (some ⟨w.heap.size + 1 + 1 + 1, 0, none⟩) 1 1)) ∧ (w'.cell? ⟨w4.heap.size, 0, none⟩ = some (.string cSaw.1) ∧ w'.cell? ⟨w4.heap.size, 1, none⟩ = some (.slice SA sn sc)) ∧ w'.cell? ⟨g11, 2, none⟩ = some (.string cSaw.1) ∧ w'.cell? ⟨g11, 3, none⟩ = some (.slice W12 wn wc) := fun w' kk =>
    ⟨box6 (row_bw k0Z rS) kk, box6 (row_bw k0Z rW) kk, ⟨row2_0 (row_bw (k5Z.then kk) rC), row2_1 (row_bw (k5Z.then kk) rC)⟩, bw_cell kk x2, bw_cell kk x3⟩
  have hbwZ : Hid (Bw w WZ) := hb0.then k0Z
  rw [← hWZ]
  clear hWZ row11 hkeep hs3 hs9 hs11 hs12 hu4 hu10 hv10 hu12s k0Z k1Z k5Z dS dW1 dW2 HT0 hT k1 k2 k2' k3 k4 k5 k5' k6 k6' k7 k8 k8' k9 k9a k9' k10 k11 k12 k12' hZ10 hb0 z2 z3 zf2 zf3 rS rW rC x2 x3 huT huV huN huD huT7 huV8 dT2 dN6 dT8 dR9
  refine wp_region_held_drew (S := fun w' => (w'.cell? ⟨w.heap.size + 1, 0, none⟩ = some (.int .i64 1) ∧ w'.cell? ⟨w.heap.size + 1, 1, none⟩ = some (.bool true) ∧ w'.cell? ⟨w.heap.size + 1, 2, none⟩ = some (.bool false) ∧ w'.cell? ⟨w.heap.size + 1, 3, none⟩ = some (.bool false) ∧ w'.cell? ⟨w.heap.size + 1, 4, none⟩ = some (.slice (some ⟨w.heap.size, 0, none⟩) 1 1) ∧ w'.cell? ⟨w.heap.size + 1, 5, none⟩ = some (.slice none 0 0)) ∧ (w'.cell? ⟨w.heap.size + 1 + 1 + 1 + 1, 0, none⟩ = some (.int .i64 1) ∧ w'.cell? ⟨w.heap.size + 1 + 1 + 1 + 1, 1, none⟩ = some (.bool true) ∧ w'.cell? ⟨w.heap.size + 1 + 1 + 1 + 1, 2, none⟩ = some (.bool false) ∧ w'.cell? ⟨w.heap.size + 1 + 1 + 1 + 1, 3, none⟩ = some (.bool false) ∧ w'.cell? ⟨w.heap.size + 1 + 1 + 1 + 1, 4, none⟩ = some (.slice (some ⟨w.heap.size + 1 + 1, 0, none⟩) 1 1) ∧ w'.cell? ⟨w.heap.size + 1 + 1 + 1 + 1, 5, none⟩ = some (.slice (some ⟨w.heap.size + 1 + 1 + 1, 0, none⟩) 1 1)) ∧ (w'.cell? ⟨w4.heap.size, 0, none⟩ = some (.string cSaw.1) ∧ w'.cell? ⟨w4.heap.size, 1, none⟩ = some (.slice SA sn sc)) ∧ w'.cell? ⟨g11, 2, none⟩ = some (.string cSaw.1) ∧ w'.cell? ⟨g11, 3, none⟩ = some (.slice W12 wn wc)) (by kernel_rfl) ?_ (fun hHeld => ?_)
  · exact K0 _ (by (repeat' first | with_reducible exact Below.refl _ _ | with_reducible assumption | with_reducible refine Bw.drew ?_ | with_reducible refine Bw.drewN ?_ _ | with_reducible refine bw_al ?_ _ | with_reducible refine Bw.then ?_ (by with_reducible assumption)))
  refine wpAnyH_ready (rs := [0, 6]) (by kernel_rfl) (by simp) ?_
  refine (AllReadyH.cons (i := 0) (o := { dst := some 46, op := Go.Op.call { callee := Go.Callee.value (Go.Operand.func 30), args := #[], argTypes := #[] }, type := 29, pos := "law.go:43", after := #[], guard := none }) rfl (fun K' hK' => ?_) (AllReadyH.cons (i := 6) (o := { dst := some 52, op := Go.Op.buildSlice 22 1 #[(0, Go.Operand.const (Go.Value.string { data := #[83, 103] }))], type := 22, pos := "law.go:43", after := #[], guard := none }) rfl (fun K' hK' => ?_) AllReadyH.nil))
  · go_simp
    refine saw_any.mono ?_
    rintro e wA ⟨gA, AA, nA, cA0, bA, oA, cA, A3A, n3A, c3A, PA, mA, qA, rfl, hbA, hgA, hsA⟩
    try dsimp only
    refine hK'.out _ _ ?_ (fun hHeld => ?_)
    · exact K0 _ (by (repeat' first | with_reducible exact Below.refl _ _ | with_reducible assumption | with_reducible refine Bw.drew ?_ | with_reducible refine Bw.drewN ?_ _ | with_reducible refine bw_al ?_ _ | with_reducible refine Bw.then ?_ (by with_reducible assumption)))
    clear hK' K'
    try simp only [Act.put, List.setIfInBounds_toArray, List.set_cons_zero, List.set_cons_succ]
    have K1 : ∀ w', Bw wA w' → ((w'.cell? ⟨w.heap.size + 1, 0, none⟩ = some (.int .i64 1) ∧ w'.cell? ⟨w.heap.size + 1, 1, none⟩ = some (.bool true) ∧ w'.cell? ⟨w.heap.size + 1, 2, none⟩ = some (.bool false) ∧ w'.cell? ⟨w.heap.size + 1, 3, none⟩ = some (.bool false) ∧ w'.cell? ⟨w.heap.size + 1, 4, none⟩ = some (.slice (some ⟨w.heap.size, 0, none⟩) 1 1) ∧ w'.cell? ⟨w.heap.size + 1, 5, none⟩ = some (.slice none 0 0)) ∧ (w'.cell? ⟨w.heap.size + 1 + 1 + 1 + 1, 0, none⟩ = some (.int .i64 1) ∧ w'.cell? ⟨w.heap.size + 1 + 1 + 1 + 1, 1, none⟩ = some (.bool true) ∧ w'.cell? ⟨w.heap.size + 1 + 1 + 1 + 1, 2, none⟩ = some (.bool false) ∧ w'.cell? ⟨w.heap.size + 1 + 1 + 1 + 1, 3, none⟩ = some (.bool false) ∧ w'.cell? ⟨w.heap.size + 1 + 1 + 1 + 1, 4, none⟩ = some (.slice (some ⟨w.heap.size + 1 + 1, 0, none⟩) 1 1) ∧ w'.cell? ⟨w.heap.size + 1 + 1 + 1 + 1, 5, none⟩ = some (.slice (some ⟨w.heap.size + 1 + 1 + 1, 0, none⟩) 1 1)) ∧ (w'.cell? ⟨w4.heap.size, 0, none⟩ = some (.string cSaw.1) ∧ w'.cell? ⟨w4.heap.size, 1, none⟩ = some (.slice SA sn sc)) ∧ w'.cell? ⟨g11, 2, none⟩ = some (.string cSaw.1) ∧ w'.cell? ⟨g11, 3, none⟩ = some (.slice W12 wn wc)) ∧ w'.cell? ⟨gA, 3, none⟩ = some (.slice (some ⟨bA, oA, none⟩) 2 cA) ∧ w'.cell? ⟨bA, oA, none⟩ = some (.slice PA mA qA) := fun w' kk => ⟨K0 w' (Bw.then (show Bw WZ wA from (by (repeat' first | with_reducible exact Below.refl _ _ | with_reducible assumption | with_reducible refine Bw.drew ?_ | with_reducible refine Bw.drewN ?_ _ | with_reducible refine bw_al ?_ _ | with_reducible refine Bw.then ?_ (by with_reducible assumption)))) kk), bw_cell kk (by rw [cell_of_row _ _ 3 _ _ _ hsA.row]; rfl), bw_cell kk hsA.c1⟩
    refine wpAnyH_S (S' := fun w' => ((w'.cell? ⟨w.heap.size + 1, 0, none⟩ = some (.int .i64 1) ∧ w'.cell? ⟨w.heap.size + 1, 1, none⟩ = some (.bool true) ∧ w'.cell? ⟨w.heap.size + 1, 2, none⟩ = some (.bool false) ∧ w'.cell? ⟨w.heap.size + 1, 3, none⟩ = some (.bool false) ∧ w'.cell? ⟨w.heap.size + 1, 4, none⟩ = some (.slice (some ⟨w.heap.size, 0, none⟩) 1 1) ∧ w'.cell? ⟨w.heap.size + 1, 5, none⟩ = some (.slice none 0 0)) ∧ (w'.cell? ⟨w.heap.size + 1 + 1 + 1 + 1, 0, none⟩ = some (.int .i64 1) ∧ w'.cell? ⟨w.heap.size + 1 + 1 + 1 + 1, 1, none⟩ = some (.bool true) ∧ w'.cell? ⟨w.heap.size + 1 + 1 + 1 + 1, 2, none⟩ = some (.bool false) ∧ w'.cell? ⟨w.heap.size + 1 + 1 + 1 + 1, 3, none⟩ = some (.bool false) ∧ w'.cell? ⟨w.heap.size + 1 + 1 + 1 + 1, 4, none⟩ = some (.slice (some ⟨w.heap.size + 1 + 1, 0, none⟩) 1 1) ∧ w'.cell? ⟨w.heap.size + 1 + 1 + 1 + 1, 5, none⟩ = some (.slice (some ⟨w.heap.size + 1 + 1 + 1, 0, none⟩) 1 1)) ∧ (w'.cell? ⟨w4.heap.size, 0, none⟩ = some (.string cSaw.1) ∧ w'.cell? ⟨w4.heap.size, 1, none⟩ = some (.slice SA sn sc)) ∧ w'.cell? ⟨g11, 2, none⟩ = some (.string cSaw.1) ∧ w'.cell? ⟨g11, 3, none⟩ = some (.slice W12 wn wc)) ∧ w'.cell? ⟨gA, 3, none⟩ = some (.slice (some ⟨bA, oA, none⟩) 2 cA) ∧ w'.cell? ⟨bA, oA, none⟩ = some (.slice PA mA qA)) (fun w' h => h.1) ?_
    have hHeld := K1 _ (Below.refl _ _)
    refine wpAnyH_take (i := 1) (oi := { dst := some 47, op := Go.Op.indexAddr 29 (Go.Operand.tmp 46) (Go.Operand.const (Go.Value.int Go.IntKind.i64 1)), type := 0, pos := "law.go:43", after := #[{ on := 0, ground := Go.Ground.data }], guard := none }) (v := ?v1) rfl (by kernel_rfl) (by kernel_rfl) (by kernel_rfl) (fun _ _ _ h => h) (Or.inl ⟨by rfl, ?hy1⟩) (by assumption) ?_
    case hy1 => (intro w hSw; (try dsimp only at hSw); go_simp; try with_reducible rfl)
    try simp only [Act.put, List.setIfInBounds_toArray, List.set_cons_zero, List.set_cons_succ]
    refine wpAnyH_take (i := 2) (oi := { dst := some 48, op := Go.Op.fieldAddr 37 (Go.Operand.tmp 47) 1, type := 0, pos := "law.go:43", after := #[{ on := 1, ground := Go.Ground.data }], guard := none }) (v := ?v2) rfl (by kernel_rfl) (by kernel_rfl) (by kernel_rfl) (fun _ _ _ h => h) (Or.inl ⟨by rfl, ?hy2⟩) (by assumption) ?_
    case hy2 => (intro w hSw; (try dsimp only at hSw); go_simp; try with_reducible rfl)
    try simp only [Act.put, List.setIfInBounds_toArray, List.set_cons_zero, List.set_cons_succ]
    refine wpAnyH_take (i := 3) (oi := { dst := some 49, op := Go.Op.load 35 (Go.Operand.tmp 48), type := 35, pos := "law.go:43", after := #[{ on := 2, ground := Go.Ground.data }], guard := none }) (v := ?v3) rfl (by kernel_rfl) (by kernel_rfl) (by kernel_rfl) (fun _ _ _ h => h) (Or.inl ⟨by rfl, ?hy3⟩) (by assumption) ?_
    case hy3 => (intro w hSw; (try dsimp only at hSw); go_simp; try with_reducible rfl)
    try simp only [Act.put, List.setIfInBounds_toArray, List.set_cons_zero, List.set_cons_succ]
    refine wpAnyH_take (i := 4) (oi := { dst := some 50, op := Go.Op.indexAddr 35 (Go.Operand.tmp 49) (Go.Operand.const (Go.Value.int Go.IntKind.i64 0)), type := 0, pos := "law.go:43", after := #[{ on := 3, ground := Go.Ground.data }], guard := none }) (v := ?v4) rfl (by kernel_rfl) (by kernel_rfl) (by kernel_rfl) (fun _ _ _ h => h) (Or.inl ⟨by rfl, ?hy4⟩) (by assumption) ?_
    case hy4 => (intro w hSw; (try dsimp only at hSw); go_simp; try with_reducible rfl)
    try simp only [Act.put, List.setIfInBounds_toArray, List.set_cons_zero, List.set_cons_succ]
    refine wpAnyH_take (i := 5) (oi := { dst := some 51, op := Go.Op.load 24 (Go.Operand.tmp 50), type := 24, pos := "law.go:43", after := #[{ on := 4, ground := Go.Ground.data }], guard := none }) (v := ?v5) rfl (by kernel_rfl) (by kernel_rfl) (by kernel_rfl) (fun _ _ _ h => h) (Or.inl ⟨by rfl, ?hy5⟩) (by assumption) ?_
    case hy5 => (intro w hSw; (try dsimp only at hSw); go_simp; try with_reducible rfl)
    try simp only [Act.put, List.setIfInBounds_toArray, List.set_cons_zero, List.set_cons_succ]
    refine wpAnyH_ready (rs := [6]) (by kernel_rfl) (by simp) ?_
    refine (AllReadyH.cons (i := 6) (o := { dst := some 52, op := Go.Op.buildSlice 22 1 #[(0, Go.Operand.const (Go.Value.string { data := #[83, 103] }))], type := 22, pos := "law.go:43", after := #[], guard := none }) rfl (fun K' hK' => ?_) AllReadyH.nil)
    go_simp
    refine hK'.out _ _ ?_ (fun hHeld => ?_)
    · exact K1 _ (by (repeat' first | with_reducible exact Below.refl _ _ | with_reducible assumption | with_reducible refine Bw.drew ?_ | with_reducible refine Bw.drewN ?_ _ | with_reducible refine bw_al ?_ _ | with_reducible refine Bw.then ?_ (by with_reducible assumption)))
    clear hK' K'
    try simp only [Act.put, List.setIfInBounds_toArray, List.set_cons_zero, List.set_cons_succ]
    refine wpAnyH_ready (rs := [7]) (by kernel_rfl) (by simp) ?_
    refine (AllReadyH.cons (i := 7) (o := { dst := some 53, op := Go.Op.call { callee := Go.Callee.value (Go.Operand.func 13), args := #[Go.Operand.tmp 51, Go.Operand.tmp 52], argTypes := #[24, 22] }, type := 4, pos := "law.go:43", after := #[{ on := 5, ground := Go.Ground.data }, { on := 6, ground := Go.Ground.data }, { on := 0, ground := Go.Ground.chain }], guard := none }) rfl (fun K' hK' => ?_) AllReadyH.nil)
    go_simp
    refine (val_of (congrArg Value.bool X3) (has_any (hsA.sx.after (by (repeat' first | with_reducible exact Below.refl _ _ | with_reducible assumption | with_reducible refine Bw.drew ?_ | with_reducible refine Bw.drewN ?_ _ | with_reducible refine bw_al ?_ _ | with_reducible refine Bw.then ?_ (by with_reducible assumption)))) (lit1 (x := sSg) (by first | exact at_new rfl | exact row_bw hbA (at_new hszZ.symm)) (by decide)))).mono ?_
    rintro e w53 ⟨rfl, hb53⟩
    try dsimp only
    refine hK'.out _ _ ?_ (fun hHeld => ?_)
    · exact K1 _ (by (repeat' first | with_reducible exact Below.refl _ _ | with_reducible assumption | with_reducible refine Bw.drew ?_ | with_reducible refine Bw.drewN ?_ _ | with_reducible refine bw_al ?_ _ | with_reducible refine Bw.then ?_ (by with_reducible assumption)))
    clear hK' K'
    try simp only [Act.put, List.setIfInBounds_toArray, List.set_cons_zero, List.set_cons_succ]
    refine wpAnyH_take (i := 8) (oi := { dst := some 54, op := Go.Op.move (Go.Operand.tmp 53), type := 4, pos := "law.go:43", after := #[{ on := 7, ground := Go.Ground.data }, { on := 7, ground := Go.Ground.chain }], guard := none }) (v := ?v6) rfl (by kernel_rfl) (by kernel_rfl) (by kernel_rfl) (fun _ _ _ h => h) (Or.inl ⟨by rfl, ?hy6⟩) (by assumption) ?_
    case hy6 => (intro w hSw; (try dsimp only at hSw); go_simp; try with_reducible rfl)
    try simp only [Act.put, List.setIfInBounds_toArray, List.set_cons_zero, List.set_cons_succ]
    refine wpAnyH_ready (rs := [9]) (by kernel_rfl) (by simp) ?_
    refine (AllReadyH.cons (i := 9) (o := { dst := some 55, op := Go.Op.call { callee := Go.Callee.value (Go.Operand.func 29), args := #[Go.Operand.const (Go.Value.int Go.IntKind.i64 (-1)), Go.Operand.const (Go.Value.string { data := #[68, 101, 116] })], argTypes := #[3, 9] }, type := 28, pos := "law.go:43", after := #[{ on := 8, ground := Go.Ground.chain }, { on := 8, ground := Go.Ground.guard }], guard := some (8, true) }) rfl (fun K' hK' => ?_) AllReadyH.nil)
    go_simp
    refine (test_any (a := -1) (tag := sDet) (by decide)).mono ?_
    rintro e w55 ⟨u55, rfl, hb55, hu55⟩
    obtain ⟨Q55, q55n, q55c, rfl, _, _, _⟩ := hu55.form'
    try dsimp only
    refine hK'.out _ _ ?_ (fun hHeld => ?_)
    · exact K1 _ (by (repeat' first | with_reducible exact Below.refl _ _ | with_reducible assumption | with_reducible refine Bw.drew ?_ | with_reducible refine Bw.drewN ?_ _ | with_reducible refine bw_al ?_ _ | with_reducible refine Bw.then ?_ (by with_reducible assumption)))
    clear hK' K'
    try simp only [Act.put, List.setIfInBounds_toArray, List.set_cons_zero, List.set_cons_succ]
    refine wpAnyH_ready (rs := [10]) (by kernel_rfl) (by simp) ?_
    refine (AllReadyH.cons (i := 10) (o := { dst := some 56, op := Go.Op.call { callee := Go.Callee.value (Go.Operand.func 30), args := #[], argTypes := #[] }, type := 29, pos := "law.go:43", after := #[{ on := 9, ground := Go.Ground.chain }, { on := 8, ground := Go.Ground.guard }], guard := some (8, true) }) rfl (fun K' hK' => ?_) AllReadyH.nil)
    go_simp
    refine saw_any.mono ?_
    rintro e w56 ⟨gB, AB, nB, cB0, bB, oB, cB, A3B, n3B, c3B, PB, mB, qB, rfl, hb56, hgB, hsB⟩
    try dsimp only
    refine hK'.out _ _ ?_ (fun hHeld => ?_)
    · exact K1 _ (by (repeat' first | with_reducible exact Below.refl _ _ | with_reducible assumption | with_reducible refine Bw.drew ?_ | with_reducible refine Bw.drewN ?_ _ | with_reducible refine bw_al ?_ _ | with_reducible refine Bw.then ?_ (by with_reducible assumption)))
    clear hK' K'
    try simp only [Act.put, List.setIfInBounds_toArray, List.set_cons_zero, List.set_cons_succ]
    refine wpAnyH_ready (rs := [11]) (by kernel_rfl) (by simp) ?_
    refine (AllReadyH.cons (i := 11) (o := { dst := some 57, op := Go.Op.call { callee := Go.Callee.value (Go.Operand.func 16), args := #[Go.Operand.tmp 55, Go.Operand.tmp 56, Go.Operand.const (Go.Value.int Go.IntKind.i64 1)], argTypes := #[28, 29, 3] }, type := 4, pos := "law.go:43", after := #[{ on := 9, ground := Go.Ground.data }, { on := 10, ground := Go.Ground.data }, { on := 10, ground := Go.Ground.chain }, { on := 8, ground := Go.Ground.guard }], guard := some (8, true) }) rfl (fun K' hK' => ?_) AllReadyH.nil)
    go_simp
    refine (val_of (congrArg Value.bool X4) (pHolds_any (t := tDet) (l := sawL) (i := 1) (HTZ.after (by (repeat' first | with_reducible exact Below.refl _ _ | with_reducible assumption | with_reducible refine Bw.drew ?_ | with_reducible refine Bw.drewN ?_ _ | with_reducible refine bw_al ?_ _ | with_reducible refine Bw.then ?_ (by with_reducible assumption)))) ⟨by decide, by decide⟩ (hu55.after (by (repeat' first | with_reducible exact Below.refl _ _ | with_reducible assumption | with_reducible refine Bw.drew ?_ | with_reducible refine Bw.drewN ?_ _ | with_reducible refine bw_al ?_ _ | with_reducible refine Bw.then ?_ (by with_reducible assumption)))) rdNil (hsB.after (by (repeat' first | with_reducible exact Below.refl _ _ | with_reducible assumption | with_reducible refine Bw.drew ?_ | with_reducible refine Bw.drewN ?_ _ | with_reducible refine bw_al ?_ _ | with_reducible refine Bw.then ?_ (by with_reducible assumption)))).rd)).mono ?_
    rintro e w57 ⟨rfl, hb57⟩
    try dsimp only
    refine hK'.out _ _ ?_ (fun hHeld => ?_)
    · exact K1 _ (by (repeat' first | with_reducible exact Below.refl _ _ | with_reducible assumption | with_reducible refine Bw.drew ?_ | with_reducible refine Bw.drewN ?_ _ | with_reducible refine bw_al ?_ _ | with_reducible refine Bw.then ?_ (by with_reducible assumption)))
    clear hK' K'
    try simp only [Act.put, List.setIfInBounds_toArray, List.set_cons_zero, List.set_cons_succ]
    refine wpAnyH_take (i := 12) (oi := { dst := some 58, op := Go.Op.pick (Go.Operand.tmp 54) (Go.Operand.tmp 57) (Go.Operand.const (Go.Value.bool false)), type := 4, pos := "law.go:43", after := #[{ on := 8, ground := Go.Ground.data }, { on := 11, ground := Go.Ground.data }], guard := none }) (v := ?v7) rfl (by kernel_rfl) (by kernel_rfl) (by kernel_rfl) (fun _ _ _ h => h) (Or.inl ⟨by rfl, ?hy7⟩) (by assumption) ?_
    case hy7 => (intro w hSw; (try dsimp only at hSw); go_simp; try with_reducible rfl)
    try simp only [Act.put, List.setIfInBounds_toArray, List.set_cons_zero, List.set_cons_succ]
    refine wpAnyH_take (i := 13) (oi := { dst := some 59, op := Go.Op.move (Go.Operand.tmp 58), type := 4, pos := "law.go:43", after := #[{ on := 12, ground := Go.Ground.data }, { on := 11, ground := Go.Ground.chain }], guard := none }) (v := ?v8) rfl (by kernel_rfl) (by kernel_rfl) (by kernel_rfl) (fun _ _ _ h => h) (Or.inl ⟨by rfl, ?hy8⟩) (by assumption) ?_
    case hy8 => (intro w hSw; (try dsimp only at hSw); go_simp; try with_reducible rfl)
    try simp only [Act.put, List.setIfInBounds_toArray, List.set_cons_zero, List.set_cons_succ]
    refine wpAnyH_take (i := 14) (oi := { dst := some 60, op := Go.Op.load 28 (Go.Operand.tmp 1), type := 28, pos := "law.go:43", after := #[{ on := 13, ground := Go.Ground.guard }], guard := some (13, true) }) (v := ?v9) rfl (by kernel_rfl) (by kernel_rfl) (by kernel_rfl) (fun _ _ _ h => h) (Or.inl ⟨by rfl, ?hy9⟩) (by assumption) ?_
    case hy9 => (intro w hSw; (try dsimp only at hSw); go_simp; try with_reducible rfl)
    try simp only [Act.put, List.setIfInBounds_toArray, List.set_cons_zero, List.set_cons_succ]
    refine wpAnyH_ready (rs := [15]) (by kernel_rfl) (by simp) ?_
    refine (AllReadyH.cons (i := 15) (o := { dst := some 61, op := Go.Op.call { callee := Go.Callee.value (Go.Operand.func 30), args := #[], argTypes := #[] }, type := 29, pos := "law.go:43", after := #[{ on := 13, ground := Go.Ground.chain }, { on := 13, ground := Go.Ground.guard }], guard := some (13, true) }) rfl (fun K' hK' => ?_) AllReadyH.nil)
    go_simp
    refine saw_any.mono ?_
    rintro e w61 ⟨g61, A61, n61, cc61, b61, o61, c61, A361, n361, c361, P61, m61, q61, rfl, hb61, hg61, hs61⟩
    try dsimp only
    refine hK'.out _ _ ?_ (fun hHeld => ?_)
    · exact K1 _ (by (repeat' first | with_reducible exact Below.refl _ _ | with_reducible assumption | with_reducible refine Bw.drew ?_ | with_reducible refine Bw.drewN ?_ _ | with_reducible refine bw_al ?_ _ | with_reducible refine Bw.then ?_ (by with_reducible assumption)))
    clear hK' K'
    try simp only [Act.put, List.setIfInBounds_toArray, List.set_cons_zero, List.set_cons_succ]
    refine wpAnyH_ready (rs := [16]) (by kernel_rfl) (by simp) ?_
    refine (AllReadyH.cons (i := 16) (o := { dst := some 62, op := Go.Op.call { callee := Go.Callee.value (Go.Operand.func 16), args := #[Go.Operand.tmp 60, Go.Operand.tmp 61, Go.Operand.const (Go.Value.int Go.IntKind.i64 0)], argTypes := #[28, 29, 3] }, type := 4, pos := "law.go:43", after := #[{ on := 14, ground := Go.Ground.data }, { on := 15, ground := Go.Ground.data }, { on := 15, ground := Go.Ground.chain }, { on := 13, ground := Go.Ground.guard }], guard := some (13, true) }) rfl (fun K' hK' => ?_) AllReadyH.nil)
    go_simp
    refine (val_of (congrArg Value.bool X5) (pHolds_any (t := tScan) (l := sawL) (i := 0) (HTZ.after (by (repeat' first | with_reducible exact Below.refl _ _ | with_reducible assumption | with_reducible refine Bw.drew ?_ | with_reducible refine Bw.drewN ?_ _ | with_reducible refine bw_al ?_ _ | with_reducible refine Bw.then ?_ (by with_reducible assumption)))) ⟨by decide, by decide⟩ (dS'.after (by (repeat' first | with_reducible exact Below.refl _ _ | with_reducible assumption | with_reducible refine Bw.drew ?_ | with_reducible refine Bw.drewN ?_ _ | with_reducible refine bw_al ?_ _ | with_reducible refine Bw.then ?_ (by with_reducible assumption)))) rdNil (hs61.after (by (repeat' first | with_reducible exact Below.refl _ _ | with_reducible assumption | with_reducible refine Bw.drew ?_ | with_reducible refine Bw.drewN ?_ _ | with_reducible refine bw_al ?_ _ | with_reducible refine Bw.then ?_ (by with_reducible assumption)))).rd)).mono ?_
    rintro e w62 ⟨rfl, hb62⟩
    try dsimp only
    refine hK'.out _ _ ?_ (fun hHeld => ?_)
    · exact K1 _ (by (repeat' first | with_reducible exact Below.refl _ _ | with_reducible assumption | with_reducible refine Bw.drew ?_ | with_reducible refine Bw.drewN ?_ _ | with_reducible refine bw_al ?_ _ | with_reducible refine Bw.then ?_ (by with_reducible assumption)))
    clear hK' K'
    try simp only [Act.put, List.setIfInBounds_toArray, List.set_cons_zero, List.set_cons_succ]
    refine wpAnyH_take (i := 17) (oi := { dst := some 63, op := Go.Op.pick (Go.Operand.tmp 59) (Go.Operand.tmp 62) (Go.Operand.const (Go.Value.bool false)), type := 4, pos := "law.go:43", after := #[{ on := 13, ground := Go.Ground.data }, { on := 16, ground := Go.Ground.data }], guard := none }) (v := ?v10) rfl (by kernel_rfl) (by kernel_rfl) (by kernel_rfl) (fun _ _ _ h => h) (Or.inl ⟨by rfl, ?hy10⟩) (by assumption) ?_
    case hy10 => (intro w hSw; (try dsimp only at hSw); go_simp; try with_reducible rfl)
    try simp only [Act.put, List.setIfInBounds_toArray, List.set_cons_zero, List.set_cons_succ]
    refine wpAnyH_take (i := 18) (oi := { dst := some 64, op := Go.Op.move (Go.Operand.tmp 63), type := 4, pos := "law.go:43", after := #[{ on := 17, ground := Go.Ground.data }, { on := 16, ground := Go.Ground.chain }], guard := none }) (v := ?v11) rfl (by kernel_rfl) (by kernel_rfl) (by kernel_rfl) (fun _ _ _ h => h) (Or.inl ⟨by rfl, ?hy11⟩) (by assumption) ?_
    case hy11 => (intro w hSw; (try dsimp only at hSw); go_simp; try with_reducible rfl)
    try simp only [Act.put, List.setIfInBounds_toArray, List.set_cons_zero, List.set_cons_succ]
    refine wpAnyH_take (i := 19) (oi := { dst := some 65, op := Go.Op.load 28 (Go.Operand.tmp 2), type := 28, pos := "law.go:43", after := #[{ on := 18, ground := Go.Ground.guard }], guard := some (18, true) }) (v := ?v12) rfl (by kernel_rfl) (by kernel_rfl) (by kernel_rfl) (fun _ _ _ h => h) (Or.inl ⟨by rfl, ?hy12⟩) (by assumption) ?_
    case hy12 => (intro w hSw; (try dsimp only at hSw); go_simp; try with_reducible rfl)
    try simp only [Act.put, List.setIfInBounds_toArray, List.set_cons_zero, List.set_cons_succ]
    refine wpAnyH_ready (rs := [20]) (by kernel_rfl) (by simp) ?_
    refine (AllReadyH.cons (i := 20) (o := { dst := some 66, op := Go.Op.call { callee := Go.Callee.value (Go.Operand.func 30), args := #[], argTypes := #[] }, type := 29, pos := "law.go:43", after := #[{ on := 18, ground := Go.Ground.chain }, { on := 18, ground := Go.Ground.guard }], guard := some (18, true) }) rfl (fun K' hK' => ?_) AllReadyH.nil)
    go_simp
    refine saw_any.mono ?_
    rintro e w66 ⟨g66, A66, n66, cc66, b66, o66, c66, A366, n366, c366, P66, m66, q66, rfl, hb66, hg66, hs66⟩
    try dsimp only
    refine hK'.out _ _ ?_ (fun hHeld => ?_)
    · exact K1 _ (by (repeat' first | with_reducible exact Below.refl _ _ | with_reducible assumption | with_reducible refine Bw.drew ?_ | with_reducible refine Bw.drewN ?_ _ | with_reducible refine bw_al ?_ _ | with_reducible refine Bw.then ?_ (by with_reducible assumption)))
    clear hK' K'
    try simp only [Act.put, List.setIfInBounds_toArray, List.set_cons_zero, List.set_cons_succ]
    refine wpAnyH_ready (rs := [21]) (by kernel_rfl) (by simp) ?_
    refine (AllReadyH.cons (i := 21) (o := { dst := some 67, op := Go.Op.call { callee := Go.Callee.value (Go.Operand.func 16), args := #[Go.Operand.tmp 65, Go.Operand.tmp 66, Go.Operand.const (Go.Value.int Go.IntKind.i64 0)], argTypes := #[28, 29, 3] }, type := 4, pos := "law.go:43", after := #[{ on := 19, ground := Go.Ground.data }, { on := 20, ground := Go.Ground.data }, { on := 20, ground := Go.Ground.chain }, { on := 18, ground := Go.Ground.guard }], guard := some (18, true) }) rfl (fun K' hK' => ?_) AllReadyH.nil)
    go_simp
    refine (val_of (congrArg Value.bool X6) (pHolds_any (t := tWall) (l := sawL) (i := 0) (HTZ.after (by (repeat' first | with_reducible exact Below.refl _ _ | with_reducible assumption | with_reducible refine Bw.drew ?_ | with_reducible refine Bw.drewN ?_ _ | with_reducible refine bw_al ?_ _ | with_reducible refine Bw.then ?_ (by with_reducible assumption)))) ⟨by decide, by decide⟩ (dW1'.after (by (repeat' first | with_reducible exact Below.refl _ _ | with_reducible assumption | with_reducible refine Bw.drew ?_ | with_reducible refine Bw.drewN ?_ _ | with_reducible refine bw_al ?_ _ | with_reducible refine Bw.then ?_ (by with_reducible assumption)))) (dW2'.after (by (repeat' first | with_reducible exact Below.refl _ _ | with_reducible assumption | with_reducible refine Bw.drew ?_ | with_reducible refine Bw.drewN ?_ _ | with_reducible refine bw_al ?_ _ | with_reducible refine Bw.then ?_ (by with_reducible assumption)))) (hs66.after (by (repeat' first | with_reducible exact Below.refl _ _ | with_reducible assumption | with_reducible refine Bw.drew ?_ | with_reducible refine Bw.drewN ?_ _ | with_reducible refine bw_al ?_ _ | with_reducible refine Bw.then ?_ (by with_reducible assumption)))).rd)).mono ?_
    rintro e w67 ⟨rfl, hb67⟩
    try dsimp only
    refine hK'.out _ _ ?_ (fun hHeld => ?_)
    · exact K1 _ (by (repeat' first | with_reducible exact Below.refl _ _ | with_reducible assumption | with_reducible refine Bw.drew ?_ | with_reducible refine Bw.drewN ?_ _ | with_reducible refine bw_al ?_ _ | with_reducible refine Bw.then ?_ (by with_reducible assumption)))
    clear hK' K'
    try simp only [Act.put, List.setIfInBounds_toArray, List.set_cons_zero, List.set_cons_succ]
    refine wpAnyH_take (i := 22) (oi := { dst := some 68, op := Go.Op.unOp Go.UnOp.not 4 (Go.Operand.tmp 67), type := 4, pos := "law.go:43", after := #[{ on := 21, ground := Go.Ground.data }, { on := 18, ground := Go.Ground.guard }], guard := some (18, true) }) (v := ?v13) rfl (by kernel_rfl) (by kernel_rfl) (by kernel_rfl) (fun _ _ _ h => h) (Or.inl ⟨by rfl, ?hy13⟩) (by assumption) ?_
    case hy13 => (intro w hSw; (try dsimp only at hSw); go_simp; try with_reducible rfl)
    try simp only [Act.put, List.setIfInBounds_toArray, List.set_cons_zero, List.set_cons_succ]
    refine wpAnyH_take (i := 23) (oi := { dst := some 69, op := Go.Op.pick (Go.Operand.tmp 64) (Go.Operand.tmp 68) (Go.Operand.const (Go.Value.bool false)), type := 4, pos := "law.go:43", after := #[{ on := 18, ground := Go.Ground.data }, { on := 22, ground := Go.Ground.data }], guard := none }) (v := ?v14) rfl (by kernel_rfl) (by kernel_rfl) (by kernel_rfl) (fun _ _ _ h => h) (Or.inl ⟨by rfl, ?hy14⟩) (by assumption) ?_
    case hy14 => (intro w hSw; (try dsimp only at hSw); go_simp; try with_reducible rfl)
    try simp only [Act.put, List.setIfInBounds_toArray, List.set_cons_zero, List.set_cons_succ]
    refine wpAnyH_take (i := 24) (oi := { dst := some 70, op := Go.Op.move (Go.Operand.tmp 69), type := 4, pos := "law.go:43", after := #[{ on := 23, ground := Go.Ground.data }, { on := 21, ground := Go.Ground.chain }], guard := none }) (v := ?v15) rfl (by kernel_rfl) (by kernel_rfl) (by kernel_rfl) (fun _ _ _ h => h) (Or.inl ⟨by rfl, ?hy15⟩) (by assumption) ?_
    case hy15 => (intro w hSw; (try dsimp only at hSw); go_simp; try with_reducible rfl)
    try simp only [Act.put, List.setIfInBounds_toArray, List.set_cons_zero, List.set_cons_succ]
    refine wpAnyH_take (i := 25) (oi := { dst := some 71, op := Go.Op.move (Go.Operand.tmp 5), type := 38, pos := "law.go:43", after := #[{ on := 24, ground := Go.Ground.guard }], guard := some (24, true) }) (v := ?v16) rfl (by kernel_rfl) (by kernel_rfl) (by kernel_rfl) (fun _ _ _ h => h) (Or.inl ⟨by rfl, ?hy16⟩) (by assumption) ?_
    case hy16 => (intro w hSw; (try dsimp only at hSw); go_simp; try with_reducible rfl)
    try simp only [Act.put, List.setIfInBounds_toArray, List.set_cons_zero, List.set_cons_succ]
    refine wpAnyH_take (i := 26) (oi := { dst := some 72, op := Go.Op.binOp Go.BinOp.eql 38 (Go.Operand.tmp 71) (Go.Operand.const (Go.Value.int Go.IntKind.i64 0)) 38, type := 4, pos := "law.go:43", after := #[{ on := 25, ground := Go.Ground.data }, { on := 24, ground := Go.Ground.guard }], guard := some (24, true) }) (v := ?v17) rfl (by kernel_rfl) (by kernel_rfl) (by kernel_rfl) (fun _ _ _ h => h) (Or.inl ⟨by rfl, ?hy17⟩) (by assumption) ?_
    case hy17 => (intro w hSw; (try dsimp only at hSw); go_simp; try with_reducible rfl)
    try simp only [Act.put, List.setIfInBounds_toArray, List.set_cons_zero, List.set_cons_succ]
    refine wpAnyH_take (i := 27) (oi := { dst := some 73, op := Go.Op.pick (Go.Operand.tmp 70) (Go.Operand.tmp 72) (Go.Operand.const (Go.Value.bool false)), type := 4, pos := "law.go:43", after := #[{ on := 24, ground := Go.Ground.data }, { on := 26, ground := Go.Ground.data }], guard := none }) (v := ?v18) rfl (by kernel_rfl) (by kernel_rfl) (by kernel_rfl) (fun _ _ _ h => h) (Or.inl ⟨by rfl, ?hy18⟩) (by assumption) ?_
    case hy18 => (intro w hSw; (try dsimp only at hSw); go_simp; try with_reducible rfl)
    try simp only [Act.put, List.setIfInBounds_toArray, List.set_cons_zero, List.set_cons_succ]
    refine wpAnyH_take (i := 28) (oi := { dst := some 74, op := Go.Op.move (Go.Operand.tmp 73), type := 4, pos := "law.go:43", after := #[{ on := 27, ground := Go.Ground.data }, { on := 24, ground := Go.Ground.chain }], guard := none }) (v := ?v19) rfl (by kernel_rfl) (by kernel_rfl) (by kernel_rfl) (fun _ _ _ h => h) (Or.inl ⟨by rfl, ?hy19⟩) (by assumption) ?_
    case hy19 => (intro w hSw; (try dsimp only at hSw); go_simp; try with_reducible rfl)
    try simp only [Act.put, List.setIfInBounds_toArray, List.set_cons_zero, List.set_cons_succ]
    refine wpAnyH_take (i := 29) (oi := { dst := some 75, op := Go.Op.move (Go.Operand.tmp 4), type := 4, pos := "law.go:43", after := #[{ on := 28, ground := Go.Ground.guard }], guard := some (28, true) }) (v := ?v20) rfl (by kernel_rfl) (by kernel_rfl) (by kernel_rfl) (fun _ _ _ h => h) (Or.inl ⟨by rfl, ?hy20⟩) (by assumption) ?_
    case hy20 => (intro w hSw; (try dsimp only at hSw); go_simp; try with_reducible rfl)
    try simp only [Act.put, List.setIfInBounds_toArray, List.set_cons_zero, List.set_cons_succ]
    refine wpAnyH_take (i := 30) (oi := { dst := some 76, op := Go.Op.pick (Go.Operand.tmp 74) (Go.Operand.tmp 75) (Go.Operand.const (Go.Value.bool false)), type := 4, pos := "law.go:43", after := #[{ on := 28, ground := Go.Ground.data }, { on := 29, ground := Go.Ground.data }], guard := none }) (v := ?v21) rfl (by kernel_rfl) (by kernel_rfl) (by kernel_rfl) (fun _ _ _ h => h) (Or.inl ⟨by rfl, ?hy21⟩) (by assumption) ?_
    case hy21 => (intro w hSw; (try dsimp only at hSw); go_simp; try with_reducible rfl)
    try simp only [Act.put, List.setIfInBounds_toArray, List.set_cons_zero, List.set_cons_succ]
    refine wpAnyH_take (i := 31) (oi := { dst := some 77, op := Go.Op.move (Go.Operand.tmp 76), type := 4, pos := "law.go:43", after := #[{ on := 30, ground := Go.Ground.data }, { on := 28, ground := Go.Ground.chain }], guard := none }) (v := ?v22) rfl (by kernel_rfl) (by kernel_rfl) (by kernel_rfl) (fun _ _ _ h => h) (Or.inl ⟨by rfl, ?hy22⟩) (by assumption) ?_
    case hy22 => (intro w hSw; (try dsimp only at hSw); go_simp; try with_reducible rfl)
    try simp only [Act.put, List.setIfInBounds_toArray, List.set_cons_zero, List.set_cons_succ]
    refine wpAnyH_take (i := 32) (oi := { dst := some 78, op := Go.Op.load 37 (Go.Operand.tmp 3), type := 37, pos := "law.go:43", after := #[{ on := 31, ground := Go.Ground.guard }], guard := some (31, true) }) (v := ?v23) rfl (by kernel_rfl) (by kernel_rfl) (by kernel_rfl) (fun _ _ _ h => h) (Or.inl ⟨by rfl, ?hy23⟩) (by assumption) ?_
    case hy23 => (intro w hSw; (try dsimp only at hSw); go_simp; try with_reducible rfl)
    try simp only [Act.put, List.setIfInBounds_toArray, List.set_cons_zero, List.set_cons_succ]
    refine wpAnyH_take (i := 33) (oi := { dst := some 79, op := Go.Op.move (Go.Operand.tmp 10), type := 29, pos := "law.go:43", after := #[{ on := 31, ground := Go.Ground.guard }], guard := some (31, true) }) (v := ?v24) rfl (by kernel_rfl) (by kernel_rfl) (by kernel_rfl) (fun _ _ _ h => h) (Or.inl ⟨by rfl, ?hy24⟩) (by assumption) ?_
    case hy24 => (intro w hSw; (try dsimp only at hSw); go_simp; try with_reducible rfl)
    try simp only [Act.put, List.setIfInBounds_toArray, List.set_cons_zero, List.set_cons_succ]
    refine wpAnyH_take (i := 34) (oi := { dst := some 80, op := Go.Op.indexAddr 29 (Go.Operand.tmp 79) (Go.Operand.const (Go.Value.int Go.IntKind.i64 1)), type := 0, pos := "law.go:43", after := #[{ on := 33, ground := Go.Ground.data }, { on := 31, ground := Go.Ground.guard }], guard := some (31, true) }) (v := ?v25) rfl (by kernel_rfl) (by kernel_rfl) (by kernel_rfl) (fun _ _ _ h => h) (Or.inl ⟨by rfl, ?hy25⟩) (by assumption) ?_
    case hy25 => (intro w hSw; (try dsimp only at hSw); go_simp; try with_reducible rfl)
    try simp only [Act.put, List.setIfInBounds_toArray, List.set_cons_zero, List.set_cons_succ]
    refine wpAnyH_take (i := 35) (oi := { dst := some 81, op := Go.Op.load 37 (Go.Operand.tmp 80), type := 37, pos := "law.go:43", after := #[{ on := 34, ground := Go.Ground.data }, { on := 31, ground := Go.Ground.guard }], guard := some (31, true) }) (v := ?v26) rfl (by kernel_rfl) (by kernel_rfl) (by kernel_rfl) (fun _ _ _ h => h) (Or.inl ⟨by rfl, ?hy26⟩) (by assumption) ?_
    case hy26 => (intro w hSw; (try dsimp only at hSw); go_simp; try with_reducible rfl)
    try simp only [Act.put, List.setIfInBounds_toArray, List.set_cons_zero, List.set_cons_succ]
    refine wpAnyH_ready (rs := [36]) (by kernel_rfl) (by simp) ?_
    refine (AllReadyH.cons (i := 36) (o := { dst := some 82, op := Go.Op.call { callee := Go.Callee.value (Go.Operand.func 20), args := #[Go.Operand.tmp 78, Go.Operand.tmp 81], argTypes := #[37, 37] }, type := 4, pos := "law.go:44", after := #[{ on := 32, ground := Go.Ground.data }, { on := 35, ground := Go.Ground.data }, { on := 31, ground := Go.Ground.chain }, { on := 31, ground := Go.Ground.guard }], guard := some (31, true) }) rfl (fun K' hK' => ?_) AllReadyH.nil)
    go_simp
    refine (val_of (congrArg Value.bool X7) (samec_any (f1 := cSaw.1) (f2 := cSaw.1) (dC'.after (by (repeat' first | with_reducible exact Below.refl _ _ | with_reducible assumption | with_reducible refine Bw.drew ?_ | with_reducible refine Bw.drewN ?_ _ | with_reducible refine bw_al ?_ _ | with_reducible refine Bw.then ?_ (by with_reducible assumption)))) (dNew.after (by (repeat' first | with_reducible exact Below.refl _ _ | with_reducible assumption | with_reducible refine Bw.drew ?_ | with_reducible refine Bw.drewN ?_ _ | with_reducible refine bw_al ?_ _ | with_reducible refine Bw.then ?_ (by with_reducible assumption)))))).mono ?_
    rintro e w82 ⟨rfl, hb82⟩
    try dsimp only
    refine hK'.out _ _ ?_ (fun hHeld => ?_)
    · exact K1 _ (by (repeat' first | with_reducible exact Below.refl _ _ | with_reducible assumption | with_reducible refine Bw.drew ?_ | with_reducible refine Bw.drewN ?_ _ | with_reducible refine bw_al ?_ _ | with_reducible refine Bw.then ?_ (by with_reducible assumption)))
    clear hK' K'
    try simp only [Act.put, List.setIfInBounds_toArray, List.set_cons_zero, List.set_cons_succ]
    refine wpAnyH_take (i := 37) (oi := { dst := some 83, op := Go.Op.pick (Go.Operand.tmp 77) (Go.Operand.tmp 82) (Go.Operand.const (Go.Value.bool false)), type := 4, pos := "law.go:43", after := #[{ on := 31, ground := Go.Ground.data }, { on := 36, ground := Go.Ground.data }], guard := none }) (v := ?v27) rfl (by kernel_rfl) (by kernel_rfl) (by kernel_rfl) (fun _ _ _ h => h) (Or.inl ⟨by rfl, ?hy27⟩) (by assumption) ?_
    case hy27 => (intro w hSw; (try dsimp only at hSw); go_simp; try with_reducible rfl)
    try simp only [Act.put, List.setIfInBounds_toArray, List.set_cons_zero, List.set_cons_succ]
    refine wpAnyH_take (i := 38) (oi := { dst := some 84, op := Go.Op.move (Go.Operand.tmp 83), type := 4, pos := "law.go:43", after := #[{ on := 37, ground := Go.Ground.data }, { on := 36, ground := Go.Ground.chain }], guard := none }) (v := ?v28) rfl (by kernel_rfl) (by kernel_rfl) (by kernel_rfl) (fun _ _ _ h => h) (Or.inl ⟨by rfl, ?hy28⟩) (by assumption) ?_
    case hy28 => (intro w hSw; (try dsimp only at hSw); go_simp; try with_reducible rfl)
    try simp only [Act.put, List.setIfInBounds_toArray, List.set_cons_zero, List.set_cons_succ]
    refine wpAnyH_take (i := 39) (oi := { dst := some 85, op := Go.Op.move (Go.Operand.tmp 9), type := 38, pos := "law.go:43", after := #[{ on := 38, ground := Go.Ground.guard }], guard := some (38, true) }) (v := ?v29) rfl (by kernel_rfl) (by kernel_rfl) (by kernel_rfl) (fun _ _ _ h => h) (Or.inl ⟨by rfl, ?hy29⟩) (by assumption) ?_
    case hy29 => (intro w hSw; (try dsimp only at hSw); go_simp; try with_reducible rfl)
    try simp only [Act.put, List.setIfInBounds_toArray, List.set_cons_zero, List.set_cons_succ]
    refine wpAnyH_take (i := 40) (oi := { dst := some 86, op := Go.Op.binOp Go.BinOp.eql 38 (Go.Operand.tmp 85) (Go.Operand.const (Go.Value.int Go.IntKind.i64 0)) 38, type := 4, pos := "law.go:43", after := #[{ on := 39, ground := Go.Ground.data }, { on := 38, ground := Go.Ground.guard }], guard := some (38, true) }) (v := ?v30) rfl (by kernel_rfl) (by kernel_rfl) (by kernel_rfl) (fun _ _ _ h => h) (Or.inl ⟨by rfl, ?hy30⟩) (by assumption) ?_
    case hy30 => (intro w hSw; (try dsimp only at hSw); go_simp; try with_reducible rfl)
    try simp only [Act.put, List.setIfInBounds_toArray, List.set_cons_zero, List.set_cons_succ]
    refine wpAnyH_take (i := 41) (oi := { dst := some 87, op := Go.Op.pick (Go.Operand.tmp 84) (Go.Operand.tmp 86) (Go.Operand.const (Go.Value.bool false)), type := 4, pos := "law.go:43", after := #[{ on := 38, ground := Go.Ground.data }, { on := 40, ground := Go.Ground.data }], guard := none }) (v := ?v31) rfl (by kernel_rfl) (by kernel_rfl) (by kernel_rfl) (fun _ _ _ h => h) (Or.inl ⟨by rfl, ?hy31⟩) (by assumption) ?_
    case hy31 => (intro w hSw; (try dsimp only at hSw); go_simp; try with_reducible rfl)
    try simp only [Act.put, List.setIfInBounds_toArray, List.set_cons_zero, List.set_cons_succ]
    refine wpAnyH_take (i := 42) (oi := { dst := some 88, op := Go.Op.move (Go.Operand.tmp 87), type := 4, pos := "law.go:43", after := #[{ on := 41, ground := Go.Ground.data }, { on := 38, ground := Go.Ground.chain }], guard := none }) (v := ?v32) rfl (by kernel_rfl) (by kernel_rfl) (by kernel_rfl) (fun _ _ _ h => h) (Or.inl ⟨by rfl, ?hy32⟩) (by assumption) ?_
    case hy32 => (intro w hSw; (try dsimp only at hSw); go_simp; try with_reducible rfl)
    try simp only [Act.put, List.setIfInBounds_toArray, List.set_cons_zero, List.set_cons_succ]
    refine wpAnyH_take (i := 43) (oi := { dst := some 89, op := Go.Op.move (Go.Operand.tmp 7), type := 29, pos := "law.go:43", after := #[{ on := 42, ground := Go.Ground.guard }], guard := some (42, true) }) (v := ?v33) rfl (by kernel_rfl) (by kernel_rfl) (by kernel_rfl) (fun _ _ _ h => h) (Or.inl ⟨by rfl, ?hy33⟩) (by assumption) ?_
    case hy33 => (intro w hSw; (try dsimp only at hSw); go_simp; try with_reducible rfl)
    try simp only [Act.put, List.setIfInBounds_toArray, List.set_cons_zero, List.set_cons_succ]
    refine wpAnyH_take (i := 44) (oi := { dst := some 90, op := Go.Op.move (Go.Operand.tmp 10), type := 29, pos := "law.go:43", after := #[{ on := 42, ground := Go.Ground.guard }], guard := some (42, true) }) (v := ?v34) rfl (by kernel_rfl) (by kernel_rfl) (by kernel_rfl) (fun _ _ _ h => h) (Or.inl ⟨by rfl, ?hy34⟩) (by assumption) ?_
    case hy34 => (intro w hSw; (try dsimp only at hSw); go_simp; try with_reducible rfl)
    try simp only [Act.put, List.setIfInBounds_toArray, List.set_cons_zero, List.set_cons_succ]
    refine wpAnyH_ready (rs := [45]) (by kernel_rfl) (by simp) ?_
    refine (AllReadyH.cons (i := 45) (o := { dst := some 91, op := Go.Op.call { callee := Go.Callee.value (Go.Operand.func 24), args := #[Go.Operand.tmp 89, Go.Operand.tmp 90], argTypes := #[29, 29] }, type := 4, pos := "law.go:44", after := #[{ on := 43, ground := Go.Ground.data }, { on := 44, ground := Go.Ground.data }, { on := 42, ground := Go.Ground.chain }, { on := 42, ground := Go.Ground.guard }], guard := some (42, true) }) rfl (fun K' hK' => ?_) AllReadyH.nil)
    go_simp
    refine (val_of (congrArg Value.bool X8) (same_any (dO'.after (by (repeat' first | with_reducible exact Below.refl _ _ | with_reducible assumption | with_reducible refine Bw.drew ?_ | with_reducible refine Bw.drewN ?_ _ | with_reducible refine bw_al ?_ _ | with_reducible refine Bw.then ?_ (by with_reducible assumption)))) (dWant.after (by (repeat' first | with_reducible exact Below.refl _ _ | with_reducible assumption | with_reducible refine Bw.drew ?_ | with_reducible refine Bw.drewN ?_ _ | with_reducible refine bw_al ?_ _ | with_reducible refine Bw.then ?_ (by with_reducible assumption)))))).mono ?_
    rintro e w91 ⟨rfl, hb91⟩
    try dsimp only
    refine hK'.out _ _ ?_ (fun hHeld => ?_)
    · exact K1 _ (by (repeat' first | with_reducible exact Below.refl _ _ | with_reducible assumption | with_reducible refine Bw.drew ?_ | with_reducible refine Bw.drewN ?_ _ | with_reducible refine bw_al ?_ _ | with_reducible refine Bw.then ?_ (by with_reducible assumption)))
    clear hK' K'
    try simp only [Act.put, List.setIfInBounds_toArray, List.set_cons_zero, List.set_cons_succ]
    refine wpAnyH_take (i := 46) (oi := { dst := some 92, op := Go.Op.pick (Go.Operand.tmp 88) (Go.Operand.tmp 91) (Go.Operand.const (Go.Value.bool false)), type := 4, pos := "law.go:43", after := #[{ on := 42, ground := Go.Ground.data }, { on := 45, ground := Go.Ground.data }], guard := none }) (v := ?v35) rfl (by kernel_rfl) (by kernel_rfl) (by kernel_rfl) (fun _ _ _ h => h) (Or.inl ⟨by rfl, ?hy35⟩) (by assumption) ?_
    case hy35 => (intro w hSw; (try dsimp only at hSw); go_simp; try with_reducible rfl)
    try simp only [Act.put, List.setIfInBounds_toArray, List.set_cons_zero, List.set_cons_succ]
    refine wpAnyH_take (i := 47) (oi := { dst := some 93, op := Go.Op.move (Go.Operand.tmp 92), type := 4, pos := "law.go:43", after := #[{ on := 46, ground := Go.Ground.data }, { on := 45, ground := Go.Ground.chain }], guard := none }) (v := ?v36) rfl (by kernel_rfl) (by kernel_rfl) (by kernel_rfl) (fun _ _ _ h => h) (Or.inl ⟨by rfl, ?hy36⟩) (by assumption) ?_
    case hy36 => (intro w hSw; (try dsimp only at hSw); go_simp; try with_reducible rfl)
    try simp only [Act.put, List.setIfInBounds_toArray, List.set_cons_zero, List.set_cons_succ]
    refine wpAnyH_take (i := 48) (oi := { dst := some 94, op := Go.Op.move (Go.Operand.tmp 8), type := 45, pos := "law.go:43", after := #[{ on := 47, ground := Go.Ground.guard }], guard := some (47, true) }) (v := ?v37) rfl (by kernel_rfl) (by kernel_rfl) (by kernel_rfl) (fun _ _ _ h => h) (Or.inl ⟨by rfl, ?hy37⟩) (by assumption) ?_
    case hy37 => (intro w hSw; (try dsimp only at hSw); go_simp; try with_reducible rfl)
    try simp only [Act.put, List.setIfInBounds_toArray, List.set_cons_zero, List.set_cons_succ]
    refine wpAnyH_take (i := 49) (oi := { dst := some 95, op := Go.Op.build 52 #[(0, Go.Operand.const (Go.Value.int Go.IntKind.i64 1)), (1, Go.Operand.const (Go.Value.int Go.IntKind.i64 1)), (2, Go.Operand.const (Go.Value.int Go.IntKind.i64 1))], type := 52, pos := "law.go:43", after := #[{ on := 47, ground := Go.Ground.guard }], guard := some (47, true) }) (v := ?v38) rfl (by kernel_rfl) (by kernel_rfl) (by kernel_rfl) (fun _ _ _ h => h) (Or.inl ⟨by rfl, ?hy38⟩) (by assumption) ?_
    case hy38 => (intro w hSw; (try dsimp only at hSw); go_simp; try with_reducible rfl)
    try simp only [Act.put, List.setIfInBounds_toArray, List.set_cons_zero, List.set_cons_succ]
    refine wpAnyH_ready (rs := [50]) (by kernel_rfl) (by simp) ?_
    refine (AllReadyH.cons (i := 50) (o := { dst := some 96, op := Go.Op.buildSlice 45 1 #[(0, Go.Operand.tmp 95)], type := 45, pos := "law.go:43", after := #[{ on := 49, ground := Go.Ground.data }, { on := 47, ground := Go.Ground.guard }], guard := some (47, true) }) rfl (fun K' hK' => ?_) AllReadyH.nil)
    go_simp
    refine hK'.out _ _ ?_ (fun hHeld => ?_)
    · exact K1 _ (by (repeat' first | with_reducible exact Below.refl _ _ | with_reducible assumption | with_reducible refine Bw.drew ?_ | with_reducible refine Bw.drewN ?_ _ | with_reducible refine bw_al ?_ _ | with_reducible refine Bw.then ?_ (by with_reducible assumption)))
    clear hK' K'
    try simp only [Act.put, List.setIfInBounds_toArray, List.set_cons_zero, List.set_cons_succ]
    refine wpAnyH_ready (rs := [51]) (by kernel_rfl) (by simp) ?_
    refine (AllReadyH.cons (i := 51) (o := { dst := some 97, op := Go.Op.call { callee := Go.Callee.value (Go.Operand.func 25), args := #[Go.Operand.tmp 94, Go.Operand.tmp 96], argTypes := #[45, 45] }, type := 4, pos := "law.go:44", after := #[{ on := 48, ground := Go.Ground.data }, { on := 50, ground := Go.Ground.data }, { on := 47, ground := Go.Ground.chain }, { on := 47, ground := Go.Ground.guard }], guard := some (47, true) }) rfl (fun K' hK' => ?_) AllReadyH.nil)
    go_simp
    refine (val_of (congrArg Value.bool X9) (sames_any (dP'.after (by (repeat' first | with_reducible exact Below.refl _ _ | with_reducible assumption | with_reducible refine Bw.drew ?_ | with_reducible refine Bw.drewN ?_ _ | with_reducible refine bw_al ?_ _ | with_reducible refine Bw.then ?_ (by with_reducible assumption)))) (sl_one (T := tStp) (x := ((1 : Int), (1 : Int), (1 : Int))) (cs := [.int .i64 1, .int .i64 1, .int .i64 1]) (at_new rfl) (by simp) (stp_rep (s := ((1 : Int), (1 : Int), (1 : Int))) ⟨by decide, by decide⟩ ⟨by decide, by decide⟩ ⟨by decide, by decide⟩)))).mono ?_
    rintro e w97 ⟨rfl, hb97⟩
    try dsimp only
    refine hK'.out _ _ ?_ (fun hHeld => ?_)
    · exact K1 _ (by (repeat' first | with_reducible exact Below.refl _ _ | with_reducible assumption | with_reducible refine Bw.drew ?_ | with_reducible refine Bw.drewN ?_ _ | with_reducible refine bw_al ?_ _ | with_reducible refine Bw.then ?_ (by with_reducible assumption)))
    clear hK' K'
    try simp only [Act.put, List.setIfInBounds_toArray, List.set_cons_zero, List.set_cons_succ]
    refine wpAnyH_take (i := 52) (oi := { dst := some 98, op := Go.Op.pick (Go.Operand.tmp 93) (Go.Operand.tmp 97) (Go.Operand.const (Go.Value.bool false)), type := 4, pos := "law.go:43", after := #[{ on := 47, ground := Go.Ground.data }, { on := 51, ground := Go.Ground.data }], guard := none }) (v := ?v39) rfl (by kernel_rfl) (by kernel_rfl) (by kernel_rfl) (fun _ _ _ h => h) (Or.inl ⟨by rfl, ?hy39⟩) (by assumption) ?_
    case hy39 => (intro w hSw; (try dsimp only at hSw); go_simp; try with_reducible rfl)
    try simp only [Act.put, List.setIfInBounds_toArray, List.set_cons_zero, List.set_cons_succ]
    refine wpAnyH_take (i := 53) (oi := { dst := some 0, op := Go.Op.assign (Go.Operand.tmp 98), type := 4, pos := "law.go:43", after := #[{ on := 52, ground := Go.Ground.data }, { on := 51, ground := Go.Ground.chain }, { on := 0, ground := Go.Ground.phase }, { on := 1, ground := Go.Ground.phase }, { on := 2, ground := Go.Ground.phase }, { on := 3, ground := Go.Ground.phase }, { on := 4, ground := Go.Ground.phase }, { on := 5, ground := Go.Ground.phase }, { on := 6, ground := Go.Ground.phase }, { on := 7, ground := Go.Ground.phase }, { on := 8, ground := Go.Ground.phase }, { on := 9, ground := Go.Ground.phase }, { on := 10, ground := Go.Ground.phase }, { on := 11, ground := Go.Ground.phase }, { on := 12, ground := Go.Ground.phase }, { on := 13, ground := Go.Ground.phase }, { on := 14, ground := Go.Ground.phase }, { on := 15, ground := Go.Ground.phase }, { on := 16, ground := Go.Ground.phase }, { on := 17, ground := Go.Ground.phase }, { on := 18, ground := Go.Ground.phase }, { on := 19, ground := Go.Ground.phase }, { on := 20, ground := Go.Ground.phase }, { on := 21, ground := Go.Ground.phase }, { on := 22, ground := Go.Ground.phase }, { on := 23, ground := Go.Ground.phase }, { on := 24, ground := Go.Ground.phase }, { on := 25, ground := Go.Ground.phase }, { on := 26, ground := Go.Ground.phase }, { on := 27, ground := Go.Ground.phase }, { on := 28, ground := Go.Ground.phase }, { on := 29, ground := Go.Ground.phase }, { on := 30, ground := Go.Ground.phase }, { on := 31, ground := Go.Ground.phase }, { on := 32, ground := Go.Ground.phase }, { on := 33, ground := Go.Ground.phase }, { on := 34, ground := Go.Ground.phase }, { on := 35, ground := Go.Ground.phase }, { on := 36, ground := Go.Ground.phase }, { on := 37, ground := Go.Ground.phase }, { on := 38, ground := Go.Ground.phase }, { on := 39, ground := Go.Ground.phase }, { on := 40, ground := Go.Ground.phase }, { on := 41, ground := Go.Ground.phase }, { on := 42, ground := Go.Ground.phase }, { on := 43, ground := Go.Ground.phase }, { on := 44, ground := Go.Ground.phase }, { on := 45, ground := Go.Ground.phase }, { on := 46, ground := Go.Ground.phase }, { on := 47, ground := Go.Ground.phase }, { on := 48, ground := Go.Ground.phase }, { on := 49, ground := Go.Ground.phase }, { on := 50, ground := Go.Ground.phase }, { on := 51, ground := Go.Ground.phase }, { on := 52, ground := Go.Ground.phase }], guard := none }) (v := ?v40) rfl (by kernel_rfl) (by kernel_rfl) (by kernel_rfl) (fun _ _ _ h => h) (Or.inl ⟨by rfl, ?hy40⟩) (by assumption) ?_
    case hy40 => (intro w hSw; (try dsimp only at hSw); go_simp; try with_reducible rfl)
    try simp only [Act.put, List.setIfInBounds_toArray, List.set_cons_zero, List.set_cons_succ]
    refine wpAnyH_done (by kernel_rfl) ?_ _
    go_wp2_with fail
    go_ret
    exact ⟨rfl, hbwZ.out.then (by (repeat' first | with_reducible exact Below.refl _ _ | with_reducible assumption | with_reducible refine Bw.drew ?_ | with_reducible refine Bw.drewN ?_ _ | with_reducible refine bw_al ?_ _ | with_reducible refine Bw.then ?_ (by with_reducible assumption)))⟩
  · go_simp
    refine hK'.out _ _ ?_ (fun hHeld => ?_)
    · exact K0 _ (by (repeat' first | with_reducible exact Below.refl _ _ | with_reducible assumption | with_reducible refine Bw.drew ?_ | with_reducible refine Bw.drewN ?_ _ | with_reducible refine bw_al ?_ _ | with_reducible refine Bw.then ?_ (by with_reducible assumption)))
    clear hK' K'
    try simp only [Act.put, List.setIfInBounds_toArray, List.set_cons_zero, List.set_cons_succ]
    refine wpAnyH_ready (rs := [0]) (by kernel_rfl) (by simp) ?_
    refine (AllReadyH.cons (i := 0) (o := { dst := some 46, op := Go.Op.call { callee := Go.Callee.value (Go.Operand.func 30), args := #[], argTypes := #[] }, type := 29, pos := "law.go:43", after := #[], guard := none }) rfl (fun K' hK' => ?_) AllReadyH.nil)
    go_simp
    refine saw_any.mono ?_
    rintro e wA ⟨gA, AA, nA, cA0, bA, oA, cA, A3A, n3A, c3A, PA, mA, qA, rfl, hbA, hgA, hsA⟩
    try dsimp only
    refine hK'.out _ _ ?_ (fun hHeld => ?_)
    · exact K0 _ (by (repeat' first | with_reducible exact Below.refl _ _ | with_reducible assumption | with_reducible refine Bw.drew ?_ | with_reducible refine Bw.drewN ?_ _ | with_reducible refine bw_al ?_ _ | with_reducible refine Bw.then ?_ (by with_reducible assumption)))
    clear hK' K'
    try simp only [Act.put, List.setIfInBounds_toArray, List.set_cons_zero, List.set_cons_succ]
    have K1 : ∀ w', Bw wA w' → ((w'.cell? ⟨w.heap.size + 1, 0, none⟩ = some (.int .i64 1) ∧ w'.cell? ⟨w.heap.size + 1, 1, none⟩ = some (.bool true) ∧ w'.cell? ⟨w.heap.size + 1, 2, none⟩ = some (.bool false) ∧ w'.cell? ⟨w.heap.size + 1, 3, none⟩ = some (.bool false) ∧ w'.cell? ⟨w.heap.size + 1, 4, none⟩ = some (.slice (some ⟨w.heap.size, 0, none⟩) 1 1) ∧ w'.cell? ⟨w.heap.size + 1, 5, none⟩ = some (.slice none 0 0)) ∧ (w'.cell? ⟨w.heap.size + 1 + 1 + 1 + 1, 0, none⟩ = some (.int .i64 1) ∧ w'.cell? ⟨w.heap.size + 1 + 1 + 1 + 1, 1, none⟩ = some (.bool true) ∧ w'.cell? ⟨w.heap.size + 1 + 1 + 1 + 1, 2, none⟩ = some (.bool false) ∧ w'.cell? ⟨w.heap.size + 1 + 1 + 1 + 1, 3, none⟩ = some (.bool false) ∧ w'.cell? ⟨w.heap.size + 1 + 1 + 1 + 1, 4, none⟩ = some (.slice (some ⟨w.heap.size + 1 + 1, 0, none⟩) 1 1) ∧ w'.cell? ⟨w.heap.size + 1 + 1 + 1 + 1, 5, none⟩ = some (.slice (some ⟨w.heap.size + 1 + 1 + 1, 0, none⟩) 1 1)) ∧ (w'.cell? ⟨w4.heap.size, 0, none⟩ = some (.string cSaw.1) ∧ w'.cell? ⟨w4.heap.size, 1, none⟩ = some (.slice SA sn sc)) ∧ w'.cell? ⟨g11, 2, none⟩ = some (.string cSaw.1) ∧ w'.cell? ⟨g11, 3, none⟩ = some (.slice W12 wn wc)) ∧ w'.cell? ⟨gA, 3, none⟩ = some (.slice (some ⟨bA, oA, none⟩) 2 cA) ∧ w'.cell? ⟨bA, oA, none⟩ = some (.slice PA mA qA) := fun w' kk => ⟨K0 w' (Bw.then (show Bw WZ wA from (by (repeat' first | with_reducible exact Below.refl _ _ | with_reducible assumption | with_reducible refine Bw.drew ?_ | with_reducible refine Bw.drewN ?_ _ | with_reducible refine bw_al ?_ _ | with_reducible refine Bw.then ?_ (by with_reducible assumption)))) kk), bw_cell kk (by rw [cell_of_row _ _ 3 _ _ _ hsA.row]; rfl), bw_cell kk hsA.c1⟩
    refine wpAnyH_S (S' := fun w' => ((w'.cell? ⟨w.heap.size + 1, 0, none⟩ = some (.int .i64 1) ∧ w'.cell? ⟨w.heap.size + 1, 1, none⟩ = some (.bool true) ∧ w'.cell? ⟨w.heap.size + 1, 2, none⟩ = some (.bool false) ∧ w'.cell? ⟨w.heap.size + 1, 3, none⟩ = some (.bool false) ∧ w'.cell? ⟨w.heap.size + 1, 4, none⟩ = some (.slice (some ⟨w.heap.size, 0, none⟩) 1 1) ∧ w'.cell? ⟨w.heap.size + 1, 5, none⟩ = some (.slice none 0 0)) ∧ (w'.cell? ⟨w.heap.size + 1 + 1 + 1 + 1, 0, none⟩ = some (.int .i64 1) ∧ w'.cell? ⟨w.heap.size + 1 + 1 + 1 + 1, 1, none⟩ = some (.bool true) ∧ w'.cell? ⟨w.heap.size + 1 + 1 + 1 + 1, 2, none⟩ = some (.bool false) ∧ w'.cell? ⟨w.heap.size + 1 + 1 + 1 + 1, 3, none⟩ = some (.bool false) ∧ w'.cell? ⟨w.heap.size + 1 + 1 + 1 + 1, 4, none⟩ = some (.slice (some ⟨w.heap.size + 1 + 1, 0, none⟩) 1 1) ∧ w'.cell? ⟨w.heap.size + 1 + 1 + 1 + 1, 5, none⟩ = some (.slice (some ⟨w.heap.size + 1 + 1 + 1, 0, none⟩) 1 1)) ∧ (w'.cell? ⟨w4.heap.size, 0, none⟩ = some (.string cSaw.1) ∧ w'.cell? ⟨w4.heap.size, 1, none⟩ = some (.slice SA sn sc)) ∧ w'.cell? ⟨g11, 2, none⟩ = some (.string cSaw.1) ∧ w'.cell? ⟨g11, 3, none⟩ = some (.slice W12 wn wc)) ∧ w'.cell? ⟨gA, 3, none⟩ = some (.slice (some ⟨bA, oA, none⟩) 2 cA) ∧ w'.cell? ⟨bA, oA, none⟩ = some (.slice PA mA qA)) (fun w' h => h.1) ?_
    have hHeld := K1 _ (Below.refl _ _)
    refine wpAnyH_take (i := 1) (oi := { dst := some 47, op := Go.Op.indexAddr 29 (Go.Operand.tmp 46) (Go.Operand.const (Go.Value.int Go.IntKind.i64 1)), type := 0, pos := "law.go:43", after := #[{ on := 0, ground := Go.Ground.data }], guard := none }) (v := ?v41) rfl (by kernel_rfl) (by kernel_rfl) (by kernel_rfl) (fun _ _ _ h => h) (Or.inl ⟨by rfl, ?hy41⟩) (by assumption) ?_
    case hy41 => (intro w hSw; (try dsimp only at hSw); go_simp; try with_reducible rfl)
    try simp only [Act.put, List.setIfInBounds_toArray, List.set_cons_zero, List.set_cons_succ]
    refine wpAnyH_take (i := 2) (oi := { dst := some 48, op := Go.Op.fieldAddr 37 (Go.Operand.tmp 47) 1, type := 0, pos := "law.go:43", after := #[{ on := 1, ground := Go.Ground.data }], guard := none }) (v := ?v42) rfl (by kernel_rfl) (by kernel_rfl) (by kernel_rfl) (fun _ _ _ h => h) (Or.inl ⟨by rfl, ?hy42⟩) (by assumption) ?_
    case hy42 => (intro w hSw; (try dsimp only at hSw); go_simp; try with_reducible rfl)
    try simp only [Act.put, List.setIfInBounds_toArray, List.set_cons_zero, List.set_cons_succ]
    refine wpAnyH_take (i := 3) (oi := { dst := some 49, op := Go.Op.load 35 (Go.Operand.tmp 48), type := 35, pos := "law.go:43", after := #[{ on := 2, ground := Go.Ground.data }], guard := none }) (v := ?v43) rfl (by kernel_rfl) (by kernel_rfl) (by kernel_rfl) (fun _ _ _ h => h) (Or.inl ⟨by rfl, ?hy43⟩) (by assumption) ?_
    case hy43 => (intro w hSw; (try dsimp only at hSw); go_simp; try with_reducible rfl)
    try simp only [Act.put, List.setIfInBounds_toArray, List.set_cons_zero, List.set_cons_succ]
    refine wpAnyH_take (i := 4) (oi := { dst := some 50, op := Go.Op.indexAddr 35 (Go.Operand.tmp 49) (Go.Operand.const (Go.Value.int Go.IntKind.i64 0)), type := 0, pos := "law.go:43", after := #[{ on := 3, ground := Go.Ground.data }], guard := none }) (v := ?v44) rfl (by kernel_rfl) (by kernel_rfl) (by kernel_rfl) (fun _ _ _ h => h) (Or.inl ⟨by rfl, ?hy44⟩) (by assumption) ?_
    case hy44 => (intro w hSw; (try dsimp only at hSw); go_simp; try with_reducible rfl)
    try simp only [Act.put, List.setIfInBounds_toArray, List.set_cons_zero, List.set_cons_succ]
    refine wpAnyH_take (i := 5) (oi := { dst := some 51, op := Go.Op.load 24 (Go.Operand.tmp 50), type := 24, pos := "law.go:43", after := #[{ on := 4, ground := Go.Ground.data }], guard := none }) (v := ?v45) rfl (by kernel_rfl) (by kernel_rfl) (by kernel_rfl) (fun _ _ _ h => h) (Or.inl ⟨by rfl, ?hy45⟩) (by assumption) ?_
    case hy45 => (intro w hSw; (try dsimp only at hSw); go_simp; try with_reducible rfl)
    try simp only [Act.put, List.setIfInBounds_toArray, List.set_cons_zero, List.set_cons_succ]
    refine wpAnyH_ready (rs := [7]) (by kernel_rfl) (by simp) ?_
    refine (AllReadyH.cons (i := 7) (o := { dst := some 53, op := Go.Op.call { callee := Go.Callee.value (Go.Operand.func 13), args := #[Go.Operand.tmp 51, Go.Operand.tmp 52], argTypes := #[24, 22] }, type := 4, pos := "law.go:43", after := #[{ on := 5, ground := Go.Ground.data }, { on := 6, ground := Go.Ground.data }, { on := 0, ground := Go.Ground.chain }], guard := none }) rfl (fun K' hK' => ?_) AllReadyH.nil)
    go_simp
    refine (val_of (congrArg Value.bool X3) (has_any (hsA.sx.after (by (repeat' first | with_reducible exact Below.refl _ _ | with_reducible assumption | with_reducible refine Bw.drew ?_ | with_reducible refine Bw.drewN ?_ _ | with_reducible refine bw_al ?_ _ | with_reducible refine Bw.then ?_ (by with_reducible assumption)))) (lit1 (x := sSg) (by first | exact at_new rfl | exact row_bw hbA (at_new hszZ.symm)) (by decide)))).mono ?_
    rintro e w53 ⟨rfl, hb53⟩
    try dsimp only
    refine hK'.out _ _ ?_ (fun hHeld => ?_)
    · exact K1 _ (by (repeat' first | with_reducible exact Below.refl _ _ | with_reducible assumption | with_reducible refine Bw.drew ?_ | with_reducible refine Bw.drewN ?_ _ | with_reducible refine bw_al ?_ _ | with_reducible refine Bw.then ?_ (by with_reducible assumption)))
    clear hK' K'
    try simp only [Act.put, List.setIfInBounds_toArray, List.set_cons_zero, List.set_cons_succ]
    refine wpAnyH_take (i := 8) (oi := { dst := some 54, op := Go.Op.move (Go.Operand.tmp 53), type := 4, pos := "law.go:43", after := #[{ on := 7, ground := Go.Ground.data }, { on := 7, ground := Go.Ground.chain }], guard := none }) (v := ?v46) rfl (by kernel_rfl) (by kernel_rfl) (by kernel_rfl) (fun _ _ _ h => h) (Or.inl ⟨by rfl, ?hy46⟩) (by assumption) ?_
    case hy46 => (intro w hSw; (try dsimp only at hSw); go_simp; try with_reducible rfl)
    try simp only [Act.put, List.setIfInBounds_toArray, List.set_cons_zero, List.set_cons_succ]
    refine wpAnyH_ready (rs := [9]) (by kernel_rfl) (by simp) ?_
    refine (AllReadyH.cons (i := 9) (o := { dst := some 55, op := Go.Op.call { callee := Go.Callee.value (Go.Operand.func 29), args := #[Go.Operand.const (Go.Value.int Go.IntKind.i64 (-1)), Go.Operand.const (Go.Value.string { data := #[68, 101, 116] })], argTypes := #[3, 9] }, type := 28, pos := "law.go:43", after := #[{ on := 8, ground := Go.Ground.chain }, { on := 8, ground := Go.Ground.guard }], guard := some (8, true) }) rfl (fun K' hK' => ?_) AllReadyH.nil)
    go_simp
    refine (test_any (a := -1) (tag := sDet) (by decide)).mono ?_
    rintro e w55 ⟨u55, rfl, hb55, hu55⟩
    obtain ⟨Q55, q55n, q55c, rfl, _, _, _⟩ := hu55.form'
    try dsimp only
    refine hK'.out _ _ ?_ (fun hHeld => ?_)
    · exact K1 _ (by (repeat' first | with_reducible exact Below.refl _ _ | with_reducible assumption | with_reducible refine Bw.drew ?_ | with_reducible refine Bw.drewN ?_ _ | with_reducible refine bw_al ?_ _ | with_reducible refine Bw.then ?_ (by with_reducible assumption)))
    clear hK' K'
    try simp only [Act.put, List.setIfInBounds_toArray, List.set_cons_zero, List.set_cons_succ]
    refine wpAnyH_ready (rs := [10]) (by kernel_rfl) (by simp) ?_
    refine (AllReadyH.cons (i := 10) (o := { dst := some 56, op := Go.Op.call { callee := Go.Callee.value (Go.Operand.func 30), args := #[], argTypes := #[] }, type := 29, pos := "law.go:43", after := #[{ on := 9, ground := Go.Ground.chain }, { on := 8, ground := Go.Ground.guard }], guard := some (8, true) }) rfl (fun K' hK' => ?_) AllReadyH.nil)
    go_simp
    refine saw_any.mono ?_
    rintro e w56 ⟨gB, AB, nB, cB0, bB, oB, cB, A3B, n3B, c3B, PB, mB, qB, rfl, hb56, hgB, hsB⟩
    try dsimp only
    refine hK'.out _ _ ?_ (fun hHeld => ?_)
    · exact K1 _ (by (repeat' first | with_reducible exact Below.refl _ _ | with_reducible assumption | with_reducible refine Bw.drew ?_ | with_reducible refine Bw.drewN ?_ _ | with_reducible refine bw_al ?_ _ | with_reducible refine Bw.then ?_ (by with_reducible assumption)))
    clear hK' K'
    try simp only [Act.put, List.setIfInBounds_toArray, List.set_cons_zero, List.set_cons_succ]
    refine wpAnyH_ready (rs := [11]) (by kernel_rfl) (by simp) ?_
    refine (AllReadyH.cons (i := 11) (o := { dst := some 57, op := Go.Op.call { callee := Go.Callee.value (Go.Operand.func 16), args := #[Go.Operand.tmp 55, Go.Operand.tmp 56, Go.Operand.const (Go.Value.int Go.IntKind.i64 1)], argTypes := #[28, 29, 3] }, type := 4, pos := "law.go:43", after := #[{ on := 9, ground := Go.Ground.data }, { on := 10, ground := Go.Ground.data }, { on := 10, ground := Go.Ground.chain }, { on := 8, ground := Go.Ground.guard }], guard := some (8, true) }) rfl (fun K' hK' => ?_) AllReadyH.nil)
    go_simp
    refine (val_of (congrArg Value.bool X4) (pHolds_any (t := tDet) (l := sawL) (i := 1) (HTZ.after (by (repeat' first | with_reducible exact Below.refl _ _ | with_reducible assumption | with_reducible refine Bw.drew ?_ | with_reducible refine Bw.drewN ?_ _ | with_reducible refine bw_al ?_ _ | with_reducible refine Bw.then ?_ (by with_reducible assumption)))) ⟨by decide, by decide⟩ (hu55.after (by (repeat' first | with_reducible exact Below.refl _ _ | with_reducible assumption | with_reducible refine Bw.drew ?_ | with_reducible refine Bw.drewN ?_ _ | with_reducible refine bw_al ?_ _ | with_reducible refine Bw.then ?_ (by with_reducible assumption)))) rdNil (hsB.after (by (repeat' first | with_reducible exact Below.refl _ _ | with_reducible assumption | with_reducible refine Bw.drew ?_ | with_reducible refine Bw.drewN ?_ _ | with_reducible refine bw_al ?_ _ | with_reducible refine Bw.then ?_ (by with_reducible assumption)))).rd)).mono ?_
    rintro e w57 ⟨rfl, hb57⟩
    try dsimp only
    refine hK'.out _ _ ?_ (fun hHeld => ?_)
    · exact K1 _ (by (repeat' first | with_reducible exact Below.refl _ _ | with_reducible assumption | with_reducible refine Bw.drew ?_ | with_reducible refine Bw.drewN ?_ _ | with_reducible refine bw_al ?_ _ | with_reducible refine Bw.then ?_ (by with_reducible assumption)))
    clear hK' K'
    try simp only [Act.put, List.setIfInBounds_toArray, List.set_cons_zero, List.set_cons_succ]
    refine wpAnyH_take (i := 12) (oi := { dst := some 58, op := Go.Op.pick (Go.Operand.tmp 54) (Go.Operand.tmp 57) (Go.Operand.const (Go.Value.bool false)), type := 4, pos := "law.go:43", after := #[{ on := 8, ground := Go.Ground.data }, { on := 11, ground := Go.Ground.data }], guard := none }) (v := ?v47) rfl (by kernel_rfl) (by kernel_rfl) (by kernel_rfl) (fun _ _ _ h => h) (Or.inl ⟨by rfl, ?hy47⟩) (by assumption) ?_
    case hy47 => (intro w hSw; (try dsimp only at hSw); go_simp; try with_reducible rfl)
    try simp only [Act.put, List.setIfInBounds_toArray, List.set_cons_zero, List.set_cons_succ]
    refine wpAnyH_take (i := 13) (oi := { dst := some 59, op := Go.Op.move (Go.Operand.tmp 58), type := 4, pos := "law.go:43", after := #[{ on := 12, ground := Go.Ground.data }, { on := 11, ground := Go.Ground.chain }], guard := none }) (v := ?v48) rfl (by kernel_rfl) (by kernel_rfl) (by kernel_rfl) (fun _ _ _ h => h) (Or.inl ⟨by rfl, ?hy48⟩) (by assumption) ?_
    case hy48 => (intro w hSw; (try dsimp only at hSw); go_simp; try with_reducible rfl)
    try simp only [Act.put, List.setIfInBounds_toArray, List.set_cons_zero, List.set_cons_succ]
    refine wpAnyH_take (i := 14) (oi := { dst := some 60, op := Go.Op.load 28 (Go.Operand.tmp 1), type := 28, pos := "law.go:43", after := #[{ on := 13, ground := Go.Ground.guard }], guard := some (13, true) }) (v := ?v49) rfl (by kernel_rfl) (by kernel_rfl) (by kernel_rfl) (fun _ _ _ h => h) (Or.inl ⟨by rfl, ?hy49⟩) (by assumption) ?_
    case hy49 => (intro w hSw; (try dsimp only at hSw); go_simp; try with_reducible rfl)
    try simp only [Act.put, List.setIfInBounds_toArray, List.set_cons_zero, List.set_cons_succ]
    refine wpAnyH_ready (rs := [15]) (by kernel_rfl) (by simp) ?_
    refine (AllReadyH.cons (i := 15) (o := { dst := some 61, op := Go.Op.call { callee := Go.Callee.value (Go.Operand.func 30), args := #[], argTypes := #[] }, type := 29, pos := "law.go:43", after := #[{ on := 13, ground := Go.Ground.chain }, { on := 13, ground := Go.Ground.guard }], guard := some (13, true) }) rfl (fun K' hK' => ?_) AllReadyH.nil)
    go_simp
    refine saw_any.mono ?_
    rintro e w61 ⟨g61, A61, n61, cc61, b61, o61, c61, A361, n361, c361, P61, m61, q61, rfl, hb61, hg61, hs61⟩
    try dsimp only
    refine hK'.out _ _ ?_ (fun hHeld => ?_)
    · exact K1 _ (by (repeat' first | with_reducible exact Below.refl _ _ | with_reducible assumption | with_reducible refine Bw.drew ?_ | with_reducible refine Bw.drewN ?_ _ | with_reducible refine bw_al ?_ _ | with_reducible refine Bw.then ?_ (by with_reducible assumption)))
    clear hK' K'
    try simp only [Act.put, List.setIfInBounds_toArray, List.set_cons_zero, List.set_cons_succ]
    refine wpAnyH_ready (rs := [16]) (by kernel_rfl) (by simp) ?_
    refine (AllReadyH.cons (i := 16) (o := { dst := some 62, op := Go.Op.call { callee := Go.Callee.value (Go.Operand.func 16), args := #[Go.Operand.tmp 60, Go.Operand.tmp 61, Go.Operand.const (Go.Value.int Go.IntKind.i64 0)], argTypes := #[28, 29, 3] }, type := 4, pos := "law.go:43", after := #[{ on := 14, ground := Go.Ground.data }, { on := 15, ground := Go.Ground.data }, { on := 15, ground := Go.Ground.chain }, { on := 13, ground := Go.Ground.guard }], guard := some (13, true) }) rfl (fun K' hK' => ?_) AllReadyH.nil)
    go_simp
    refine (val_of (congrArg Value.bool X5) (pHolds_any (t := tScan) (l := sawL) (i := 0) (HTZ.after (by (repeat' first | with_reducible exact Below.refl _ _ | with_reducible assumption | with_reducible refine Bw.drew ?_ | with_reducible refine Bw.drewN ?_ _ | with_reducible refine bw_al ?_ _ | with_reducible refine Bw.then ?_ (by with_reducible assumption)))) ⟨by decide, by decide⟩ (dS'.after (by (repeat' first | with_reducible exact Below.refl _ _ | with_reducible assumption | with_reducible refine Bw.drew ?_ | with_reducible refine Bw.drewN ?_ _ | with_reducible refine bw_al ?_ _ | with_reducible refine Bw.then ?_ (by with_reducible assumption)))) rdNil (hs61.after (by (repeat' first | with_reducible exact Below.refl _ _ | with_reducible assumption | with_reducible refine Bw.drew ?_ | with_reducible refine Bw.drewN ?_ _ | with_reducible refine bw_al ?_ _ | with_reducible refine Bw.then ?_ (by with_reducible assumption)))).rd)).mono ?_
    rintro e w62 ⟨rfl, hb62⟩
    try dsimp only
    refine hK'.out _ _ ?_ (fun hHeld => ?_)
    · exact K1 _ (by (repeat' first | with_reducible exact Below.refl _ _ | with_reducible assumption | with_reducible refine Bw.drew ?_ | with_reducible refine Bw.drewN ?_ _ | with_reducible refine bw_al ?_ _ | with_reducible refine Bw.then ?_ (by with_reducible assumption)))
    clear hK' K'
    try simp only [Act.put, List.setIfInBounds_toArray, List.set_cons_zero, List.set_cons_succ]
    refine wpAnyH_take (i := 17) (oi := { dst := some 63, op := Go.Op.pick (Go.Operand.tmp 59) (Go.Operand.tmp 62) (Go.Operand.const (Go.Value.bool false)), type := 4, pos := "law.go:43", after := #[{ on := 13, ground := Go.Ground.data }, { on := 16, ground := Go.Ground.data }], guard := none }) (v := ?v50) rfl (by kernel_rfl) (by kernel_rfl) (by kernel_rfl) (fun _ _ _ h => h) (Or.inl ⟨by rfl, ?hy50⟩) (by assumption) ?_
    case hy50 => (intro w hSw; (try dsimp only at hSw); go_simp; try with_reducible rfl)
    try simp only [Act.put, List.setIfInBounds_toArray, List.set_cons_zero, List.set_cons_succ]
    refine wpAnyH_take (i := 18) (oi := { dst := some 64, op := Go.Op.move (Go.Operand.tmp 63), type := 4, pos := "law.go:43", after := #[{ on := 17, ground := Go.Ground.data }, { on := 16, ground := Go.Ground.chain }], guard := none }) (v := ?v51) rfl (by kernel_rfl) (by kernel_rfl) (by kernel_rfl) (fun _ _ _ h => h) (Or.inl ⟨by rfl, ?hy51⟩) (by assumption) ?_
    case hy51 => (intro w hSw; (try dsimp only at hSw); go_simp; try with_reducible rfl)
    try simp only [Act.put, List.setIfInBounds_toArray, List.set_cons_zero, List.set_cons_succ]
    refine wpAnyH_take (i := 19) (oi := { dst := some 65, op := Go.Op.load 28 (Go.Operand.tmp 2), type := 28, pos := "law.go:43", after := #[{ on := 18, ground := Go.Ground.guard }], guard := some (18, true) }) (v := ?v52) rfl (by kernel_rfl) (by kernel_rfl) (by kernel_rfl) (fun _ _ _ h => h) (Or.inl ⟨by rfl, ?hy52⟩) (by assumption) ?_
    case hy52 => (intro w hSw; (try dsimp only at hSw); go_simp; try with_reducible rfl)
    try simp only [Act.put, List.setIfInBounds_toArray, List.set_cons_zero, List.set_cons_succ]
    refine wpAnyH_ready (rs := [20]) (by kernel_rfl) (by simp) ?_
    refine (AllReadyH.cons (i := 20) (o := { dst := some 66, op := Go.Op.call { callee := Go.Callee.value (Go.Operand.func 30), args := #[], argTypes := #[] }, type := 29, pos := "law.go:43", after := #[{ on := 18, ground := Go.Ground.chain }, { on := 18, ground := Go.Ground.guard }], guard := some (18, true) }) rfl (fun K' hK' => ?_) AllReadyH.nil)
    go_simp
    refine saw_any.mono ?_
    rintro e w66 ⟨g66, A66, n66, cc66, b66, o66, c66, A366, n366, c366, P66, m66, q66, rfl, hb66, hg66, hs66⟩
    try dsimp only
    refine hK'.out _ _ ?_ (fun hHeld => ?_)
    · exact K1 _ (by (repeat' first | with_reducible exact Below.refl _ _ | with_reducible assumption | with_reducible refine Bw.drew ?_ | with_reducible refine Bw.drewN ?_ _ | with_reducible refine bw_al ?_ _ | with_reducible refine Bw.then ?_ (by with_reducible assumption)))
    clear hK' K'
    try simp only [Act.put, List.setIfInBounds_toArray, List.set_cons_zero, List.set_cons_succ]
    refine wpAnyH_ready (rs := [21]) (by kernel_rfl) (by simp) ?_
    refine (AllReadyH.cons (i := 21) (o := { dst := some 67, op := Go.Op.call { callee := Go.Callee.value (Go.Operand.func 16), args := #[Go.Operand.tmp 65, Go.Operand.tmp 66, Go.Operand.const (Go.Value.int Go.IntKind.i64 0)], argTypes := #[28, 29, 3] }, type := 4, pos := "law.go:43", after := #[{ on := 19, ground := Go.Ground.data }, { on := 20, ground := Go.Ground.data }, { on := 20, ground := Go.Ground.chain }, { on := 18, ground := Go.Ground.guard }], guard := some (18, true) }) rfl (fun K' hK' => ?_) AllReadyH.nil)
    go_simp
    refine (val_of (congrArg Value.bool X6) (pHolds_any (t := tWall) (l := sawL) (i := 0) (HTZ.after (by (repeat' first | with_reducible exact Below.refl _ _ | with_reducible assumption | with_reducible refine Bw.drew ?_ | with_reducible refine Bw.drewN ?_ _ | with_reducible refine bw_al ?_ _ | with_reducible refine Bw.then ?_ (by with_reducible assumption)))) ⟨by decide, by decide⟩ (dW1'.after (by (repeat' first | with_reducible exact Below.refl _ _ | with_reducible assumption | with_reducible refine Bw.drew ?_ | with_reducible refine Bw.drewN ?_ _ | with_reducible refine bw_al ?_ _ | with_reducible refine Bw.then ?_ (by with_reducible assumption)))) (dW2'.after (by (repeat' first | with_reducible exact Below.refl _ _ | with_reducible assumption | with_reducible refine Bw.drew ?_ | with_reducible refine Bw.drewN ?_ _ | with_reducible refine bw_al ?_ _ | with_reducible refine Bw.then ?_ (by with_reducible assumption)))) (hs66.after (by (repeat' first | with_reducible exact Below.refl _ _ | with_reducible assumption | with_reducible refine Bw.drew ?_ | with_reducible refine Bw.drewN ?_ _ | with_reducible refine bw_al ?_ _ | with_reducible refine Bw.then ?_ (by with_reducible assumption)))).rd)).mono ?_
    rintro e w67 ⟨rfl, hb67⟩
    try dsimp only
    refine hK'.out _ _ ?_ (fun hHeld => ?_)
    · exact K1 _ (by (repeat' first | with_reducible exact Below.refl _ _ | with_reducible assumption | with_reducible refine Bw.drew ?_ | with_reducible refine Bw.drewN ?_ _ | with_reducible refine bw_al ?_ _ | with_reducible refine Bw.then ?_ (by with_reducible assumption)))
    clear hK' K'
    try simp only [Act.put, List.setIfInBounds_toArray, List.set_cons_zero, List.set_cons_succ]
    refine wpAnyH_take (i := 22) (oi := { dst := some 68, op := Go.Op.unOp Go.UnOp.not 4 (Go.Operand.tmp 67), type := 4, pos := "law.go:43", after := #[{ on := 21, ground := Go.Ground.data }, { on := 18, ground := Go.Ground.guard }], guard := some (18, true) }) (v := ?v53) rfl (by kernel_rfl) (by kernel_rfl) (by kernel_rfl) (fun _ _ _ h => h) (Or.inl ⟨by rfl, ?hy53⟩) (by assumption) ?_
    case hy53 => (intro w hSw; (try dsimp only at hSw); go_simp; try with_reducible rfl)
    try simp only [Act.put, List.setIfInBounds_toArray, List.set_cons_zero, List.set_cons_succ]
    refine wpAnyH_take (i := 23) (oi := { dst := some 69, op := Go.Op.pick (Go.Operand.tmp 64) (Go.Operand.tmp 68) (Go.Operand.const (Go.Value.bool false)), type := 4, pos := "law.go:43", after := #[{ on := 18, ground := Go.Ground.data }, { on := 22, ground := Go.Ground.data }], guard := none }) (v := ?v54) rfl (by kernel_rfl) (by kernel_rfl) (by kernel_rfl) (fun _ _ _ h => h) (Or.inl ⟨by rfl, ?hy54⟩) (by assumption) ?_
    case hy54 => (intro w hSw; (try dsimp only at hSw); go_simp; try with_reducible rfl)
    try simp only [Act.put, List.setIfInBounds_toArray, List.set_cons_zero, List.set_cons_succ]
    refine wpAnyH_take (i := 24) (oi := { dst := some 70, op := Go.Op.move (Go.Operand.tmp 69), type := 4, pos := "law.go:43", after := #[{ on := 23, ground := Go.Ground.data }, { on := 21, ground := Go.Ground.chain }], guard := none }) (v := ?v55) rfl (by kernel_rfl) (by kernel_rfl) (by kernel_rfl) (fun _ _ _ h => h) (Or.inl ⟨by rfl, ?hy55⟩) (by assumption) ?_
    case hy55 => (intro w hSw; (try dsimp only at hSw); go_simp; try with_reducible rfl)
    try simp only [Act.put, List.setIfInBounds_toArray, List.set_cons_zero, List.set_cons_succ]
    refine wpAnyH_take (i := 25) (oi := { dst := some 71, op := Go.Op.move (Go.Operand.tmp 5), type := 38, pos := "law.go:43", after := #[{ on := 24, ground := Go.Ground.guard }], guard := some (24, true) }) (v := ?v56) rfl (by kernel_rfl) (by kernel_rfl) (by kernel_rfl) (fun _ _ _ h => h) (Or.inl ⟨by rfl, ?hy56⟩) (by assumption) ?_
    case hy56 => (intro w hSw; (try dsimp only at hSw); go_simp; try with_reducible rfl)
    try simp only [Act.put, List.setIfInBounds_toArray, List.set_cons_zero, List.set_cons_succ]
    refine wpAnyH_take (i := 26) (oi := { dst := some 72, op := Go.Op.binOp Go.BinOp.eql 38 (Go.Operand.tmp 71) (Go.Operand.const (Go.Value.int Go.IntKind.i64 0)) 38, type := 4, pos := "law.go:43", after := #[{ on := 25, ground := Go.Ground.data }, { on := 24, ground := Go.Ground.guard }], guard := some (24, true) }) (v := ?v57) rfl (by kernel_rfl) (by kernel_rfl) (by kernel_rfl) (fun _ _ _ h => h) (Or.inl ⟨by rfl, ?hy57⟩) (by assumption) ?_
    case hy57 => (intro w hSw; (try dsimp only at hSw); go_simp; try with_reducible rfl)
    try simp only [Act.put, List.setIfInBounds_toArray, List.set_cons_zero, List.set_cons_succ]
    refine wpAnyH_take (i := 27) (oi := { dst := some 73, op := Go.Op.pick (Go.Operand.tmp 70) (Go.Operand.tmp 72) (Go.Operand.const (Go.Value.bool false)), type := 4, pos := "law.go:43", after := #[{ on := 24, ground := Go.Ground.data }, { on := 26, ground := Go.Ground.data }], guard := none }) (v := ?v58) rfl (by kernel_rfl) (by kernel_rfl) (by kernel_rfl) (fun _ _ _ h => h) (Or.inl ⟨by rfl, ?hy58⟩) (by assumption) ?_
    case hy58 => (intro w hSw; (try dsimp only at hSw); go_simp; try with_reducible rfl)
    try simp only [Act.put, List.setIfInBounds_toArray, List.set_cons_zero, List.set_cons_succ]
    refine wpAnyH_take (i := 28) (oi := { dst := some 74, op := Go.Op.move (Go.Operand.tmp 73), type := 4, pos := "law.go:43", after := #[{ on := 27, ground := Go.Ground.data }, { on := 24, ground := Go.Ground.chain }], guard := none }) (v := ?v59) rfl (by kernel_rfl) (by kernel_rfl) (by kernel_rfl) (fun _ _ _ h => h) (Or.inl ⟨by rfl, ?hy59⟩) (by assumption) ?_
    case hy59 => (intro w hSw; (try dsimp only at hSw); go_simp; try with_reducible rfl)
    try simp only [Act.put, List.setIfInBounds_toArray, List.set_cons_zero, List.set_cons_succ]
    refine wpAnyH_take (i := 29) (oi := { dst := some 75, op := Go.Op.move (Go.Operand.tmp 4), type := 4, pos := "law.go:43", after := #[{ on := 28, ground := Go.Ground.guard }], guard := some (28, true) }) (v := ?v60) rfl (by kernel_rfl) (by kernel_rfl) (by kernel_rfl) (fun _ _ _ h => h) (Or.inl ⟨by rfl, ?hy60⟩) (by assumption) ?_
    case hy60 => (intro w hSw; (try dsimp only at hSw); go_simp; try with_reducible rfl)
    try simp only [Act.put, List.setIfInBounds_toArray, List.set_cons_zero, List.set_cons_succ]
    refine wpAnyH_take (i := 30) (oi := { dst := some 76, op := Go.Op.pick (Go.Operand.tmp 74) (Go.Operand.tmp 75) (Go.Operand.const (Go.Value.bool false)), type := 4, pos := "law.go:43", after := #[{ on := 28, ground := Go.Ground.data }, { on := 29, ground := Go.Ground.data }], guard := none }) (v := ?v61) rfl (by kernel_rfl) (by kernel_rfl) (by kernel_rfl) (fun _ _ _ h => h) (Or.inl ⟨by rfl, ?hy61⟩) (by assumption) ?_
    case hy61 => (intro w hSw; (try dsimp only at hSw); go_simp; try with_reducible rfl)
    try simp only [Act.put, List.setIfInBounds_toArray, List.set_cons_zero, List.set_cons_succ]
    refine wpAnyH_take (i := 31) (oi := { dst := some 77, op := Go.Op.move (Go.Operand.tmp 76), type := 4, pos := "law.go:43", after := #[{ on := 30, ground := Go.Ground.data }, { on := 28, ground := Go.Ground.chain }], guard := none }) (v := ?v62) rfl (by kernel_rfl) (by kernel_rfl) (by kernel_rfl) (fun _ _ _ h => h) (Or.inl ⟨by rfl, ?hy62⟩) (by assumption) ?_
    case hy62 => (intro w hSw; (try dsimp only at hSw); go_simp; try with_reducible rfl)
    try simp only [Act.put, List.setIfInBounds_toArray, List.set_cons_zero, List.set_cons_succ]
    refine wpAnyH_take (i := 32) (oi := { dst := some 78, op := Go.Op.load 37 (Go.Operand.tmp 3), type := 37, pos := "law.go:43", after := #[{ on := 31, ground := Go.Ground.guard }], guard := some (31, true) }) (v := ?v63) rfl (by kernel_rfl) (by kernel_rfl) (by kernel_rfl) (fun _ _ _ h => h) (Or.inl ⟨by rfl, ?hy63⟩) (by assumption) ?_
    case hy63 => (intro w hSw; (try dsimp only at hSw); go_simp; try with_reducible rfl)
    try simp only [Act.put, List.setIfInBounds_toArray, List.set_cons_zero, List.set_cons_succ]
    refine wpAnyH_take (i := 33) (oi := { dst := some 79, op := Go.Op.move (Go.Operand.tmp 10), type := 29, pos := "law.go:43", after := #[{ on := 31, ground := Go.Ground.guard }], guard := some (31, true) }) (v := ?v64) rfl (by kernel_rfl) (by kernel_rfl) (by kernel_rfl) (fun _ _ _ h => h) (Or.inl ⟨by rfl, ?hy64⟩) (by assumption) ?_
    case hy64 => (intro w hSw; (try dsimp only at hSw); go_simp; try with_reducible rfl)
    try simp only [Act.put, List.setIfInBounds_toArray, List.set_cons_zero, List.set_cons_succ]
    refine wpAnyH_take (i := 34) (oi := { dst := some 80, op := Go.Op.indexAddr 29 (Go.Operand.tmp 79) (Go.Operand.const (Go.Value.int Go.IntKind.i64 1)), type := 0, pos := "law.go:43", after := #[{ on := 33, ground := Go.Ground.data }, { on := 31, ground := Go.Ground.guard }], guard := some (31, true) }) (v := ?v65) rfl (by kernel_rfl) (by kernel_rfl) (by kernel_rfl) (fun _ _ _ h => h) (Or.inl ⟨by rfl, ?hy65⟩) (by assumption) ?_
    case hy65 => (intro w hSw; (try dsimp only at hSw); go_simp; try with_reducible rfl)
    try simp only [Act.put, List.setIfInBounds_toArray, List.set_cons_zero, List.set_cons_succ]
    refine wpAnyH_take (i := 35) (oi := { dst := some 81, op := Go.Op.load 37 (Go.Operand.tmp 80), type := 37, pos := "law.go:43", after := #[{ on := 34, ground := Go.Ground.data }, { on := 31, ground := Go.Ground.guard }], guard := some (31, true) }) (v := ?v66) rfl (by kernel_rfl) (by kernel_rfl) (by kernel_rfl) (fun _ _ _ h => h) (Or.inl ⟨by rfl, ?hy66⟩) (by assumption) ?_
    case hy66 => (intro w hSw; (try dsimp only at hSw); go_simp; try with_reducible rfl)
    try simp only [Act.put, List.setIfInBounds_toArray, List.set_cons_zero, List.set_cons_succ]
    refine wpAnyH_ready (rs := [36]) (by kernel_rfl) (by simp) ?_
    refine (AllReadyH.cons (i := 36) (o := { dst := some 82, op := Go.Op.call { callee := Go.Callee.value (Go.Operand.func 20), args := #[Go.Operand.tmp 78, Go.Operand.tmp 81], argTypes := #[37, 37] }, type := 4, pos := "law.go:44", after := #[{ on := 32, ground := Go.Ground.data }, { on := 35, ground := Go.Ground.data }, { on := 31, ground := Go.Ground.chain }, { on := 31, ground := Go.Ground.guard }], guard := some (31, true) }) rfl (fun K' hK' => ?_) AllReadyH.nil)
    go_simp
    refine (val_of (congrArg Value.bool X7) (samec_any (f1 := cSaw.1) (f2 := cSaw.1) (dC'.after (by (repeat' first | with_reducible exact Below.refl _ _ | with_reducible assumption | with_reducible refine Bw.drew ?_ | with_reducible refine Bw.drewN ?_ _ | with_reducible refine bw_al ?_ _ | with_reducible refine Bw.then ?_ (by with_reducible assumption)))) (dNew.after (by (repeat' first | with_reducible exact Below.refl _ _ | with_reducible assumption | with_reducible refine Bw.drew ?_ | with_reducible refine Bw.drewN ?_ _ | with_reducible refine bw_al ?_ _ | with_reducible refine Bw.then ?_ (by with_reducible assumption)))))).mono ?_
    rintro e w82 ⟨rfl, hb82⟩
    try dsimp only
    refine hK'.out _ _ ?_ (fun hHeld => ?_)
    · exact K1 _ (by (repeat' first | with_reducible exact Below.refl _ _ | with_reducible assumption | with_reducible refine Bw.drew ?_ | with_reducible refine Bw.drewN ?_ _ | with_reducible refine bw_al ?_ _ | with_reducible refine Bw.then ?_ (by with_reducible assumption)))
    clear hK' K'
    try simp only [Act.put, List.setIfInBounds_toArray, List.set_cons_zero, List.set_cons_succ]
    refine wpAnyH_take (i := 37) (oi := { dst := some 83, op := Go.Op.pick (Go.Operand.tmp 77) (Go.Operand.tmp 82) (Go.Operand.const (Go.Value.bool false)), type := 4, pos := "law.go:43", after := #[{ on := 31, ground := Go.Ground.data }, { on := 36, ground := Go.Ground.data }], guard := none }) (v := ?v67) rfl (by kernel_rfl) (by kernel_rfl) (by kernel_rfl) (fun _ _ _ h => h) (Or.inl ⟨by rfl, ?hy67⟩) (by assumption) ?_
    case hy67 => (intro w hSw; (try dsimp only at hSw); go_simp; try with_reducible rfl)
    try simp only [Act.put, List.setIfInBounds_toArray, List.set_cons_zero, List.set_cons_succ]
    refine wpAnyH_take (i := 38) (oi := { dst := some 84, op := Go.Op.move (Go.Operand.tmp 83), type := 4, pos := "law.go:43", after := #[{ on := 37, ground := Go.Ground.data }, { on := 36, ground := Go.Ground.chain }], guard := none }) (v := ?v68) rfl (by kernel_rfl) (by kernel_rfl) (by kernel_rfl) (fun _ _ _ h => h) (Or.inl ⟨by rfl, ?hy68⟩) (by assumption) ?_
    case hy68 => (intro w hSw; (try dsimp only at hSw); go_simp; try with_reducible rfl)
    try simp only [Act.put, List.setIfInBounds_toArray, List.set_cons_zero, List.set_cons_succ]
    refine wpAnyH_take (i := 39) (oi := { dst := some 85, op := Go.Op.move (Go.Operand.tmp 9), type := 38, pos := "law.go:43", after := #[{ on := 38, ground := Go.Ground.guard }], guard := some (38, true) }) (v := ?v69) rfl (by kernel_rfl) (by kernel_rfl) (by kernel_rfl) (fun _ _ _ h => h) (Or.inl ⟨by rfl, ?hy69⟩) (by assumption) ?_
    case hy69 => (intro w hSw; (try dsimp only at hSw); go_simp; try with_reducible rfl)
    try simp only [Act.put, List.setIfInBounds_toArray, List.set_cons_zero, List.set_cons_succ]
    refine wpAnyH_take (i := 40) (oi := { dst := some 86, op := Go.Op.binOp Go.BinOp.eql 38 (Go.Operand.tmp 85) (Go.Operand.const (Go.Value.int Go.IntKind.i64 0)) 38, type := 4, pos := "law.go:43", after := #[{ on := 39, ground := Go.Ground.data }, { on := 38, ground := Go.Ground.guard }], guard := some (38, true) }) (v := ?v70) rfl (by kernel_rfl) (by kernel_rfl) (by kernel_rfl) (fun _ _ _ h => h) (Or.inl ⟨by rfl, ?hy70⟩) (by assumption) ?_
    case hy70 => (intro w hSw; (try dsimp only at hSw); go_simp; try with_reducible rfl)
    try simp only [Act.put, List.setIfInBounds_toArray, List.set_cons_zero, List.set_cons_succ]
    refine wpAnyH_take (i := 41) (oi := { dst := some 87, op := Go.Op.pick (Go.Operand.tmp 84) (Go.Operand.tmp 86) (Go.Operand.const (Go.Value.bool false)), type := 4, pos := "law.go:43", after := #[{ on := 38, ground := Go.Ground.data }, { on := 40, ground := Go.Ground.data }], guard := none }) (v := ?v71) rfl (by kernel_rfl) (by kernel_rfl) (by kernel_rfl) (fun _ _ _ h => h) (Or.inl ⟨by rfl, ?hy71⟩) (by assumption) ?_
    case hy71 => (intro w hSw; (try dsimp only at hSw); go_simp; try with_reducible rfl)
    try simp only [Act.put, List.setIfInBounds_toArray, List.set_cons_zero, List.set_cons_succ]
    refine wpAnyH_take (i := 42) (oi := { dst := some 88, op := Go.Op.move (Go.Operand.tmp 87), type := 4, pos := "law.go:43", after := #[{ on := 41, ground := Go.Ground.data }, { on := 38, ground := Go.Ground.chain }], guard := none }) (v := ?v72) rfl (by kernel_rfl) (by kernel_rfl) (by kernel_rfl) (fun _ _ _ h => h) (Or.inl ⟨by rfl, ?hy72⟩) (by assumption) ?_
    case hy72 => (intro w hSw; (try dsimp only at hSw); go_simp; try with_reducible rfl)
    try simp only [Act.put, List.setIfInBounds_toArray, List.set_cons_zero, List.set_cons_succ]
    refine wpAnyH_take (i := 43) (oi := { dst := some 89, op := Go.Op.move (Go.Operand.tmp 7), type := 29, pos := "law.go:43", after := #[{ on := 42, ground := Go.Ground.guard }], guard := some (42, true) }) (v := ?v73) rfl (by kernel_rfl) (by kernel_rfl) (by kernel_rfl) (fun _ _ _ h => h) (Or.inl ⟨by rfl, ?hy73⟩) (by assumption) ?_
    case hy73 => (intro w hSw; (try dsimp only at hSw); go_simp; try with_reducible rfl)
    try simp only [Act.put, List.setIfInBounds_toArray, List.set_cons_zero, List.set_cons_succ]
    refine wpAnyH_take (i := 44) (oi := { dst := some 90, op := Go.Op.move (Go.Operand.tmp 10), type := 29, pos := "law.go:43", after := #[{ on := 42, ground := Go.Ground.guard }], guard := some (42, true) }) (v := ?v74) rfl (by kernel_rfl) (by kernel_rfl) (by kernel_rfl) (fun _ _ _ h => h) (Or.inl ⟨by rfl, ?hy74⟩) (by assumption) ?_
    case hy74 => (intro w hSw; (try dsimp only at hSw); go_simp; try with_reducible rfl)
    try simp only [Act.put, List.setIfInBounds_toArray, List.set_cons_zero, List.set_cons_succ]
    refine wpAnyH_ready (rs := [45]) (by kernel_rfl) (by simp) ?_
    refine (AllReadyH.cons (i := 45) (o := { dst := some 91, op := Go.Op.call { callee := Go.Callee.value (Go.Operand.func 24), args := #[Go.Operand.tmp 89, Go.Operand.tmp 90], argTypes := #[29, 29] }, type := 4, pos := "law.go:44", after := #[{ on := 43, ground := Go.Ground.data }, { on := 44, ground := Go.Ground.data }, { on := 42, ground := Go.Ground.chain }, { on := 42, ground := Go.Ground.guard }], guard := some (42, true) }) rfl (fun K' hK' => ?_) AllReadyH.nil)
    go_simp
    refine (val_of (congrArg Value.bool X8) (same_any (dO'.after (by (repeat' first | with_reducible exact Below.refl _ _ | with_reducible assumption | with_reducible refine Bw.drew ?_ | with_reducible refine Bw.drewN ?_ _ | with_reducible refine bw_al ?_ _ | with_reducible refine Bw.then ?_ (by with_reducible assumption)))) (dWant.after (by (repeat' first | with_reducible exact Below.refl _ _ | with_reducible assumption | with_reducible refine Bw.drew ?_ | with_reducible refine Bw.drewN ?_ _ | with_reducible refine bw_al ?_ _ | with_reducible refine Bw.then ?_ (by with_reducible assumption)))))).mono ?_
    rintro e w91 ⟨rfl, hb91⟩
    try dsimp only
    refine hK'.out _ _ ?_ (fun hHeld => ?_)
    · exact K1 _ (by (repeat' first | with_reducible exact Below.refl _ _ | with_reducible assumption | with_reducible refine Bw.drew ?_ | with_reducible refine Bw.drewN ?_ _ | with_reducible refine bw_al ?_ _ | with_reducible refine Bw.then ?_ (by with_reducible assumption)))
    clear hK' K'
    try simp only [Act.put, List.setIfInBounds_toArray, List.set_cons_zero, List.set_cons_succ]
    refine wpAnyH_take (i := 46) (oi := { dst := some 92, op := Go.Op.pick (Go.Operand.tmp 88) (Go.Operand.tmp 91) (Go.Operand.const (Go.Value.bool false)), type := 4, pos := "law.go:43", after := #[{ on := 42, ground := Go.Ground.data }, { on := 45, ground := Go.Ground.data }], guard := none }) (v := ?v75) rfl (by kernel_rfl) (by kernel_rfl) (by kernel_rfl) (fun _ _ _ h => h) (Or.inl ⟨by rfl, ?hy75⟩) (by assumption) ?_
    case hy75 => (intro w hSw; (try dsimp only at hSw); go_simp; try with_reducible rfl)
    try simp only [Act.put, List.setIfInBounds_toArray, List.set_cons_zero, List.set_cons_succ]
    refine wpAnyH_take (i := 47) (oi := { dst := some 93, op := Go.Op.move (Go.Operand.tmp 92), type := 4, pos := "law.go:43", after := #[{ on := 46, ground := Go.Ground.data }, { on := 45, ground := Go.Ground.chain }], guard := none }) (v := ?v76) rfl (by kernel_rfl) (by kernel_rfl) (by kernel_rfl) (fun _ _ _ h => h) (Or.inl ⟨by rfl, ?hy76⟩) (by assumption) ?_
    case hy76 => (intro w hSw; (try dsimp only at hSw); go_simp; try with_reducible rfl)
    try simp only [Act.put, List.setIfInBounds_toArray, List.set_cons_zero, List.set_cons_succ]
    refine wpAnyH_take (i := 48) (oi := { dst := some 94, op := Go.Op.move (Go.Operand.tmp 8), type := 45, pos := "law.go:43", after := #[{ on := 47, ground := Go.Ground.guard }], guard := some (47, true) }) (v := ?v77) rfl (by kernel_rfl) (by kernel_rfl) (by kernel_rfl) (fun _ _ _ h => h) (Or.inl ⟨by rfl, ?hy77⟩) (by assumption) ?_
    case hy77 => (intro w hSw; (try dsimp only at hSw); go_simp; try with_reducible rfl)
    try simp only [Act.put, List.setIfInBounds_toArray, List.set_cons_zero, List.set_cons_succ]
    refine wpAnyH_take (i := 49) (oi := { dst := some 95, op := Go.Op.build 52 #[(0, Go.Operand.const (Go.Value.int Go.IntKind.i64 1)), (1, Go.Operand.const (Go.Value.int Go.IntKind.i64 1)), (2, Go.Operand.const (Go.Value.int Go.IntKind.i64 1))], type := 52, pos := "law.go:43", after := #[{ on := 47, ground := Go.Ground.guard }], guard := some (47, true) }) (v := ?v78) rfl (by kernel_rfl) (by kernel_rfl) (by kernel_rfl) (fun _ _ _ h => h) (Or.inl ⟨by rfl, ?hy78⟩) (by assumption) ?_
    case hy78 => (intro w hSw; (try dsimp only at hSw); go_simp; try with_reducible rfl)
    try simp only [Act.put, List.setIfInBounds_toArray, List.set_cons_zero, List.set_cons_succ]
    refine wpAnyH_ready (rs := [50]) (by kernel_rfl) (by simp) ?_
    refine (AllReadyH.cons (i := 50) (o := { dst := some 96, op := Go.Op.buildSlice 45 1 #[(0, Go.Operand.tmp 95)], type := 45, pos := "law.go:43", after := #[{ on := 49, ground := Go.Ground.data }, { on := 47, ground := Go.Ground.guard }], guard := some (47, true) }) rfl (fun K' hK' => ?_) AllReadyH.nil)
    go_simp
    refine hK'.out _ _ ?_ (fun hHeld => ?_)
    · exact K1 _ (by (repeat' first | with_reducible exact Below.refl _ _ | with_reducible assumption | with_reducible refine Bw.drew ?_ | with_reducible refine Bw.drewN ?_ _ | with_reducible refine bw_al ?_ _ | with_reducible refine Bw.then ?_ (by with_reducible assumption)))
    clear hK' K'
    try simp only [Act.put, List.setIfInBounds_toArray, List.set_cons_zero, List.set_cons_succ]
    refine wpAnyH_ready (rs := [51]) (by kernel_rfl) (by simp) ?_
    refine (AllReadyH.cons (i := 51) (o := { dst := some 97, op := Go.Op.call { callee := Go.Callee.value (Go.Operand.func 25), args := #[Go.Operand.tmp 94, Go.Operand.tmp 96], argTypes := #[45, 45] }, type := 4, pos := "law.go:44", after := #[{ on := 48, ground := Go.Ground.data }, { on := 50, ground := Go.Ground.data }, { on := 47, ground := Go.Ground.chain }, { on := 47, ground := Go.Ground.guard }], guard := some (47, true) }) rfl (fun K' hK' => ?_) AllReadyH.nil)
    go_simp
    refine (val_of (congrArg Value.bool X9) (sames_any (dP'.after (by (repeat' first | with_reducible exact Below.refl _ _ | with_reducible assumption | with_reducible refine Bw.drew ?_ | with_reducible refine Bw.drewN ?_ _ | with_reducible refine bw_al ?_ _ | with_reducible refine Bw.then ?_ (by with_reducible assumption)))) (sl_one (T := tStp) (x := ((1 : Int), (1 : Int), (1 : Int))) (cs := [.int .i64 1, .int .i64 1, .int .i64 1]) (at_new rfl) (by simp) (stp_rep (s := ((1 : Int), (1 : Int), (1 : Int))) ⟨by decide, by decide⟩ ⟨by decide, by decide⟩ ⟨by decide, by decide⟩)))).mono ?_
    rintro e w97 ⟨rfl, hb97⟩
    try dsimp only
    refine hK'.out _ _ ?_ (fun hHeld => ?_)
    · exact K1 _ (by (repeat' first | with_reducible exact Below.refl _ _ | with_reducible assumption | with_reducible refine Bw.drew ?_ | with_reducible refine Bw.drewN ?_ _ | with_reducible refine bw_al ?_ _ | with_reducible refine Bw.then ?_ (by with_reducible assumption)))
    clear hK' K'
    try simp only [Act.put, List.setIfInBounds_toArray, List.set_cons_zero, List.set_cons_succ]
    refine wpAnyH_take (i := 52) (oi := { dst := some 98, op := Go.Op.pick (Go.Operand.tmp 93) (Go.Operand.tmp 97) (Go.Operand.const (Go.Value.bool false)), type := 4, pos := "law.go:43", after := #[{ on := 47, ground := Go.Ground.data }, { on := 51, ground := Go.Ground.data }], guard := none }) (v := ?v79) rfl (by kernel_rfl) (by kernel_rfl) (by kernel_rfl) (fun _ _ _ h => h) (Or.inl ⟨by rfl, ?hy79⟩) (by assumption) ?_
    case hy79 => (intro w hSw; (try dsimp only at hSw); go_simp; try with_reducible rfl)
    try simp only [Act.put, List.setIfInBounds_toArray, List.set_cons_zero, List.set_cons_succ]
    refine wpAnyH_take (i := 53) (oi := { dst := some 0, op := Go.Op.assign (Go.Operand.tmp 98), type := 4, pos := "law.go:43", after := #[{ on := 52, ground := Go.Ground.data }, { on := 51, ground := Go.Ground.chain }, { on := 0, ground := Go.Ground.phase }, { on := 1, ground := Go.Ground.phase }, { on := 2, ground := Go.Ground.phase }, { on := 3, ground := Go.Ground.phase }, { on := 4, ground := Go.Ground.phase }, { on := 5, ground := Go.Ground.phase }, { on := 6, ground := Go.Ground.phase }, { on := 7, ground := Go.Ground.phase }, { on := 8, ground := Go.Ground.phase }, { on := 9, ground := Go.Ground.phase }, { on := 10, ground := Go.Ground.phase }, { on := 11, ground := Go.Ground.phase }, { on := 12, ground := Go.Ground.phase }, { on := 13, ground := Go.Ground.phase }, { on := 14, ground := Go.Ground.phase }, { on := 15, ground := Go.Ground.phase }, { on := 16, ground := Go.Ground.phase }, { on := 17, ground := Go.Ground.phase }, { on := 18, ground := Go.Ground.phase }, { on := 19, ground := Go.Ground.phase }, { on := 20, ground := Go.Ground.phase }, { on := 21, ground := Go.Ground.phase }, { on := 22, ground := Go.Ground.phase }, { on := 23, ground := Go.Ground.phase }, { on := 24, ground := Go.Ground.phase }, { on := 25, ground := Go.Ground.phase }, { on := 26, ground := Go.Ground.phase }, { on := 27, ground := Go.Ground.phase }, { on := 28, ground := Go.Ground.phase }, { on := 29, ground := Go.Ground.phase }, { on := 30, ground := Go.Ground.phase }, { on := 31, ground := Go.Ground.phase }, { on := 32, ground := Go.Ground.phase }, { on := 33, ground := Go.Ground.phase }, { on := 34, ground := Go.Ground.phase }, { on := 35, ground := Go.Ground.phase }, { on := 36, ground := Go.Ground.phase }, { on := 37, ground := Go.Ground.phase }, { on := 38, ground := Go.Ground.phase }, { on := 39, ground := Go.Ground.phase }, { on := 40, ground := Go.Ground.phase }, { on := 41, ground := Go.Ground.phase }, { on := 42, ground := Go.Ground.phase }, { on := 43, ground := Go.Ground.phase }, { on := 44, ground := Go.Ground.phase }, { on := 45, ground := Go.Ground.phase }, { on := 46, ground := Go.Ground.phase }, { on := 47, ground := Go.Ground.phase }, { on := 48, ground := Go.Ground.phase }, { on := 49, ground := Go.Ground.phase }, { on := 50, ground := Go.Ground.phase }, { on := 51, ground := Go.Ground.phase }, { on := 52, ground := Go.Ground.phase }], guard := none }) (v := ?v80) rfl (by kernel_rfl) (by kernel_rfl) (by kernel_rfl) (fun _ _ _ h => h) (Or.inl ⟨by rfl, ?hy80⟩) (by assumption) ?_
    case hy80 => (intro w hSw; (try dsimp only at hSw); go_simp; try with_reducible rfl)
    try simp only [Act.put, List.setIfInBounds_toArray, List.set_cons_zero, List.set_cons_succ]
    refine wpAnyH_done (by kernel_rfl) ?_ _
    go_wp2_with fail
    go_ret
    exact ⟨rfl, hbwZ.out.then (by (repeat' first | with_reducible exact Below.refl _ _ | with_reducible assumption | with_reducible refine Bw.drew ?_ | with_reducible refine Bw.drewN ?_ _ | with_reducible refine bw_al ?_ _ | with_reducible refine Bw.then ?_ (by with_reducible assumption)))⟩
end Go.Proofs.YthecmbmidoagaaaDoor
